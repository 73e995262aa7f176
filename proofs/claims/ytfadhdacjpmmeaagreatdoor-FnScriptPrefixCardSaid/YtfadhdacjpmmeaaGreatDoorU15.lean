/- Parts. -/
import Derived.Test.YtfadhdacjpmmeaaGreatDoorU14
import Derived.Lib.SmallJoins
import Derived.Lib.MinMax
import Derived.RangeFuncNested
import Derived.RangeFuncBound
import Derived.Maps.OwnIn
import Derived.LaidOnce
import Derived.Shelf.SlSortCmp.InsertionK
import Derived.Lib.SortBridge
import Derived.Test.YtfadhdacjpmmeaaGreatDoorU12
set_option linter.unusedVariables false
set_option linter.unusedSimpArgs false
set_option maxRecDepth 100000
set_option maxHeartbeats 16000000
open Go.Proofs.Tryz
open Go renaming madeCells->bF
open Go.IntKind renaming i64->aD
open Go.Obj renaming cells->aB
open Go.Value renaming string->aG,int->aH
namespace Go.Proofs.YtfadhdacjpmmeaaGreatDoor
open Go.RowKit
theorem AiK:∀n:Nat,Lib.decDigits n=Pg n:=by
 intro n
 induction n using Nat.strongRecOn with
 |_ n ih=>
  rw[Lib.decDigits];by_cases h:n<10
  .rw[dif_pos h]
   unfold Pg;by_cases h0:n=0
   .rw[aQ h0,h0];rfl
   .rw[aM h0,Nr ZA ZA]
    unfold b8;rw[show(48+(n:Int)).toNat=48+n by omega]
  .rw[dif_neg h,ih (n/10) ZA]
   unfold Pg;rw[aM ZA,aM ZA,I2 (n:=n) ZA]
theorem AnD(n:Nat):(⟨(Lib.itoa (n:Int)).toArray⟩:Y_)=Cl n:=by unfold Lib.itoa Cl;rw[aM ZA,bE,AiK]
theorem AgZ{α:Type}(sep x:List α):∀(l:List (List α)),l≠[]->sep.intercalate (l++[x])=sep.intercalate l++sep++x
 |[],h=>absurd rfl h
 |[a],_=>ZE7
 |a::b::l,_=>by
  have ih:=AgZ sep x (b::l) ZF;have e:∀(c:List α) (m:List (List α)),sep.intercalate (a::c::m)=a++sep++sep.intercalate (c::m):=fun c m=>ZE7
  rw[cK,cK,e,<-cK,ih,e];simp only[cZ]
def Cg(ps:List Y_)(sep:Y_):Y_:=⟨(Lib.join (ps.map (·.data.toList)) sep.data.toList).toArray⟩
theorem Km(sep):Cg [] sep=⟨#[]⟩:=by unfold Cg Lib.join;rfl
theorem Kp(p sep):Cg [p] sep=p:=by refine Cv ?_;simp[Cg,Lib.join,List.intercalate,List.intersperse]
theorem G5(ps p sep)(h:ps≠[]):Cg (ps++[p]) sep=Cg ps sep++sep++p:=by refine Cv ?_;rw[B6,B6];unfold Cg Lib.join;rw[cG,cD,gE,AgZ _ _ _ zI]
theorem Dw(ps sep m)(h:∀p∈ps,p.size<=m):(Cg ps sep).size<=ps.length*(m+sep.size):=by
 have jy:∀l:List Y_,(∀p∈l,p.size<=m)->(Cg l.reverse sep).size<=l.length*(m+sep.size):=fun l=>by
  induction l with
  |nil=>intro _;rw[List.reverse_nil,Km];exact zC
  |cons p l ih=>
   intro hl;have ih:=ih fun q hq=>hl q (bN _ hq)
   have hp:=hl p fY;rw[List.reverse_cons,dA,eW,iT];by_cases h0:l.reverse=[]
   .rw[h0,bT,Kp];omega
   .rw[G5 _ _ _ h0,aY,aY];omega
 have:=jy ps.reverse (fun p hp=>h p (by simpa using hp))
 rwa [List.reverse_reverse,List.length_reverse]at this
theorem AkJ(ps sep):(Lib.join (ps.map (·.data.toList)) sep.data.toList).length=(Cg ps sep).size:=dX.symm
def Ja(x:Ltr):Y_:=Cl x.id.toNat++⟨#[58]⟩++x.code
theorem C9{n}(h:n<=9999):(Cl n).size<=4/\1<=(Cl n).size:=by
 have jy:∀(f m:Nat),m<10^f->(J1 m).length<=f/\(0<m->1<=(J1 m).length):=fun f=>by
  induction f with
  |zero=>
   intro m hm;have:m=0:=by{simp at hm;exact hm};subst this;exact⟨by rw[J1];simp,fun h=>ZA⟩
  |succ f ih=>
   intro m hm;by_cases h0:m=0
   .subst h0;exact⟨by rw[J1];simp,fun h=>ZA⟩
   .have hd:m/10<10^f:=by{rw[Nat.pow_succ]at hm;exact Nat.div_lt_of_lt_mul ZA};have:=(ih (m/10) hd).1;rw[I2 ZA,aT];exact⟨ZH,fun _=>ZF⟩
 have hk:=jy 4 n ZA;have hs:(Cl n).size=(Pg n).length:=dX;rw[hs];unfold Pg;by_cases h0:n=0
 .rw[aQ h0];simp
 .rw[aM h0];exact⟨hk.1,hk.2 ZA⟩
theorem AvP{x}(h:x.id<=9999)(hc:x.code.size=7):(Ja x).size<=12/\1<=(Ja x).size:=by have:=C9 (n:=x.id.toNat) ZA;unfold Ja;rw[aY,aY,hc];show _+1+7<=12/\1<=_+1+7;omega
def y7:Y_:=⟨#[32]⟩
def Co(xs:List Ltr):Y_:=if z_ xs=true then(if xs.length=0 then⟨#[45]⟩else Cg (xs.map Ja) y7)else⟨#[]⟩
theorem AeH{xs}(h:z_ xs=false):Co xs=⟨#[]⟩:=by unfold Co;rw[h];rfl
theorem Pp{xs}(h:z_ xs=true)(h0:xs.length=0):Co xs=⟨#[45]⟩:=by unfold Co;rw[aQ h,aQ h0]
theorem Oq{xs}(h:z_ xs=true)(h0:xs.length≠0):Co xs=Cg (xs.map Ja) y7:=by unfold Co;rw[aQ h,aM h0]
theorem Wk{xs}(h:z_ xs=true):∀p∈xs.map Ja,p.size<=12/\1<=p.size:=fun p hp=>by refine' Us;refine' eY;have h1:=(Ep.1 h).2 k hk;have h2:=h1.2.2.1;unfold Ap at h2;rw[aO,dI]at h2;exact AvP h1.2.1 h2.1
theorem Du(xs):(Co xs).size<=1000:=by
 cases h:z_ xs
 .rw[AeH h];exact zC
 .by_cases h0:xs.length=0
  .rw[Pp h h0];exact(ZE:(1:Nat)<=1000)
  .rw[Oq h h0]
   have h1:=Dw (xs.map Ja) y7 12 fun p hp=>(Wk h p hp).1
   have h2:=(Ep.1 h).1;refine' Ur;have h3:xs.length*(12+y7.size)<=60*13:=bY h2 (aC _);omega
def Ps(xs:List Ltr)(k:Nat):Y_:=Cg ((xs.take k).map Ja) y7
theorem Ab5(xs):Ps xs 0=⟨#[]⟩:=Km _
theorem Aq8{xs}(h:0<xs.length):Ps xs 1=Ja xs[0]:=by unfold Ps;exact ZPf
theorem AkF{xs k}(h:k<xs.length)(h0:0<k):Ps xs (k+1)=Ps xs k++y7++Ja xs[k]:=by unfold Ps;exact ZPg
theorem AvM{xs}(h:z_ xs=true)(k):(Ps xs k).size<=780:=by
 have h1:=Dw ((xs.take k).map Ja) y7 12 fun p hp=>(Wk h p ZIb).1
 have h2:=(Ep.1 h).1;refine' Ur;have h3:(xs.take k).length*(12+y7.size)<=60*13:=bY zF (aC _);unfold Ps;omega
theorem AxL{xs}(h:z_ xs=true)(h0:0<xs.length):1<=(Ps xs xs.length).size:=by
 obtain⟨k,hk⟩:∃k,xs.length=k+1:=⟨xs.length - 1,ZA⟩;rw[hk];have hp:∀(j:Nat) (hj:j<xs.length),1<=(Ja xs[j]).size:=fun j hj=>(Wk h _ (List.mem_map.2 ⟨_,aS hj,rfl⟩)).2
 by_cases fp:k=0
 .subst fp
  rw[Aq8 h0];exact hp 0 h0
 .rw[AkF ZA ZA,aY]
  have:=hp k ZA;omega
def I4(w:World):Prop:=Lib.TabIs Tryz.prog w "internal/strconv.uint64pow10" .u64 Lib.pow10Tab
theorem I4.on{w w'}(h:I4 w)(hb:B_ w w'):I4 w':=
 Go.Joins.tab_stays (g:=4) ZB h hb (aC _)
theorem AfT(w k os):B_ w (Go.Sort.grow (w.drewN k) os):=by
 have h:=Ba (aF w.heap.size w) k;refine⟨h.os,h.tape,h.output,?_,fun i hi=>?_⟩
 .show _<=((w.drewN k).heap++os).size
  rw[Array.size_append];have:=h.size;omega
 .show((w.drewN k).heap++os)[i]? =_
  rw[ZCI (by have:=h.size;omega)];exact h.block i hi
theorem Jn(n:Nat)(w)(hn:n<=9999)(ht:I4 w):
 C_ 195 #[.int .i64 (n:Int)] w (.string (Cl n)):=by refine(Tryz.strconv_Itoa (n:Int) ZA ZA w ht).mono ?_;rintro e w' ⟨rfl,k,os,rfl⟩;exact⟨by rw[AnD],AfT w k os⟩
theorem BaF{T base g n c:Nat}{w ps sep}(h:own T base w (.slice (P_ g) n c) ps)(hn:n=ps.length)(hN:ps.length<=1048576)(hs:(Cg ps sep).size<=140737488355328):
 C_ 196 #[.slice (P_ g) n c,.string sep] w (.string (Cg ps sep)):=by
 obtain⟨A',n',c',hv,qL,hc,hm,hr⟩:=h.rd;injection hv with e1 e2 e3;subst e1 e2 e3 hn;have hg:g<w.heap.size:=(h.blk g rfl).2;refine Tryz.strings_Join g 0 c ps sep w (fun j x hx=>?_) hg ZA hc (by rw[AkJ];exact hs)
 .obtain⟨hj,rfl⟩:=List.getElem?_eq_some_iff.1 hx
  obtain⟨b,o,hA,_,_,c1⟩:=hr.str j hj;refine' eX;exact c1
theorem F7(v xs w)(hv:R_ w v xs)(ht:I4 w):
 C_ 117 #[v] w (.string (Co xs)):=by
 refine' eN;have HT:=aA ht;clear ht;refine' zc;refine' zk;go_enter func117,ntmps117
 refine' ZIc;refine' ZE8;refine' ZPh;by_cases h0:xs.length=0
 .have HF:=aA (Pp ag h0)
  have j5:((xs.length:Int)==0)=true:=ZE9
  clear ag h0
  exact Wr
 have HF:=aA (Oq ag h0);refine' ZPi;have qZ:0<xs.length:=ZA
 clear ag h0;refine' ZPj;refine' ZC;have lk:Ck 9 (w1.alloc (aB (bF #[.string ⟨#[]⟩] xs.length) 9)) w1.heap.size xs.length 0 (xs.map Ja):=Ck.made w1 _ _ _ iG _;have br:B_ w1 (w1.alloc (aB (bF #[.string ⟨#[]⟩] xs.length) 9)):=(aF _ _).alloc (aC _) _;generalize w1.alloc (aB (bF #[.string ⟨#[]⟩] xs.length) 9)=w0 at *;clear fo;have cn:Hid ((xs.map Ja).length=xs.length):=Y8
 go_loopw[17] (fun i wr=>∃k:Nat,k<=xs.length/\i=.int .i64 k/\B_ w1 wr/\Ck 9 wr w1.heap.size xs.length k (xs.map Ja)) (fun i _=>xs.length - (intOf i).toNat)
 case atStart=>exact Y7
 case round=>
  refine' ZFA;by_cases ab:k<xs.length
  .refine' ZPk;refine' ZFB;obtain⟨z1,z2,z4,_⟩:=(Ep.1 d9.out).2 k ab;have mY:(xs.map Ja)[k]' za=Ja xs[k]:=ZF
   have me:=aA (Wk d9.out (Ja xs[k]) (List.mem_map.2 ⟨_,aS ab,rfl⟩));have fx:=aA (fun(W:World) (hF:Ck 9 W w1.heap.size xs.length k (xs.map Ja))=>hF.step za Za (ecs:=[.string (Ja xs[k])]) ZFC);clear mY;refine' ZPl;obtain⟨wb,kD⟩:∃u,u=w2.alloc (aB #[.int .i64 (m:Int),.string code] 119):=⟨_,rfl⟩;have q0:=Af kD 0 (.int .i64 (m:Int)) rfl;have q1:=Af kD 1 (.string code) rfl;refine' ZPm;have BN:=aA (HT.out.on (Aa (Aa l1 av) lb));have bt:=aA kD;clear kD hf
   refine' ZPn;obtain⟨VN,_⟩:=C9 IL;have tN:=aA (fun W (hW:B_ wb W)=>Jn m W IL (BN.out.on hW));generalize Cl m=t at *;have ym:code.size=7:=ZPo
   have xR:¬9223372036854775807<t.size+1+code.size:=ZA
   have xS:¬9223372036854775807<t.size+1:=ZA
   clear ym
   go_region_held3 (fun W=>W.cell? ⟨w2.heap.size,0,none⟩=some (.int .i64 (m:Int))/\W.cell? ⟨w2.heap.size,1,none⟩=some (.string code)) (first|exact⟨e0,e1⟩|exact⟨DU,DV⟩|exact⟨KK _,KL _⟩|fail) (first|(go_at_call 195;refine' ZPp)|fail)
   all_goals exact ZPq
  .refine' YO;have HO:=aA ((HE.out▸hf:Ck _ _ _ _ xs.length _).own cn.out.symm (aC _) ZN);clear hf;have l2:=Aa l1 av;have ni:=Dw (xs.map Ja) y7 12 fun p hp=>(Wk d9.out p hp).1
   rw[cn.out]at ni;have ol:xs.length*(12+y7.size)<=60*13:=bY lh (aC _);exact ZId
theorem AaL(s w):
 ya 70 #[.string s] w (.string (if s.size=0 then⟨#[45]⟩else s)):=by
 by_cases h:s.size=0
 .have he:s.toList.isEmpty=true:=ZPr
  rw[aQ h];clear h;go_enter func70,ntmps70;refine' ZO;exact ZW
 .have he:s.toList.isEmpty=false:=ZPs
  rw[aM h];clear h;go_enter func70,ntmps70;refine' ZO;exact ZW
theorem D6(v xs w)(hv:R_ w v xs):
 C_ 23 #[v] w (.string (Co xs)):=by
 refine' eN;go_enter func23,ntmps23
 refine' ZC;refine(C6 _ xs _ HV.out).mono ?_;refine' ZU;have l1:=b1;clear b1;refine' ZPh;have HF:Hid (Co xs=if(Ps xs xs.length).size=0 then⟨#[45]⟩else Ps xs xs.length):=by
  show _=_;by_cases h0:xs.length=0
  .rw[Pp ag h0,h0,Ab5];rfl
  .have:=AxL ag ZA
   rw[Oq ag h0,aM ZA];unfold Ps;rw[bA]
 clear ag
 refine' ZC;go_loopw[3,4] (fun t i wr=>∃k:Nat,k<=xs.length/\i=.int .i64 k/\t=.string (Ps xs k)/\B_ w wr) (fun _ i _=>xs.length - (intOf i).toNat)
 case atStart=>exact⟨0,aN _,rfl,by rw[Ab5],l1⟩
 case round=>
  refine' Qv;by_cases ab:k<xs.length
  .refine' ZPk;obtain⟨z1,z2,z4,_⟩:=(Ep.1 d9.out).2 k ab;have uQ:Hid (k=0->Ps xs 1=Ja xs[k]):=fun h=>by subst h;exact Aq8 ab
   have lm:=aA (fun h=>AkF ab h);have ev:=AvM d9.out k;have hZ:=aA (Ab5 xs);obtain⟨PN,sv⟩:∃P,Ps xs (k+1)=P:=⟨_,rfl⟩;obtain⟨P,hP⟩:∃P,Ps xs k=P:=⟨_,rfl⟩;refine' ZPt;refine' ZPl;have y1':=fun W (h:B_ w2 W)=>y1 W (Aa lr h)
   have y2':=fun W (h:B_ w2 W)=>y2 W (Aa lr h)
   obtain⟨VN,_⟩:=C9 IL;have tJ:=aA (fun W=>Hy m W ZA);have ym:code.size=7:=ZPo
   have hc7':code.size<=7:=ZA
   refine' ZIe;clear y1 y2 ym z4 km lI;generalize Cl m=t at *;by_cases fp:k=0
   .subst fp
    simp only[fG,bV,dF]at y1' y2';have mJ:Hid (aG (P++t++⟨#[58]⟩++code)=.string (Ps xs (0+1))):=by
     show _=_;have e1:Ps xs (0+1)=Ja ⟨(m:Int),code⟩:=uQ.out rfl;have e2:P=⟨#[]⟩:=by{rw[<-JW.out,hZ.out]};rw[e1,kJ.out,e2]
     all_goals congr 1
     all_goals refine Cv ?_
     all_goals simp
    clear bd et;have bd:(0:Int)<(xs.length:Int):=ZA
    refine' ZC;have sn:¬9223372036854775807<P.size+t.size:=ZA
    have qj:¬9223372036854775807<P.size+t.size+1:=ZA
    have so:¬9223372036854775807<P.size+t.size+1+code.size:=ZA
    refine' ZPu;all_goals
     refine' ZC;go_roundw
     case rel=>exact⟨0+1,ZA,ZJ,mJ.out,Aa lr l3⟩
     case measure=>exact ZK
   .refine' ZFD;have mJ:Hid (aG (P++⟨#[32]⟩++t++⟨#[58]⟩++code)=.string (Ps xs (k+1))):=by{refine' ZPv;simp[y7]};have QK:(P++(⟨#[32]⟩:Y_)).size<=781:=Wp
    refine' ZC;generalize P++(⟨#[32]⟩:Y_)=Q at *;have sn:¬9223372036854775807<Q.size+t.size:=ZA
    have qj:¬9223372036854775807<Q.size+t.size+1:=ZA
    have so:¬9223372036854775807<Q.size+t.size+1+code.size:=ZA
    refine' ZPu;all_goals
     refine' ZC;go_roundw
     case rel=>exact⟨k+1,ZA,ZJ,mJ.out,Aa lr l3⟩
     case measure=>exact ZK
  .refine' YO;have ui:Hid (Ps xs k=Ps xs xs.length):=by show _=_;rw[HE.out]
   generalize Ps xs k=P at *;by_cases hz:P.size=0
   .have uR:Hid (Co xs=⟨#[45]⟩):=ZIf
    exact ZIg
   .have uR:Hid (Co xs=P):=ZIh
    exact ZIi
def jO:Y_:=⟨#[47]⟩
def Xd(r:Rpt):List (List Ltr):=[r.round,r.strange,r.held,r.stuck]
def Yh(r:Rpt):List Ltr:=r.round++r.strange++r.held++r.stuck
def Sx(r:Rpt):Y_:=if z_ (Yh r)=true then Co r.round++jO++Co r.strange++jO++Co r.held++jO++Co r.stuck else⟨#[]⟩
theorem AmC{r}(h:z_ (Yh r)=false):Sx r=⟨#[]⟩:=by unfold Sx;rw[h];rfl
theorem ZEQ{r}(h:z_ (Yh r)=true):Sx r=Co r.round++jO++Co r.strange++jO++Co r.held++jO++Co r.stuck:=by unfold Sx;rw[aQ h]
theorem Aw2(r):(Xd r).flatten=Yh r:=by simp[Xd,Yh]
theorem BbF(r):En (Xd r)=z_ (Yh r):=by unfold En;rw[Aw2,show decide ((Xd r).length<=60)=true from rfl,fF]
theorem AvU(r):Cg ((Xd r).map Co) jO=Co r.round++jO++Co r.strange++jO++Co r.held++jO++Co r.stuck:=by have e:(Xd r).map Co=[Co r.round]++[Co r.strange]++[Co r.held]++[Co r.stuck]:=rfl;rw[e,G5 _ _ _ ZF,G5 _ _ _ ZF,G5 _ _ _ ZF,Kp]
theorem Ba0{w v0 v1 v2 v3}{x0 x1 x2 x3:List Ltr}(T:TypeId)(h0:R_ w v0 x0)(h1:R_ w v1 x1)(h2:R_ w v2 x2)(h3:R_ w v3 x3):
 rd (w.alloc (aB #[v0,v1,v2,v3] T)) (w.alloc (aB #[v0,v1,v2,v3] T)).heap.size (.slice (P_ w.heap.size) 4 4) [x0,x1,x2,x3]:=by
 obtain⟨W,hW⟩:∃W,W=w.alloc (aB #[v0,v1,v2,v3] T):=⟨_,rfl⟩;have hb:=(Aw hW).1;have q0:=Af hW 0 v0 rfl _ (aF _ _);have q1:=Af hW 1 v1 rfl _ (aF _ _);have q2:=Af hW 2 v2 rfl _ (aF _ _);have q3:=Af hW 3 v3 rfl _ (aF _ _);have hz:W.heap.size=w.heap.size+1:=by subst hW;simp
 rw[<-hW];have jy:∀(k:Nat) (v:Value) (x:List Ltr),R_ w v x->W.cell? ⟨w.heap.size,k,none⟩=some v->∃b o cs,(some (⟨w.heap.size,0,none⟩:Addr))=some ⟨b,o,none⟩/\b<W.heap.size/\El.el W W.heap.size x cs/\∀j u,cs[j]? =some u->W.cell? ⟨b,o+(k*El.size (List Ltr)+j),none⟩=some u:=fun k v x hx hc=>
  ⟨w.heap.size,0,[v],rfl,ZA,⟨v,rfl,hx.on hb⟩,fun j u hu=>by
  match j,hu with
  |0,hu=>
   have:u=v:=by{simpa using hu.symm};subst this;rw[show 0+(k*El.size (List Ltr)+0)=k by show 0+(k*1+0)=k;omega];exact hc
  |j+1,hu=>simp at hu⟩
 refine rd.mk rfl (aC _) ZN fun k hk=>?_
 match k,hk with
 |0,_=>exact jy 0 v0 x0 h0 q0
 |1,_=>exact jy 1 v1 x1 h1 q1
 |2,_=>exact jy 2 v2 x2 h2 q2
 |3,_=>exact jy 3 v3 x3 h3 q3
 |k+4,hk=>exact absurd hk ZF
theorem Aa6(v r w)(hv:rdR w w.heap.size v r)(ht:I4 w):
 C_ 130 #[v] w (.string (Sx r)):=by
 refine' ZPw;refine' Wn;have HTW:=aA (ht.on HT.out);have je:=hv.on HT.out;subst e0;obtain⟨p0,p1,p2,p3⟩:=AlF je;have HX:=aA (Ba0 27 p0 p1 p2 p3);clear p0 p1 p2 p3 hv je ht;refine' zT;clear ac;refine' fL;refine' zc;go_enter func130,ntmps130
 refine' zG;obtain⟨wq,pj⟩:∃u,u=w0.alloc (aB #[.slice A0 r.round.length c0,.slice A1 r.strange.length c1,.slice A2 r.held.length c2,.slice A3 r.stuck.length c3] 27):=⟨_,rfl⟩;have lq:=Aa l0 (Aw pj).1;have HX':Hid (R_ wq (.slice (P_ w0.heap.size) 4 4) [r.round,r.strange,r.held,r.stuck]):=by rw[pj];exact HX.out
 obtain⟨xss,qD⟩:∃z,Xd r=z:=⟨_,rfl⟩;have JQ:w0.heap.size=w.heap.size+1:=by rw[di.out];simp
 replace HX:=aA (show R_ wq (.slice (some ⟨w.heap.size+1,0,none⟩) 4 4) xss by rw[<-qD,<-JQ];exact HX'.out);clear JQ;have TG:Hid (En xss=z_ (Yh r)):=by show _=_;rw[<-qD];exact BbF r
 have TH:=aA (@AmC r);have TI:Hid (z_ (Yh r)=true->Sx r=Cg (xss.map Co) jO):=fun h=>by rw[<-qD,AvU];exact ZEQ h
 have hx4:xss.length=4:=by rw[<-qD];rfl
 clear HX' qD;rw[<-pj];clear pj;refine(AcP _ xss _ HX.out).mono ?_;rw[TG.out];rintro e w1 ⟨vL,rfl,oL,b1⟩;have l1:=Aa lq b1;obtain⟨AL,mL,cL,rfl,hmL,_,_,_⟩:=oL.rd;clear oL;cases ag:z_ (Yh r)
 .have HF:=aA (TH.out ag)
  clear ag
  refine' ZI;exact⟨B8 HF.out.symm,Aa HT.out l1⟩
 have HF:=aA (TI.out ag);clear ag;have fo:=Ed (P:=Tryz.prog) 28 9 i0 _ aW hi ah 4 zi ZA;simp only[show((4:Nat):Int)=4 from rfl,ar,eF]at fo
 refine' ZC;have lk:Ck 9 (w1.alloc (aB (bF #[.string ⟨#[]⟩] 4) 9)) w1.heap.size 4 0 (xss.map Co):=Ck.made w1 _ _ _ iG _;have br:B_ w1 (w1.alloc (aB (bF #[.string ⟨#[]⟩] 4) 9)):=(aF _ _).alloc (aC _) _;generalize w1.alloc (aB (bF #[.string ⟨#[]⟩] 4) 9)=wm at *;clear fo;have cn:Hid ((xss.map Co).length=4):=by show _=_;rw[bI,hx4]
 have BD:=aA (HTW.out.on l1);obtain⟨_,_,_,hee,_,_,_,cj⟩:=HX.out;injection hee with TJ TK TL;subst TJ;have HR:=aA cj;clear cj TK TL;have TM:=b1
 go_loopw[30] (fun i wr=>∃k:Nat,k<=4/\i=.int .i64 k/\B_ w1 wr/\Ck 9 wr w1.heap.size 4 k (xss.map Co)) (fun i _=>4 - (intOf i).toNat)
 case atStart=>exact Y7
 case round=>
  refine' Qs;clear lk br;by_cases ab:k<4
  .obtain⟨b,o,u,hA,hb,hu,c1⟩:=HR.out.rowU k ZA
   refine' eX;have c1:=c1 w2 (Aa TM av);simp only[bV]at c1;have mY:(xss.map Co)[k]' za=Co xss[k]:=ZF
   have fx:=aA (fun(W:World) (hF:Ck 9 W w1.heap.size 4 k (xss.map Co))=>hF.step za Za (ecs:=[.string (Co xss[k])]) (by rw[mY];exact⟨by have:=Du xss[k];exact ZN,rfl⟩));clear mY;generalize xss[k]=ys at *;obtain⟨A5,m5,c5,rfl,BE,QG,JR,ex⟩:=hu;have HU:Hid (R_ wq (.slice A5 m5 c5) ys):=⟨A5,m5,c5,rfl,BE,QG,JR,ex⟩;clear BE QG JR ex;have bd:(k:Int)<4:=ZA
   refine' zQ;refine' ZC;refine(F7 _ ys _ (HU.out.on (Aa TM av)) (BD.out.on av)).mono ?_;generalize Co ys=t at *;refine' zB;refine' ZFE;have kc:=hf.below b3;refine' ZIj;have tG:=aA kc;have ep:=aA (Aa av b3);clear hf kc
   refine' ZC;go_roundw
   case rel=> have:=fx.out w3 tG.out;rw[show k*El.size Y_=k from eF k]at this;exact ZPx
   case measure=>exact ZK
  .have HE:=aA (show k=4 by omega)
   have HO:=aA ((HE.out▸hf:Ck _ _ _ _ 4 _).own cn.out.symm (aC _) ZN);clear hf;have l2:=Aa l1 av;have ni:=Dw (xss.map Co) jO 1000 fun p hp=>by{obtain⟨y,_,rfl⟩:=List.mem_map.1 hp;exact Du y};rw[cn.out]at ni;have ol:4*(1000+jO.size)=4004:=rfl;have HJ:=aA (BaF (sep:=jO) HO.out cn.out.symm Uq ZA);clear ni ol
   refine' ZFF;exact⟨rfl,Aa HT.out l3⟩
theorem Aw7{p xs}(h:M4 p xs=true):F5 p xs=(xs.length:Int) - Xg p xs:=by
 have e:Jh p xs=Xg p xs:=ZVM
 unfold F5;rw[e,aM ZA]
theorem Bl{α:Type}[Flat α]{P w ops o a}{K:Act->World->Prop}{Q:Exit->Act->World->Prop}{E:Prop}(nW:o.guard=none)(s x:Operand)(t:TypeId)
 (ho:o.op=.call {callee:=.builtin .append,args:=#[s,x],argTypes:=#[t,t]})
 (base) (e:TypeId) (i:TypeInfo) (z bytes) (ht:P.underlying t=some (.slice e)) (hi:P.info? e=some i) (hz:i.zero=some z)
 (cw:i.size=El.size α) (pz:i.bytes=bytes) (gu:z.cells.size=El.size α) (cm:0<El.size α)
 (v xs) (hs:a.eval s=v) (ft:own e base w v xs) (vx) (ys:List α) (hx:a.eval x=vx) (B) (hr:rd w B vx ys)
 (pA:xs.length+ys.length<=maxLen) (cz:(xs.length+ys.length)*bytes<=140737488355328) (ee:base<=w.heap.size)
 (h:∀v' w',own e base w' v' (xs++ys)->w.grownBy w' v.ownBlock->(v'.ownBlock=v.ownBlock\/v'.ownBlock=some w.heap.size)->K (a.put o.dst v') w'):
 if Region.wanted o (yielded ops a.tmps)=true then Oper.wp P o a w K Q else E:=by refine' ZSQ;exact ZDM s x t ho base e i z bytes ht hi hz cw pz gu cm v xs hs ft vx ys hx B hr pA cz ee h
theorem Az5{p xs}(h:M4 p xs=true):Jh p xs=Xg p xs:=ZVM
def AyD(r:Rpt)(n:Nat):Prop:=r.round.length<=n/\r.strange.length<=n/\r.held.length<=n/\r.stuck.length<=n
theorem ZDh(v r w)(hv:rdR w w.heap.size v r)(hN:AyD r 1048576):
 C_ 35 #[v] w (.string (Sx r)):=by
 refine' ZPw;have q0:=Af ac 0 (.slice A0 r.round.length c0) rfl;have q1:=Af ac 1 (.slice A1 r.strange.length c1) rfl;have q2:=Af ac 2 (.slice A2 r.held.length c2) rfl;have q3:=Af ac 3 (.slice A3 r.stuck.length c3) rfl;refine' Wn;have je:=hv.on HT.out;subst e0;obtain⟨p0,p1,p2,p3⟩:=AlF je;have xO:=aA (fun W (h:B_ w0 W)=>p0.on h);have BG:=aA (fun W (h:B_ w0 W)=>p1.on h);have xP:=aA (fun W (h:B_ w0 W)=>p2.on h);have TT:=aA (fun W (h:B_ w0 W)=>p3.on h);have TH:=aA (@AmC r);have TI:=aA (@ZEQ r);obtain⟨n0,n1,n2,n3⟩:=hN;clear p0 p1 p2 p3 hv je;refine' zT;clear ac;go_enter func35,ntmps35
 refine' zG;have oE:=own.made0 (α:=Ltr) w0 119 (aC _);have TU:own (α:=Ltr) 119 w0.heap.size (w0.drew.alloc (aB #[] 119)) (.slice (P_ w0.heap.size) 0 0) []:=own.made0 w0.drew _ (aC _);have lE:B_ w0 (w0.alloc (aB #[] 119)):=(aF _ _).alloc (aC _) _;have TV:B_ w0 (w0.alloc (aB #[] 119)).drew:=lE.drew;have QI:B_ w0 (w0.drew.alloc (aB #[] 119)):=((aF _ _).drew).alloc (aC _) _;have TW:=(aF w0.heap.size w0).drew;refine' V4;go_region_held3 (fun W=>B_ w0 W) (first|exact TW|exact QI|exact DH|exact l9|exact l8|exact l7) (first|(refine Bl (α:=Ltr) ZG (.tmp 4) (.tmp 6) 27 (by rfl) w0.heap.size 119 i0 _ 24 aV hi ah ar ap rfl ZE (.slice (P_ w0.heap.size) 0 0) [] ZG (by first|exact oE|exact oE.drew|exact TU) _ r.round ZG _ (xO.out _ (by first|exact lE|exact TV|exact QI)) ZFG Qp ZF ?_;refine' Z_;have l7:B_ w0 w7:=(by first|exact lE.trans (Ay oE ce (by simp))|exact TV.trans (Ay oE.drew ce ZF)|exact QI.trans (Ay TU ce (by simp)));refine' Y6)|(refine Bl (α:=Ltr) ZG (.tmp 7) (.tmp 9) 27 ZG w0.heap.size 119 i0 _ 24 aV hi ah ar ap rfl ZE v7 r.round ZG o7 _ r.strange ZG _ (BG.out _ l7) ZFG Qp gm ?_;intro v8 w8 o8 il _;have l8:B_ w0 w8:=l7.trans (Ay o7 il gm);have TX:=l8.size)|(refine Bl (α:=Ltr) ZG (.tmp 10) (.tmp 12) 27 ZG w0.heap.size 119 i0 _ 24 aV hi ah ar ap rfl ZE v8 (r.round++r.strange) ZG o8 _ r.held ZG _ (xP.out _ l8) ZFG Qp TX ?_;intro v9 w9 o9 gw _;have l9:B_ w0 w9:=l8.trans (Ay o8 gw TX);have JT:=l9.size)|(refine Bl (α:=Ltr) ZG (.tmp 13) (.tmp 15) 27 ZG w0.heap.size 119 i0 _ 24 aV hi ah ar ap rfl ZE v9 (r.round++r.strange++r.held) ZG o9 _ r.stuck ZG _ (TT.out _ l9) ZFG Qp JT ?_;intro v10 TY o10 qU _;have DH:B_ w0 TY:=l9.trans (Ay o9 qU JT);have JU:=DH.size))
 all_goals
  have OA:Hid (own 119 w0.heap.size TY v10 (Yh r)):=o10;have TZ:=aA DH;clear oE TU lE TV QI o7 o8 o9 o10 ce il gw qU l7 l8 l9 gm TX JT DH;obtain⟨A9,k9,c9,rfl,UA,_,IL,_⟩:=OA.out.rd;subst UA;unfold maxLen at IL;have DH:=TZ.out
  refine' ZC;refine(C6 _ (Yh r) _ OA.out.rd).mono ?_;refine' zK;have l2:=Aa DH b2;clear b2 DH;cases ag:z_ (Yh r)
  .have HF:=aA (TH.out ag)
   clear ag
   refine' ZI;exact⟨B8 HF.out.symm,Aa HT.out l2⟩
  have HF:=aA (TI.out ag);clear ag;have HC0:=aA (fun W (h:B_ w2 W)=>D6 _ r.round W (xO.out W (Aa l2 h)));have sk:=aA (fun W (h:B_ w2 W)=>D6 _ r.strange W (BG.out W (Aa l2 h)));have lJ:=aA (fun W (h:B_ w2 W)=>D6 _ r.held W (xP.out W (Aa l2 h)));have QJ:=aA (fun W (h:B_ w2 W)=>D6 _ r.stuck W (TT.out W (Aa l2 h)));have r0:=fun W (h:B_ w2 W)=>q0 W (Aa l2 h)
  have r1:=fun W (h:B_ w2 W)=>q1 W (Aa l2 h)
  have r2:=fun W (h:B_ w2 W)=>q2 W (Aa l2 h)
  have r3:=fun W (h:B_ w2 W)=>q3 W (Aa l2 h)
  have s0:=Du r.round;have s1:=Du r.strange;have s2:=Du r.held;have s3:=Du r.stuck;generalize Co r.round=t0 at *;generalize Co r.strange=t1 at *;generalize Co r.held=t2 at *;generalize Co r.stuck=t3 at *;have ha0:¬9223372036854775807<t0.size+1:=ZA
  have sn:¬9223372036854775807<t0.size+1+t1.size:=ZA
  have qj:¬9223372036854775807<t0.size+1+t1.size+1:=ZA
  have so:¬9223372036854775807<t0.size+1+t1.size+1+t2.size:=ZA
  have mc:¬9223372036854775807<t0.size+1+t1.size+1+t2.size+1:=ZA
  have cy:¬9223372036854775807<t0.size+1+t1.size+1+t2.size+1+t3.size:=ZA
  refine' ZIe;have ig:=aA l2;clear q0 q1 q2 q3 l2 xO BG xP TT
  refine' ZC;go_region_held3 (fun W=>B_ w2 W) (first|exact ld|exact k4|exact k3|exact k2|exact k1|fail) (first|(go_at_call 23;first|((with_reducible refine(QJ.out _ k3).mono ?_);rintro e u4 ⟨rfl,c4⟩;have k4:=Aa k3 c4)|((with_reducible refine(lJ.out _ k2).mono ?_);rintro e u3 ⟨rfl,c3⟩;have k3:=Aa k2 c3)|((with_reducible refine(sk.out _ k1).mono ?_);rintro e u2 ⟨rfl,c2⟩;have k2:=Aa k1 c2)|((with_reducible refine(HC0.out _ ld).mono ?_);rintro e u1 ⟨rfl,c1⟩;have k1:=Aa ld c1)|fail)|fail)
  all_goals refine' ZI;exact⟨by rw[HF.out];rfl,Aa HT.out (Aa ig.out k4)⟩
theorem AuA(k)(h:k<10):(UInt8.ofNat (48+k)).toNat=48+k:=by rw[iC];omega
theorem AuJ:∀n,∀b∈J1 n,48<=b.toNat/\b.toNat<=57:=by
 intro n
 induction n using Nat.strongRecOn with
 |_ n ih=>
  intro b hb;by_cases h0:n=0
  .subst h0;rw[J1]at hb;exact absurd hb ZF
  .rw[I2 ZA,eJ,List.mem_singleton]at hb
   rcases hb with hb|rfl
   .exact ih (n/10) ZA b hb
   .rw[AuA _ ZA];omega
theorem AoP(n):∀b∈Pg n,48<=b.toNat/\b.toNat<=57:=by
 unfold Pg
 split
 .intro b hb
  rw[List.mem_singleton]at hb;subst hb;exact⟨ZE,ZE⟩
 .exact AuJ n
def vL(x:Ltr):Prop:=1<=x.id/\x.id<=9999/\Ap x.code=true
def Ek(x:Fwd):Y_:=x.src++⟨#[62]⟩++x.dst
theorem AxV{s}(h:Jr s=true):s.size<=7:=by unfold Jr at h;refine' e_;omega
theorem ZEF{s}(h:Gi s=true):1<=s.size/\s.size<=8:=by unfold Gi at h;refine' e_;omega
def Jj(rs:List Fwd):Y_:=if C7 rs=true then(if rs.length=0 then⟨#[45]⟩else Cg (rs.map Ek) y7)else⟨#[]⟩
theorem Ad4{rs}(h:C7 rs=false):Jj rs=⟨#[]⟩:=by unfold Jj;rw[h];rfl
theorem Lu{rs}(h:C7 rs=true)(h0:rs.length=0):Jj rs=⟨#[45]⟩:=by unfold Jj;rw[aQ h,aQ h0]
theorem M8{rs}(h:C7 rs=true)(h0:rs.length≠0):Jj rs=Cg (rs.map Ek) y7:=by unfold Jj;rw[aQ h,aM h0]
theorem ZA9{rs}(h:C7 rs=true){k}(hk:k<rs.length):rs[k].src.size<=7/\1<=rs[k].dst.size/\rs[k].dst.size<=8:=by obtain⟨h1,h2,_⟩:=(Ev.1 h).2 k hk;exact⟨AxV h1,ZEF h2⟩
theorem M5{rs}(h:C7 rs=true):∀p∈rs.map Ek,p.size<=16/\1<=p.size:=fun p hp=>by refine' Us;refine' eY;have h1:=ZA9 h hk;unfold Ek;refine' Rg;show _+1+_<=16/\1<=_+1+_;omega
def Jb(rs:List Fwd)(k:Nat):Y_:=Cg ((rs.take k).map Ek) y7
theorem Ou(rs):Jb rs 0=⟨#[]⟩:=Km _
theorem ZA6{rs}(h:0<rs.length):Jb rs 1=Ek rs[0]:=by unfold Jb;exact ZPf
theorem ZEN{rs k}(h:k<rs.length)(h0:0<k):Jb rs (k+1)=Jb rs k++y7++Ek rs[k]:=by unfold Jb;exact ZPg
theorem Ak9{rs}(h:C7 rs=true)(k):(Jb rs k).size<=340:=by
 have h1:=Dw ((rs.take k).map Ek) y7 16 fun p hp=>(M5 h p ZIb).1
 have h2:=(Ev.1 h).1;refine' Ur;have h3:(rs.take k).length*(16+y7.size)<=20*17:=bY zF (aC _);unfold Jb;omega
theorem Ay7{rs}(h:C7 rs=true)(h0:0<rs.length):1<=(Jb rs rs.length).size:=by
 refine' ZPy;have hp:∀(j:Nat) (hj:j<rs.length),1<=(Ek rs[j]).size:=fun j hj=>(M5 h _ (List.mem_map.2 ⟨_,aS hj,rfl⟩)).2
 exact ZPz
theorem zed(rs):(Jj rs).size<=340:=by
 cases h:C7 rs
 .rw[Ad4 h];exact zC
 .by_cases h0:rs.length=0
  .rw[Lu h h0];exact(ZE:(1:Nat)<=340)
  .rw[M8 h h0]
   have:=Ak9 h rs.length;unfold Jb at this
   rwa [bA]at this
theorem ZAv(v rs w)(hv:R_ w v rs):
 C_ 88 #[v] w (.string (Jj rs)):=by
 refine' eN;go_enter func88,ntmps88
 refine' ZC;refine(BaY _ rs _ HV.out).mono ?_;refine' ZIk;refine' ZP0;have HF:Hid (Jj rs=if(Jb rs rs.length).size=0 then⟨#[45]⟩else Jb rs rs.length):=by
  show _=_;by_cases h0:rs.length=0
  .rw[Lu ag h0,h0,Ou];rfl
  .have:=Ay7 ag ZA
   rw[M8 ag h0,aM ZA];unfold Jb;rw[bA]
 refine' ZP1
 .refine' Qv;by_cases ab:k<rs.length
  .refine' Qo;have y1:=y1 w2 lr;have y2:=y2 w2 lr;have me:=aA (ZA9 d9.out ab);refine' ZP2;have ev:=Ak9 d9.out k;refine' ZP3
   .refine' ZP4;have QK:(P++(⟨#[32]⟩:Y_)).size<=341:=Wp
    exact ZP5
  .refine' ZP6;by_cases hz:P.size=0
   .have uR:Hid (Jj rs=⟨#[45]⟩):=ZIf
    exact ZIg
   .have uR:Hid (Jj rs=P):=ZIh
    exact ZIi
theorem AcB(v rs w)(hv:R_ w v rs):
 C_ 217 #[v] w (.string (Jj rs)):=by
 refine' eN;refine' zc;refine' zk;go_enter func217,ntmps217
 refine' ZC;refine(ZAw _ rs _ HV.out).mono ?_;refine' ZE8;refine' ZP0;by_cases h0:rs.length=0
 .have HF:=aA (Lu ag h0)
  exact ZP7
 have HF:=aA (M8 ag h0);refine' ZP8
 .refine' ZFA;by_cases ab:k<rs.length
  .refine' Qo;refine' ZFB;have DK:=aA (ZA9 d9.out ab);have mY:(rs.map Ek)[k]' za=Ek rs[k]:=ZF
   have me:=aA (M5 d9.out (Ek rs[k]) (List.mem_map.2 ⟨_,aS ab,rfl⟩));refine' ZP9;have lb:B_ w2 (w2.alloc (aB #[.string p,.string q] 181)):=(aF _ _).alloc (aC _) _;exact ZQA
  .refine' ZQB;have ni:=Dw (rs.map Ek) y7 16 fun p hp=>(M5 d9.out p hp).1
   rw[cn.out]at ni;have ol:rs.length*(16+y7.size)<=20*17:=bY lh (aC _);exact ZId
section
variable{F:Fence}{n:Nat}{P:Program}{β α:Type}
def Pw(B z:Nat)(I:β->World->Prop):Prop:=
 ∀s A C row,I s A->A.grownBy C row->(∀r,row=some r->r=z\/B<=r/\∃o:Obj,A.heap[r]? =some o/\o.isCells=false)->I s C
theorem Pw.put{B z}{I:β->World->Prop}(h:Pw B z I){s:β}{W l o}(o')(hs:I s W)(hB:B<=l)(hl:W.heap[l]? =some o)(ho:o.isCells=false):I s (W.putObj l o'):=
 h s W _ (some l) hs (grownBy_putObj' W l o') fun r e=>by cases e;exact .inr ⟨hB,o,hl,ho⟩
theorem Pw.new{B z}{I:β->World->Prop}(h:Pw B z I){s:β}{W}(o)(hs:I s W):I s (W.alloc o):=
 h s W _ none hs (cQ W o none) fun r e=>by cases e
def I7(z:Nat)(J:β->World->Prop):Prop:=∀s A C row,J s A->A.grownBy C row->(∀r,row=some r->r=z)->J s C
def AxU(C:List Nat)(I Ix:List α->World->Prop)(xs:List α)(W:World):Exit->Act->World->Prop
 |.normal,_,W'=>KeepsOthers W W'/\(∀k∈C,W'.heap[k]? =W.heap[k]?)/\I xs W'
 |.ret,_,W'=>KeepsOthers W W'/\Ix xs W'
 |_,_,_=>False
def BbH(F:Fence)(n:Nat)(P:Program)(gf:Nat)(lb:Array Value)(ua:α->Array Value)(R:α->Prop)(S Sp:List α->Prop)(N z:Nat)(C:List Nat)(w:World):Prop:=
 ∀(l:Nat) (J Jx:List α->World->Prop),I7 z J->I7 z Jx->
  (∀pre x W1,J pre W1->pre.length<N->R x->YieldAt F (n - 1) P l (ua x) W1 fun e W'=>
    (e=.returned (.bool true)/\J (pre++[x]) W'/\(W1.heap.size<=W'.heap.size/\∀k∈C,W'.heap[k]? =W1.heap[k]?))\/(e=.returned (.bool false)/\Jx (pre++[x]) W'))->
  ∀W,w.heap.size<=W.heap.size->(∀k∈C,W.heap[k]? =w.heap[k]?)->J [] W->
  CallsIn F n P gf (#[.func (.yield l) #[] #[]]++lb) W fun e W'=>(∃v,e=.returned v)/\((∃xs,S xs/\J xs W')\/∃pre,Sp pre/\Jx pre W')
theorem Oc{A C:World}{row l o}(h:A.heap[l]? =some o)(hg:A.grownBy C row)(ay:row≠some l):C.heap[l]? =some o:=
 (hg.block l (Array.getElem?_eq_some_iff.1 h).1 fun e=>ay e.symm).trans h
theorem Pz{g:Operand}{ps:Array Tmp}{assign body:Code}{Q:Exit->Act->World->Prop}{a:Act}{w:World}
 (jv:F.round=none) (h1:1<=n) {gf:Nat} {lb:Array Value} (hg:a.eval g=.func (.func gf) #[] lb) (hFg:F.fn gf) (eg:∀args w,(callFunc gf args).run P w=.ok (.enter gf args) w)
 {ua:α->Array Value} {R:α->Prop} {S Sp:List α->Prop} {N z:Nat} {C:List Nat} (hseq:BbH F (n - 1) P gf lb ua R S Sp N z C w) (hC:∀k∈C,k<w.heap.size) (hz:z<w.heap.size) (ev:∀x,(ua x).size=ps.size)
 (I Ix:List α->World->Prop) (hI:Pw w.heap.size z I) (hIx:Pw w.heap.size z Ix) (h0:I [] w) (a₁:α->Act)
 (AJ:∀(l:Nat) (x:α) (W:World) (K:Act->World->Prop),K (a₁ x) W->
   assign.wpIn (F.inRound l) (n - 1 - 1) P (Exit.then K (fun _ _ _=>False)) {tmps:=(ps.zip (ua x)).foldl (fun t (p,v)=>t.setIfInBounds p v) a.tmps,defers:=[]} W)
 (PQ:∀(l:Nat) (pre:List α) (x:α) (W:World),I pre W->pre.length<N->R x->body.wpIn (F.inRound l) (n - 1 - 1) P (AxU C I Ix (pre++[x]) W) (a₁ x) W)
 (PS:∀(D:Nat) (xs:List α) (W:World),w.heap.size<=D->S xs->I xs W->W.heap[D]? =some (.deferred (some []))->Q .normal {a with defers:={target:=.collected D,args:=#[]}::a.defers} W)
 (PT:∀(D:Nat) (pre:List α) (W:World),w.heap.size<=D->Sp pre->Ix pre W->W.heap[D]? =some (.deferred (some []))->Code.ret.wpIn F n P Q {a with defers:={target:=.collected D,args:=#[]}::a.defers} W):
 (Code.rangeFunc g ps assign body).wpIn F n P Q a w:=by
 refine wpIn_rangeFunc fun fn wF=>?_
 rw[jv]
 let pS:LoopState->Option Code->Loop:=fun st pe=>{state:=st,pending:=pe,fn,tmps:=a.tmps,params:=ps,assign,body,defers:=w.heap.size}
 obtain⟨W1,qH⟩:∃W1,W1=(w.alloc (.deferred (some []))).alloc (.loop (pS .ready none)):=⟨_,rfl⟩;have hL1:W1.heap[w.heap.size+1]? =some (.loop (pS .ready none)):=by
  have:=World.alloc_heap_new (w.alloc (.deferred (some []))) (.loop (pS .ready none))
  rwa [iY,<-qH]at this
 have hK1:W1.heap[w.heap.size]? =some (.deferred (some [])):=by rw[qH];exact(dL _ _ _ ZF).trans (World.alloc_heap_new w _)
 have hI1:I [] W1:=by rw[qH];exact hI.new _ (hI.new _ h0)
 have hC1:∀k∈C,W1.heap[k]? =w.heap[k]? :=fun k hk=>by have:=hC k hk;rw[qH];exact(dL _ _ _ ZH).trans (dL _ _ _ this)
 have ie:w.heap.size<=W1.heap.size:=by rw[qH];exact ZH
 refine⟨w.heap.size+1,[{target:=.collected w.heap.size,args:=#[]}],W1,{target:=.fn (.func gf) lb,args:=#[.func (.yield (w.heap.size+1)) #[] #[]]},W1,gf,
  #[.func (.yield (w.heap.size+1)) #[] #[]]++lb,W1,?_,?_,?_,?_,fun _=>h1,?_⟩
 .rw[qH];exact run_enterLoop_outer _ _ _ _ _
 .simp only[resolve,hg]
  simp[go_sem]
 .intro f' CV;simp[Target.leads]at CV;subst CV;exact hFg
 .simp[invoke,go_sem,eg]
 ·
  let J:List α->World->Prop:=fun pre W=>I pre W/\W.heap[w.heap.size+1]? =some (.loop (pS .ready none))/\W.heap[w.heap.size]? =some (.deferred (some []))
  let Jx:List α->World->Prop:=fun pre W=>Ix pre W/\W.heap[w.heap.size+1]? =some (.loop (pS .done (some .ret)))/\W.heap[w.heap.size]? =some (.deferred (some []))
  have hJ:I7 z J:=fun s A X row hs AK hr=>by refine' ZUk;exact⟨hI s A X row hs.1 AK fun r e=>.inl (hr r e),Oc hs.2.1 AK ne1,Oc hs.2.2 AK ne0⟩
  have hJx:I7 z Jx:=fun s A X row hs AK hr=>by refine' ZUk;exact⟨hIx s A X row hs.1 AK fun r e=>.inl (hr r e),Oc hs.2.1 AK ne1,Oc hs.2.2 AK ne0⟩
  refine(hseq (w.heap.size+1) J Jx hJ hJx ?_ W1 ie hC1 ⟨hI1,hL1,hK1⟩).mono ?_
  .rintro pre x W ⟨hi,hl,hk⟩ bp hRx
   have ab:w.heap.size+1<W.heap.size:=(Array.getElem?_eq_some_iff.1 hl).1;have hy:=run_yield (P:=P) (args:=ua x) hl (ev x);refine⟨fn,_,assign,body,hy,roundIn_of_wpIn wF (AJ _ x W _ ⟨_,run_beginRound hl rfl,?_⟩)⟩;obtain⟨W2,bg⟩:∃W2,W2=W.putObj (w.heap.size+1) (.loop (pS .busy none)):=⟨_,rfl⟩;have qF:W2.heap[w.heap.size+1]? =some (.loop (pS .busy none)):=by{rw[bg];exact World.putObj_heap_same ab};have jp:W2.heap[w.heap.size]? =some (.deferred (some [])):=by{rw[bg];exact(World.putObj_heap_other ZA).trans hk};have lI:I pre W2:=by{rw[bg];exact hI.put _ hi ZA hl rfl};have kG:∀k∈C,W2.heap[k]? =W.heap[k]? :=fun k gj=>by{have:=hC k gj;rw[bg];exact World.putObj_heap_other ZA};have jd:W2.heap.size=W.heap.size:=by{rw[bg];simp};show body.wpIn _ _ _ _ _ (W.putObj (w.heap.size+1) (.loop (pS .busy none)));rw[<-bg];refine wpIn_mono (PQ _ pre x W2 lI bp hRx) ?_;intro e a3 W3 hp;cases e with
   |normal=>
    obtain⟨qP,hc3,ES⟩:=hp;have uI:=qP.same _ _ qF rfl;have MN:=qP.same _ _ jp rfl;refine⟨_,_,run_endRound (P:=P) none uI,.inl ⟨rfl,⟨hI.put _ ES ZA uI rfl,World.putObj_heap_same (Array.getElem?_eq_some_iff.1 uI).1,(World.putObj_heap_other ZA).trans MN⟩,?_,fun k gj=>?_⟩⟩
    .have:=qP.1
     exact ZH
    .have:=hC k gj
     exact(World.putObj_heap_other ZA).trans ((hc3 k gj).trans (kG k gj))
   |ret=> obtain⟨qP,ES⟩:=hp;have uI:=qP.same _ _ qF rfl;have MN:=qP.same _ _ jp rfl;exact⟨_,_,run_endRound (P:=P) (some .ret) uI,.inr ⟨rfl,hIx.put _ ES ZA uI rfl,World.putObj_heap_same (Array.getElem?_eq_some_iff.1 uI).1,(World.putObj_heap_other ZA).trans MN⟩⟩
   |exit id=>exact(hp:False).elim
   |goto t=>exact(hp:False).elim
   |panic ch=>exact(hp:False).elim
   |outgrown=>exact(hp:False).elim
  .rintro e W2 ⟨⟨v,rfl⟩,(⟨xs,hS,hi,hl,hk⟩|⟨pre,hSp,hi,hl,hk⟩)⟩
   .exact⟨none,_,run_endLoop (P:=P) hl (by simp[pS]),PS _ xs _ (aC _) hS (hI.put _ hi ZA hl rfl) ((World.putObj_heap_other ZA).trans hk)⟩
   .exact⟨some .ret,_,run_endLoop (P:=P) hl (by simp[pS]),PT _ pre _ (aC _) hSp (hIx.put _ hi ZA hl rfl) ((World.putObj_heap_other ZA).trans hk)⟩
end
open Go.RowKit Go.Shelf
attribute [local go_sem] Oper.semAt_some
def s_(c:UInt8):List UInt8->List (List UInt8)
 |[]=>[[]]
 |b::s=>if b=c then []::s_ c s else
  match s_ c s with
  |[]=>[[b]]
  |p::ps=>(b::p)::ps
theorem Vx(c s):s_ c s≠[]:=by
 cases s with
 |nil=>simp[s_]
 |cons b s=>
  unfold s_
  split
  .simp
  .split<;>simp
theorem Yw(c s):s_ c (c::s)=[]::s_ c s:=by
 conv=>lhs;unfold s_
 rw[aQ rfl]
theorem Nk{b c}(h:b≠c){s p ps}(hs:s_ c s=p::ps):s_ c (b::s)=(b::p)::ps:=by
 conv=>lhs;unfold s_
 rw[aM h,hs]
theorem ZCn(b c s):Lib.indexByte (b::s) c=if b=c then 0 else if Lib.indexByte s c= -1 then -1 else Lib.indexByte s c+1:=by show(if b==c then 0 else if Lib.indexByte s c== -1 then -1 else Lib.indexByte s c+1)=_;simp only[dI]
theorem AhH{c}:∀{s:List UInt8},Lib.indexByte s c<0->s_ c s=[s]
 |[],_=>rfl
 |b::s,h=>by
  refine' ZJ6;split at h
  .omega
  .rename_i hb
   have h2:Lib.indexByte s c<0:=by{split at h<;>omega};exact Nk hb (AhH h2)
theorem Mr{c}:∀{s:List UInt8} {i:Nat},Lib.indexByte s c=(i:Int)->s_ c s=s.take i::s_ c (s.drop (i+1))/\i<s.length
 |[],i,h=>ZT4
 |b::s,i,h=>by
  refine' ZJ6;split at h
  .rename_i hb
   have e:i=0:=ZA
   subst e hb;rw[Yw];exact⟨rfl,ZF⟩
  .rename_i hb
   refine' ZT5;obtain⟨h2,h3⟩:=Mr h1;rw[Nk hb h2];exact⟨rfl,ZH⟩
def Ai6(b:Nat)(c:UInt8)(s:Y_)(w:World):Prop:=
 w.cell? ⟨b,0,none⟩=some (.string s)/\w.frozen? ⟨b,0,none⟩=false/\w.cell? ⟨b+1,0,none⟩=some (.string ⟨#[c]⟩)/\w.cell? ⟨b+2,0,none⟩=some (.int .i64 0)
theorem ZBM{w w':World}{k}(h:w'.heap[k]? =w.heap[k]?)(i):w'.cell? ⟨k,i,none⟩=w.cell? ⟨k,i,none⟩:=by simp[World.cell?,h]
theorem Ae3{w w':World}{k}(h:w'.heap[k]? =w.heap[k]?)(i):w'.frozen? ⟨k,i,none⟩=w.frozen? ⟨k,i,none⟩:=Z9
theorem Ai6.same{b c s w w'}(h:Ai6 b c s w)(hs:∀k∈[b,b+1,b+2],w'.heap[k]? =w.heap[k]?):Ai6 b c s w':=by refine' Tv;have e0:=hs b ZF;have e1:=hs (b+1) ZF;have e2:=hs (b+2) ZF;exact⟨(ZBM e0 0).trans h1,(Ae3 e0 0).trans h2,(ZBM e1 0).trans h3,(ZBM e2 0).trans h4⟩
theorem Ai6.set{b c s w}(h:Ai6 b c s w)(t):Ai6 b c t (w.setCell ⟨b,0,none⟩ (.string t)):=by
 refine' Tv;refine⟨World.cell?_setCell_same' _ _ _ (by rw[h1];rfl),by rw[World.frozen?_setCell];exact h2,?_,?_⟩
 .rw[dK _ _ _ _ ZF];exact h3
 .rw[dK _ _ _ _ ZF];exact h4
def Aj(c:UInt8)(s:Y_):List Y_:=(s_ c s.data.toList).map fun l=>⟨l.toArray⟩
theorem ZAc(n b)(hn:1<=n)(c s w)(hw:Ai6 b c s w)(hs:s.size<=maxLen):
 BbH Fence.wide n Tryz.prog 286 #[.pointer (some ⟨b+1,0,none⟩),.pointer (P_ b),.pointer (some ⟨b+2,0,none⟩)] (fun x:Y_=>#[.string x]) (fun x=>x.size<=maxLen) (fun xs=>xs=Aj c s) (fun pre=>pre<+:Aj c s) (Aj c s).length b [b,b+1,b+2] w:=by
 intro l J Jx hJ hJx hY W cm hC h0;have hcW:=hw.same hC;clear hC hw;refine callsIn_of_wp func286 rfl trivial ?_ rfl;simp only[ntmps286,dX,dA,cT,Nat.reduceAdd,Nat.reduceSub,gC,gD,iL,gM,bT,cK];obtain⟨g1,g2,g3,g4⟩:=hcW
 gi_wp2
 have hcW:Ai6 b c s W:=⟨g1,g2,g3,g4⟩
 gi_loopw [7,8] (fun _ _ wr=>∃(pre:List Y_) (rest:Y_),Ai6 b c rest wr/\Aj c s=pre++Aj c rest/\J pre wr/\rest.size<=maxLen) (fun _ _ wr=>match wr.cell? ⟨b,0,none⟩with|some (.string t)=>t.size|_=>0)
 case atStart=>exact⟨[],s,hcW,rfl,h0,hs⟩
 case round=>
  obtain⟨pre,rest,az,hp,hj,hr⟩:=hrel;have CP:=az;obtain⟨g1,g2,g3,g4⟩:=az;have kj:=Tryz.strings_Index_one rest c wr;by_cases bc:Lib.indexByte rest.data.toList c<0
  .have CQ:Aj c rest=[rest]:=by unfold Aj;rw[AhH bc];rfl
   have bp:pre.length<(Aj c s).length:=by{rw[hp,CQ];simp};obtain⟨fn,tmps,assign,body,hy,hR⟩:=hY pre rest wr hj bp hr
   (try dsimp only at hy)
   rw[CQ]at hp
   refine' ZVN;rintro e W' (⟨rfl,hJ',_⟩|⟨rfl,GI⟩)
   .gi_wp2
    go_end0
    exact⟨⟨_,rfl⟩,.inl ⟨_,rfl,by rw[hp];exact hJ'⟩⟩
   .gi_wp2
    go_end0
    exact⟨⟨_,rfl⟩,.inr ⟨_,by rw[hp];exact List.prefix_rfl,GI⟩⟩
  .obtain⟨i,hi⟩:∃i:Nat,Lib.indexByte rest.data.toList c=(i:Int):=⟨(Lib.indexByte rest.data.toList c).toNat,ZA⟩
   obtain⟨ie,jd⟩:=Mr hi;have pD:i<rest.size:=ZJ5
   have wX:Aj c rest=rest.extract 0 i::Aj c (rest.extract (i+1) rest.size):=by
    unfold Aj;rw[ie,cD];have e1:(⟨(rest.data.toList.take i).toArray⟩:Y_)=rest.extract 0 i:=by{apply ByteArray.ext;refine' Wd;apply Array.ext';simp};have e2:rest.data.toList.drop (i+1)=(rest.extract (i+1) rest.size).data.toList:=by{refine' Wd;simp;exact(bB (by rw[dV];exact eS (aU (fun z=>z - (i+1)) ZT8))).symm};rw[e1,e2]
   rw[hi]at kj;have bp:pre.length<(Aj c s).length:=by{rw[hp,wX];simp};obtain⟨fn,tmps,assign,body,hy,hR⟩:=hY pre (rest.extract 0 i) wr hj bp zL
   (try dsimp only at hy)
   unfold maxLen at hr;have w1:aD.wrap ((i:Int)+0)=(i:Int):=by{rw[Int.add_zero];exact bG _ ZA};refine' ZT3;have ER:(i:Int)<=(rest.size:Int):=ZA
   have lI:((i:Int)+1).toNat=i+1:=ZA
   refine' ZVN;rintro e W' (⟨rfl,hJ',hsz',gj⟩|⟨rfl,GI⟩)
   .have db:=CP.same gj
    have CR:=db;obtain⟨k1,k2,k3,k4⟩:=db;clear g1 g2 g3 g4
    gi_wp2
    go_roundw
    case rel=> refine⟨pre++[rest.extract 0 i],rest.extract (i+1) rest.size,CR.set _,by rw[hp,wX];simp,hJ _ _ _ _ hJ' (grownBy_setCell' W' b _) (fun r e=>by cases e;rfl),by unfold maxLen;exact zL⟩
    case measure=> have e1:(W'.setCell ⟨b,0,none⟩ (.string (rest.extract (i+1) rest.size))).cell? ⟨b,0,none⟩=some (.string (rest.extract (i+1) rest.size)):=(CR.set _).1;have e2:=CP.1;simp only[e1,e2];exact zL
   .gi_wp2
    refine bodyPost_ret (results_none rfl _ _ _) rfl ?_;exact⟨⟨_,rfl⟩,.inr ⟨pre++[rest.extract 0 i],by rw[hp,wX];exact⟨Aj c (rest.extract (i+1) rest.size),ZF⟩,GI⟩⟩
theorem Kh(s c w):
 Calls Tryz.prog 134 #[.string s,.string ⟨#[c]⟩] w fun e w'=>e=.returned (.func (.func 286) #[] #[.pointer (some ⟨w.heap.size+1,0,none⟩),.pointer (P_ w.heap.size),.pointer (some ⟨w.heap.size+2,0,none⟩)])/\
  Ai6 w.heap.size c s w'/\B_ w w'/\w'.heap.size=w.heap.size+3:=by
 have h1:Calls Tryz.prog 218 #[.string s,.string ⟨#[c]⟩,.int .i64 0] w fun e w'=>e=.returned (.func (.func 286) #[] #[.pointer (some ⟨w.heap.size+1,0,none⟩),.pointer (P_ w.heap.size),.pointer (some ⟨w.heap.size+2,0,none⟩)])/\
  w'=((w.alloc (.cells #[.string s] 9)).alloc (.cells #[.string ⟨#[c]⟩] 9)).alloc (.cells #[.int .i64 0] 3):=by go_enter func218,ntmps218;refine' ZO;exact ZW
 go_enter func134,ntmps134
 go_wp2_with (go_at_call 218;refine h1.mono ?_;refine' zW)
 go_ret;have b0:=((Boxed.new w 9 (.string s)).alloc (.cells #[.string ⟨#[c]⟩] 9)).alloc (.cells #[.int .i64 0] 3);have b1:=(Boxed.new (w.alloc (.cells #[.string s] 9)) 9 (.string ⟨#[c]⟩)).alloc (.cells #[.int .i64 0] 3);have b2:=Boxed.new ((w.alloc (.cells #[.string s] 9)).alloc (.cells #[.string ⟨#[c]⟩] 9)) 3 (.int .i64 0);rw[iY]at b1 b2;rw[iY]at b2;exact⟨rfl,⟨b0.cell,b0.frozen,b1.cell,b2.cell⟩,(((aF _ w).alloc (aC _) _).alloc ZF _).alloc ZH _,ZF⟩
def E5(c:UInt8)(s:Y_):Option (Y_×Y_):=
 if Lib.indexByte s.data.toList c<0 then none else some (s.extract 0 (Lib.indexByte s.data.toList c).toNat,s.extract ((Lib.indexByte s.data.toList c).toNat+1) s.size)
theorem Ri{c s}(h:Lib.indexByte s.data.toList c<0):E5 c s=none:=by unfold E5;rw[aQ h]
theorem Nt{c s}{i:Nat}(h:Lib.indexByte s.data.toList c=(i:Int)):E5 c s=some (s.extract 0 i,s.extract (i+1) s.size):=by unfold E5;rw[aM ZA,h];rfl
theorem AcH(s c w)(hs:s.size<=maxLen):
 Calls Tryz.prog 116 #[.string s,.string ⟨#[c]⟩] w fun e w'=>B_ w w'/\
  ((E5 c s=none/\e=.returned (.tuple #[.string s,.string ⟨#[]⟩,.bool false]))\/∃p q,E5 c s=some (p,q)/\e=.returned (.tuple #[.string p,.string q,.bool true])):=by
 have kj:=Tryz.stringslite_Index_one s c w;have tX:=Lib.indexByte_ge s.data.toList c;unfold maxLen at hs;by_cases bc:Lib.indexByte s.data.toList c<0
 .have HC:=aA (Ri bc)
  have hd:decide ((0:Int)<=Lib.indexByte s.data.toList c)=false:=aP ZA;generalize Lib.indexByte s.data.toList c=j at *;refine' ZT2;go_ret3
  exact⟨aF _ _,.inl ⟨HC.out,rfl⟩⟩
 .obtain⟨i,hi⟩:∃i:Nat,Lib.indexByte s.data.toList c=(i:Int):=⟨(Lib.indexByte s.data.toList c).toNat,ZA⟩
  obtain⟨_,jd⟩:=Mr hi;have pD:i<s.size:=ZJ5
  have HC:=aA (Nt hi);rw[hi]at kj;clear bc tX hi jd;refine' ZT3;have ER:(i:Int)<=(s.size:Int):=ZA
  have km:(i:Int)+1<=(s.size:Int):=ZA
  have lI:((i:Int)+1).toNat=i+1:=ZA
  have xt:(0:Int)<=(i:Int):=ZA
  have ES:(0:Int)<=(i:Int)+1:=ZA
  have hd:decide ((0:Int)<=(i:Int))=true:=aL xt;refine' ZT2;go_quiet (fail)
  go_wp2
  go_ret3
  exact⟨Ba (aF _ _) _,.inr ⟨_,_,HC.out,rfl⟩⟩
theorem Er(s c w)(hs:s.size<=maxLen):
 Calls Tryz.prog 51 #[.string s,.string ⟨#[c]⟩] w fun e w'=>B_ w w'/\
  ((E5 c s=none/\e=.returned (.tuple #[.string s,.string ⟨#[]⟩,.bool false]))\/∃p q,E5 c s=some (p,q)/\e=.returned (.tuple #[.string p,.string q,.bool true])):=by
 have h:=AcH s c w hs;go_enter func51,ntmps51
 go_wp2_with (go_at_call 116;refine h.mono ?_;rintro e w' ⟨hb,⟨hc,rfl⟩|⟨p,q,hc,rfl⟩⟩)
 all_goals go_ret3
 .exact⟨hb,.inl ⟨hc,rfl⟩⟩
 .exact⟨hb,.inr ⟨_,_,hc,rfl⟩⟩
theorem ZDS{α:Type}[Flat α]{F n P w ops rest o a}{Q:Exit->Act->World->Prop}(nW:o.guard=none)(s x:Operand)(t:TypeId)
 (ho:o.op=.call {callee:=.builtin .append,args:=#[s,x],argTypes:=#[t,t]})
 (base) (e:TypeId) (i:TypeInfo) (z bytes) (ht:P.underlying t=some (.slice e)) (hi:P.info? e=some i) (hz:i.zero=some z)
 (cw:i.size=El.size α) (pz:i.bytes=bytes) (gu:z.cells.size=El.size α) (cm:0<El.size α)
 (v xs) (y:α) (hs:a.eval s=v) (ft:own e base w v xs)
 (ad c cs) (hx:a.eval x=.slice (some ad) 1 c) (lx:El.el w w.heap.size y cs) (fa:∀j u,cs[j]? =some u->w.cell? (ad.add j)=some u)
 (pA:xs.length+1<=maxLen) (cz:(xs.length+1)*bytes<=140737488355328) (ee:base<=w.heap.size)
 (h:∀v' w',own e base w' v' (xs++[y])->w.grownBy w' v.ownBlock->wpListIn F n P ops Q rest (a.put o.dst v') w'):wpListIn F n P ops Q (o::rest) a w:=by refine' Tz;refine wpListIn_append_own (F:=F) (n:=n) w nW s x t ho base e i z (El.size α) bytes ht hi hz cw pz gu cm v xs.length ic.flatten hs hrow ad 1 c cs hx ZGB fa (El.one lx) pA cz ee ?_;intro v' w' h2 h3 _;refine h v' w' ⟨ic++[cs],V2,X2,fun k h1 h2=>?_⟩ h3;exact Sq
theorem Hn{α:Type}[El α]{T base:Nat}{w v}{xs:List α}(h:own T base w v xs){k}(hk:v.ownBlock=some k):∃o:Obj,w.heap[k]? =some o/\o.isCells=true:=by
 refine' ZTy
 .injection hk with hk
  subst hk;exact⟨_,hh,rfl⟩
def K7(x:Y_):Option Fwd:=(E5 62 x).map fun p=>⟨p.1,p.2⟩
def Ko(ps:List Y_):Bool:=ps.all fun x=>(K7 x).isSome
def Fx(ps:List Y_):List Fwd:=ps.filterMap K7
def Kc(t:Y_):Bool:=Ko (Aj 32 t)&&decide ((Aj 32 t).length<=20)&&C7 (Fx (Aj 32 t))
def Qu(t:Y_):Bool:=zU t ⟨#[45]⟩||Kc t
def kT(t:Y_):List Fwd:=if zU t ⟨#[45]⟩then []else if Kc t then Fx (Aj 32 t)else []
theorem L9:∀ps:List Y_,Ko ps=true->(Fx ps).length=ps.length
 |[],_=>rfl
 |x::ps,h=>by unfold Ko at h;refine' Uc;unfold Fx;refine' Qf;show(Fx ps).length+1=_;rw[L9 ps h.2];rfl
theorem ZDP{ps x y}(h:K7 x=some y):Fx (ps++[x])=Fx ps++[y]:=by unfold Fx;rw[List.filterMap_append];simp[h]
theorem ZDU(ps x):Ko (ps++[x])=(Ko ps&&(K7 x).isSome):=by unfold Ko;rw[eH];simp
theorem P8{ps qs}(h:ps<+:qs)(hf:Ko ps=false):Ko qs=false:=by obtain⟨r,rfl⟩:=h;unfold Ko at *;rw[eH,hf];rfl
def prI(h:Nat)(w0:World)(B:Nat)(pre:List Y_)(W:World):Prop:=
 (∃v,Boxed W (h+1+1) 43 v/\own 181 B W v (Fx pre))/\B<=W.heap.size/\Ko pre=true/\pre.length<=20/\Boxed W h 43 (.slice none 0 0)/\Boxed W (h+1) 4 (.bool false)/\Below h w0 W
def prX(h:Nat)(w0:World)(pre:List Y_)(W:World):Prop:=
 (Ko pre=false\/20<pre.length)/\Boxed W h 43 (.slice none 0 0)/\Boxed W (h+1) 4 (.bool false)/\Below h w0 W
theorem AvE{h B z w0}(hz:h+1+1<z)(vu:z<B)(hs:h<=w0.heap.size):Pw B z (prI h w0 B):=ZI6
theorem AvV{h B z w0}(hz:h+1+1<z)(vu:z<B)(hs:h<=w0.heap.size):Pw B z (prX h w0):=ZFS
theorem Cr{W W2}(hb:B_ W W2):KeepsOthers W W2:=
 ⟨hb.size,fun k o h _=>(hb.block k (Array.getElem?_eq_some_iff.1 h).1).trans h⟩
theorem AqF{W h}{T T':TypeId}{u0 u1}(z0:Boxed W h T u0)(z1:Boxed W (h+1) T' u1)(a b):
 Boxed ((W.setCell ⟨h,0,none⟩ a).setCell ⟨h+1,0,none⟩ b) h T a/\Boxed ((W.setCell ⟨h,0,none⟩ a).setCell ⟨h+1,0,none⟩ b) (h+1) T' b/\
  KeepsOthers W ((W.setCell ⟨h,0,none⟩ a).setCell ⟨h+1,0,none⟩ b)/\∀B,B<=h->Below B W ((W.setCell ⟨h,0,none⟩ a).setCell ⟨h+1,0,none⟩ b):=by refine⟨(z0.set a).kept (grownBy_setCell' _ _ _) ZF,Boxed.set b (z1.kept (grownBy_setCell' W h a) ZF),(KeepsOthers.setCell _ _ _).trans (KeepsOthers.setCell _ _ _),fun B hB=>?_⟩;exact((aF B W).setCell (p:=⟨h,0,none⟩) hB a).setCell (p:=⟨h+1,0,none⟩) (show B<=h+1 by omega) b
theorem ZD9{α:Type}[El α]{T base D:Nat}{w v}{xs:List α}(h:own T base w v xs){ds}(hD:w.heap[D]? =some (.deferred ds)):v.ownBlock=none\/v.ownBlock≠some D:=by
 cases hb:v.ownBlock with
 |none=>exact .inl rfl
 |some k=> refine' YQ;refine' YC;subst e;obtain⟨o,h1,h2⟩:=Hn h hb;rw[hD]at h1;injection h1 with h1;rw[<-h1]at h2;cases h2
theorem Ki{c s p q}(h:E5 c s=some (p,q)):p.size<=s.size/\q.size<=s.size:=by
 unfold E5 at h
 split at h
 .cases h
 .injection h with h
  injection h with h1 h2;rw[<-h1,<-h2,dB,dB];omega
theorem AdR(t w)(ht:t.size<=maxLen):
 Calls Tryz.prog 223 #[.string t] w fun e w'=>∃v',e=.returned (.tuple #[v',.bool (Qu t)])/\own 181 w.heap.size w' v' (kT t)/\B_ w w':=by
 refine' ZFT;refine callsIn_of_wp_marks func223 rfl trivial ?_ rfl;simp only[ntmps223,dX,dA,cT,Nat.reduceAdd,Nat.reduceSub,gC,gD,iL,gM,bT,cK];by_cases cv:zU t ⟨#[45]⟩=true
 .refine' ZTz;refine' ZFU;gi_wp2
  refine⟨.tuple #[.slice none 0 0,.bool true],by simp[results,results223,go_sem],_,by rw[HO.out],Qe,?_⟩;exact ZI7
 .refine' ZFV;have HO:Hid (Qu t=Kc t):=by show _=_;unfold Qu;rw[fC]at cv;rw[cv];rfl
  have HR:Hid (kT t=if Kc t then Fx (Aj 32 t)else []):=by show _=_;unfold kT;rw[aM cv]
  clear cv;have HS:=fun W=>Kh t 32 W
  have b0:=((Boxed.new w 43 (.slice none 0 0)).alloc (aB #[.bool false] 4)).alloc (aB #[.slice none 0 0] 43);have b1:=(Boxed.new (w.alloc (aB #[.slice none 0 0] 43)) 4 (.bool false)).alloc (aB #[.slice none 0 0] 43);have b2:=Boxed.new ((w.alloc (aB #[.slice none 0 0] 43)).alloc (aB #[.bool false] 4)) 43 (.slice none 0 0);have l3:B_ w (((w.alloc (aB #[.slice none 0 0] 43)).alloc (aB #[.bool false] 4)).alloc (aB #[.slice none 0 0] 43)):=(((aF _ w).alloc (aC _) _).alloc ZF _).alloc ZH _;refine' ZFW;have fu:(((w.alloc (aB #[.slice none 0 0] 43)).alloc (aB #[.bool false] 4)).alloc (aB #[.slice none 0 0] 43)).heap.size=w.heap.size+1+1+1:=ZF
  generalize(((w.alloc (aB #[.slice none 0 0] 43)).alloc (aB #[.bool false] 4)).alloc (aB #[.slice none 0 0] 43))=w3 at *;rw[fu]at az BX;have x0:Boxed w6 (w.heap.size) 43 (.slice none 0 0):=(mM.block _ ZA).trans B0.out;refine' ZFX;have x2:Boxed w6 (w.heap.size+1+1) 43 (.slice none 0 0):=(mM.block _ ZA).trans B2.out;refine' ZFY;obtain⟨i0,hi,xt,km,lI⟩:=dD Tryz.infoRul;refine Pz (F:=Fence.wide) (n:=9) rfl ZA (gf:=286) (lb:=#[.pointer (some ⟨w.heap.size+1+1+1+1,0,none⟩),.pointer (some ⟨w.heap.size+1+1+1,0,none⟩),.pointer (some ⟨w.heap.size+1+1+1+2,0,none⟩)]) rfl trivial (iF func286 ZB rfl)
   (ZAc 8 (w.heap.size+1+1+1) ZA 32 t w6 az ht) (fun k hk=>zZ) ZA (fun _=>rfl)
   (prI w.heap.size w w6.heap.size) (prX w.heap.size w) (AvE ZA ZA (aC _)) (AvV ZA ZA (aC _))
   ⟨⟨_,x2,own.nil_ _ _ _⟩,aC _,rfl,aN _,x0,x1,l6⟩
   (fun x=>{tmps:=#[.string t,undef,.pointer (P_ w.heap.size),.pointer (some ⟨w.heap.size+1,0,none⟩),.pointer (some ⟨w.heap.size+1+1,0,none⟩),.string x,undef,undef,undef,.string t,.bool false,.string t,.func (.func 286) #[] #[.pointer (some ⟨w.heap.size+1+1+1+1,0,none⟩),.pointer (some ⟨w.heap.size+1+1+1,0,none⟩),.pointer (some ⟨w.heap.size+1+1+1+2,0,none⟩)],.string x,undef,undef,undef,undef,undef,undef,undef,undef,undef,undef,undef,undef,undef,undef,undef,undef,undef,undef,undef,undef,undef,undef,undef],defers:=[]}) ?assign ?body ?done ?stop
  case assign=> exact ZFZ
  case body=>
   refine' ZRC
   .refine' ZRD;by_cases rV:m=20
    .have sJ:((m:Int)==20)=true:=ZFe
     have HL:Hid (20<(pre++[x]).length):=by{show _<_;refine' fH;show 20<pre.length+1;omega};clear rV hm bz sI
     gi_wp2_with (refine' Wc;refine' ZFf)
     exact ZFg
    .have sJ:((m:Int)==20)=false:=beq_eq_false_iff_ne.2 ZA
     have LF:(Fx pre).length<=19:=ZA
     have mg:Hid (pre.length<=19):=Zi
     refine' ZRE;gi_wp2_with (first|refine' ZJB|(gi_at_builtin;refine ZDS (α:=Fwd) rfl (.tmp 27) (.tmp 31) 43 rfl w6.heap.size 181 i0 _ 32 iO hi xt km lI rfl ZE (.slice A m cp) (Fx pre) ⟨p,q⟩ rfl (o2.alloc _) ⟨W2.heap.size,0,none⟩ 1 (Fwd.cells ⟨p,q⟩) rfl ⟨HY.out,rfl⟩ (Bz W2 _ (Fwd.cells ⟨p,q⟩)) ZN ZA ZH ?_;refine' ZJC))
     refine' ZJD;have vy:KeepsOthers W (w5.setCell ⟨w.heap.size+1+1,0,none⟩ (.slice A5 n5 c5)):=(((Cr hb).trans (KeepsOthers.alloc W2 _)).trans (KeepsOthers.of_grownBy aj fun j o ej hj=>by obtain⟨o',h1,h2⟩:=Hn (o2.alloc (aB #[.string p,.string q] 181)) ej;exact ZFh)).trans (KeepsOthers.setCell _ _ _)
     refine⟨vy,fun k hk=>p9 k zZ zZ,⟨_,u2.set _,?_⟩,?_,?_,?_,?_,?_,?_⟩
     .rw[ZDP HP.out]
      exact ZJE
     exact ZFi
     .rw[ZDU,da,HP.out];rfl
     .have:=mg.out;refine' fH;show pre.length+1<=20;omega
     exact ZFj
     exact ZFk;exact ZJF
  case done=>
   refine' ZJG;have i8:Kc t=C7 (Fx (Aj 32 t)):=by{unfold Kc;exact ZFl};refine' ZFm;have HV:=ZAw (.slice A m cp) (Fx (Aj 32 t)) W ho.rd;refine' ZFn;cases jv:C7 (Fx (Aj 32 t))
   .refine' U_;gi_wp2_with (refine' YT;gi_at_call 285;refine' X8)
    refine' ZFo;exact ZT0
   .refine' U_;gi_wp2_with (refine' YT;gi_at_call 285;refine' X8)
    refine' ZJH;refine⟨.tuple #[.slice A m cp,.bool true],ZT1,_,Ub,ZJI,oD⟩
  case stop=>
   refine' ZFp;have i8:Kc t=false:=by
    unfold Kc;rcases ao with h|h
    .rw[P8 lV h];rfl
    exact ZFq
   refine' ZFr;exact ZT0
theorem ZCx{c}:∀{p:List UInt8},c∉p->s_ c p=[p]
 |[],_=>rfl
 |b::p,h=>by refine' ZGM;exact Nk hb (ZCx fun m=>h (bN _ m))
theorem Kf{c}(s):∀{p:List UInt8},c∉p->s_ c (p++c::s)=p::s_ c s
 |[],_=>Yw c s
 |b::p,h=>by refine' ZGM;exact Nk hb (Kf s fun m=>h (bN _ m))
theorem Po{α:Type}(sep a b:List α)(l):sep.intercalate (a::b::l)=a++sep++sep.intercalate (b::l):=ZE7
theorem AtI{α:Type}(sep a:List α):sep.intercalate [a]=a:=ZE7
theorem AhR{c}:∀(ps:List (List UInt8)),ps≠[]->(∀p∈ps,c∉p)->s_ c ([c].intercalate ps)=ps
 |[],h,_=>absurd rfl h
 |[p],_,h=>by rw[AtI];exact ZCx (h p ZF)
 |p::q::ps,_,h=>by rw[Po,cZ,List.singleton_append,Kf _ (h p ZF),AhR (q::ps) ZF fun x hx=>h x (bN _ hx)]
theorem AhL(c):∀s:List UInt8,[c].intercalate (s_ c s)=s
 |[]=>by show [c].intercalate [[]]=[];rw[AtI]
 |b::s=>by
  have ih:=AhL c s;obtain⟨p,ps,hp⟩:=BdY (Vx c s);by_cases hb:b=c
  .subst hb
   rw[Yw,hp,Po,<-hp,ih];rfl
  .rw[Nk hb hp]
   rw[hp]at ih;cases ps with
   |nil=>rw[AtI]at ih⊢;rw[ih]
   |cons q ps=>rw[Po]at ih⊢;rw[<-ih];simp
theorem As2{c}:∀{s:List UInt8} {i:Nat},Lib.indexByte s c=(i:Int)->s=s.take i++c::s.drop (i+1)
 |[],i,h=>ZT4
 |b::s,i,h=>by
  refine' ZJ6;split at h
  .rename_i hb
   have e:i=0:=ZA
   subst e hb;rfl
  .refine' ZT5;have:=As2 h1;show b::s=b::(s.take j++c::s.drop (j+1));rw[<-this]
theorem J_{c}(s):∀{p:List UInt8},c∉p->Lib.indexByte (p++c::s) c=(p.length:Int)
 |[],_=>by rw[bT,ZCn,aQ rfl];rfl
 |b::p,h=>by
  refine' ZGM;have ih:=J_ s (p:=p) fun m=>h (bN _ m)
  rw[cK,ZCn,aM hb,aM ZA,ih];simp
theorem O8(ps):(Cg ps y7).data.toList=[(32:UInt8)].intercalate (ps.map (·.data.toList)):=by unfold Cg Lib.join;simp[y7]
theorem ZBf{ps}(ay:ps≠[])(h:∀p∈ps,(32:UInt8)∉p.data.toList):Aj 32 (Cg ps y7)=ps:=by
 unfold Aj;rw[O8,AhR _ (by simpa using ay) zI,gZ]
 exact ZT6
theorem ZCG(t):Cg (Aj 32 t) y7=t:=by refine Cv ?_;rw[O8];refine' ZT7;exact AhL 32 _
theorem Pj(t):Aj 32 t≠[]:=by unfold Aj;simp[Vx]
theorem Ut(s:Y_)(i):(s.extract 0 i).data.toList=s.data.toList.take i:=ZJ7
theorem J3(s:Y_)(i):(s.extract i s.size).data.toList=s.data.toList.drop i:=by refine' Wd;simp;exact bB (by rw[dV];exact eS (aU (fun z=>z - i) ZT8))
theorem AwN{x y}(h:K7 x=some y):Ek y=x:=by
 unfold K7 E5 at h
 split at h
 .cases h
 .rename_i hn
  obtain⟨i,hi⟩:∃i:Nat,Lib.indexByte x.data.toList 62=(i:Int):=⟨(Lib.indexByte x.data.toList 62).toNat,ZA⟩;rw[hi]at h;simp only[Option.map_some,AcG,bE]at h;rw[<-h];refine Cv ?_;unfold Ek;rw[B6,B6,Ut,J3]
  conv=>rhs;rw[As2 hi]
  simp
theorem Av6{p q}(h:(62:UInt8)∉p.data.toList):K7 (Ek ⟨p,q⟩)=some ⟨p,q⟩:=by
 have hd:(Ek ⟨p,q⟩).data.toList=p.data.toList++62::q.data.toList:=by unfold Ek;rw[B6,B6];simp
 have hi:Lib.indexByte (Ek ⟨p,q⟩).data.toList 62=(p.data.toList.length:Int):=by rw[hd];exact J_ _ h
 unfold K7;rw[Nt hi];simp only[Option.map_some,AcG];have e1:(Ek ⟨p,q⟩).extract 0 p.data.toList.length=p:=Cv (by rw[Ut,hd];simp);have e2:(Ek ⟨p,q⟩).extract (p.data.toList.length+1) (Ek ⟨p,q⟩).size=q:=Cv (by rw[J3,hd,show p.data.toList++62::q.data.toList=(p.data.toList++[62])++q.data.toList by simp];exact List.drop_left' ZF)
 rw[e1,e2]
theorem An0:∀{ps:List Y_},Ko ps=true->(Fx ps).map Ek=ps
 |[],_=>rfl
 |x::ps,h=>by unfold Ko at h;refine' Uc;unfold Fx;refine' Qf;show Ek y::(Fx ps).map Ek=_;rw[AwN hy,An0 h.2]
theorem AjQ:∀{rs:List Fwd},(∀r∈rs,(62:UInt8)∉r.src.data.toList)->Fx (rs.map Ek)=rs/\Ko (rs.map Ek)=true
 |[],_=>⟨rfl,rfl⟩
 |r::rs,h=>by
  have h1:=Av6 (p:=r.src) (q:=r.dst) (h r ZF);obtain⟨i1,i2⟩:=AjQ (rs:=rs) fun x hx=>h x (bN _ hx)
  unfold Fx Ko at *;exact ZT9
theorem Iw{l}(h:Ea l=true):∀b∈l,48<=b.toNat/\b.toNat<=57:=by unfold Ea at h;intro b hb;have:=List.all_eq_true.1 h b hb;simpa [Td]using this
theorem AgS{l}(h:jN l=true):∀b∈l,97<=b.toNat/\b.toNat<=122:=by unfold jN at h;intro b hb;have:=List.all_eq_true.1 h b hb;simpa [Mk]using this
theorem ArQ{rs}(h:C7 rs=true):∀r∈rs,(62:UInt8)∉r.src.data.toList/\(32:UInt8)∉(Ek r).data.toList/\2<=(Ek r).size:=fun r hr=>by
 refine' ZUA;have a3:=(Kb.1 h2).2.1;refine⟨fun m=>?_,fun m=>?_,?_⟩
 .have:=a1 _ m
  simp at this
 .exact ZUB
 .unfold Ek
  refine' Rg;show 2<=_+1+_;omega
theorem AuU:C7 []=true:=ZE
theorem AuH{rs}(h:C7 rs=true):Qu (Jj rs)=true/\kT (Jj rs)=rs:=by
 by_cases h0:rs.length=0
 .have e:rs=[]:=bW h0
  subst e;rw[Lu h h0];have hs:zU (⟨#[45]⟩:Y_) ⟨#[45]⟩=true:=Mq _;unfold Qu kT;rw[hs];exact ZW
 .have hb:=ArQ h
  have ay:rs.map Ek≠[]:=fun e=>h0 (by rw[<-bI (f:=Ek),e];rfl)
  rw[M8 h h0];have hp:=ZBf ay (fun p hp=>by obtain⟨r,hr,rfl⟩:=List.mem_map.1 hp;exact(hb r hr).2.1)
  obtain⟨g1,g2⟩:=AjQ (rs:=rs) fun r hr=>(hb r hr).1
  have hs:zU (Cg (rs.map Ek) y7) ⟨#[45]⟩=false:=F6.2 fun e=>by
   rw[e]at hp;have hd:Aj 32 (⟨#[45]⟩:Y_)=[⟨#[45]⟩]:=ZR
   rw[hd]at hp;have hm:(⟨#[45]⟩:Y_)∈rs.map Ek:=by{rw[<-hp];simp};obtain⟨r,hr,e2⟩:=List.mem_map.1 hm;have:=(hb r hr).2.2;rw[e2]at this;exact absurd this ZE
  have hS:Kc (Cg (rs.map Ek) y7)=true:=by unfold Kc;rw[hp,g1,g2,h,aL (by refine' ze;exact(Ev.1 h).1)];rfl
  unfold Qu kT;rw[hs,hS,hp,g1];exact⟨rfl,ZF⟩
theorem Al9{t}(h:Qu t=true):Jj (kT t)=t:=by
 unfold Qu at h;unfold kT;cases hs:zU t ⟨#[45]⟩
 .rw[hs,Bool.false_or]at h
  rw[aM ZF,aQ h];unfold Kc at h;refine' ZJ8;have hl:=L9 _ h1;refine' ZUC;rw[M8 h3 ZA,An0 h1,ZCG]
 .rw[aQ rfl,Lu AuU rfl]
  exact(Ec.1 hs).symm
def Ua(t:Y_):Bool:=Ko ((Aj 32 t).take 21)&&zU (Jj (Fx ((Aj 32 t).take 21))) t
theorem BcP{t}(cv:zU t ⟨#[45]⟩=false):Ua t=Kc t/\(Kc t=true->Fx ((Aj 32 t).take 21)=Fx (Aj 32 t)):=by
 have h1:Kc t=true->(Aj 32 t).take 21=Aj 32 t:=fun h=>by unfold Kc at h;exact ZJ9
 refine⟨?_,fun h=>by rw[h1 h]⟩;refine' fV;constructor
 .intro h
  unfold Ua at h;refine' ZGN;have hg:=L9 _ ha;cases hr:C7 (Fx ((Aj 32 t).take 21))
  .rw[Ad4 hr]at he
   subst he;have hd:Aj 32 (⟨#[]⟩:Y_)=[⟨#[]⟩]:=ZR
   rw[hd]at ha;exact absurd ha ZR
  .have hl:=(Ev.1 hr).1
   have qT:(Aj 32 t).length<=20:=ZUD
   have ht:(Aj 32 t).take 21=Aj 32 t:=bB ZA;rw[ht]at ha hr;unfold Kc;rw[ha,hr,aL qT];rfl
 .intro h
  have ht:=h1 h;have hf:=Al9 (t:=t) (by unfold Qu;rw[h];simp);unfold kT at hf;rw[aM (by rw[cv];simp),aQ h]at hf;unfold Ua;rw[ht,hf,Mq];unfold Kc at h;refine' Xx;rw[h.1.1];rfl
theorem Bd5(s c):Lib.indexB s ⟨#[c]⟩=Lib.indexByte s.data.toList c:=by show Lib.index s.data.toList [c]=_;exact Lib.index_one _ _
theorem Ar3{c s}(h:Lib.indexByte s.data.toList c<0):Aj c s=[s]:=by unfold Aj;rw[AhH h];rfl
theorem ArJ{c s}{i:Nat}(hi:Lib.indexByte s.data.toList c=(i:Int)):Aj c s=s.extract 0 i::Aj c (s.extract (i+1) s.size):=by
 obtain⟨ie,jd⟩:=Mr hi;unfold Aj;rw[ie,cD];have e1:(⟨(s.data.toList.take i).toArray⟩:Y_)=s.extract 0 i:=Cv (by rw[Ut]);have e2:s.data.toList.drop (i+1)=(s.extract (i+1) s.size).data.toList:=by rw[J3]
 rw[e1,e2]
theorem ZDi(c):∀(k:Nat) (s:Y_),Lib.countB s ⟨#[c]⟩=k->Lib.splitB ⟨#[c]⟩ 0 k s=Aj c s
 |0,s,hk=>by
  rcases Lib.indexB_cases s ⟨#[c]⟩with kj|⟨i,kj,_⟩
  .rw[Lib.splitB_zero,Ar3 (by rw[<-Bd5,kj];decide)]
  .have:=Lib.countB_hit s ⟨#[c]⟩ i (aC 1) kj
   omega
 |k+1,s,hk=>by
  rcases Lib.indexB_cases s ⟨#[c]⟩with kj|⟨i,kj,_⟩
  .rw[Lib.countB_miss s _ kj]at hk;omega
  .have h1:=Lib.countB_hit s ⟨#[c]⟩ i (aC 1) kj
   rw[Lib.splitB_hit ⟨#[c]⟩ 0 k s i kj,ArJ (by rw[<-Bd5];exact kj)];rw[show i+(⟨#[c]⟩:Y_).size=i+1 from rfl]at h1⊢;rw[ZDi c k _ ZA];rfl
theorem Ad7(c s):(Aj c s).length=Lib.countB s ⟨#[c]⟩+1:=by rw[<-ZDi c _ s rfl];exact Lib.splitB_all ⟨#[c]⟩ (aC 1) 0 _ s rfl
theorem ZCQ(c s):(Aj c s).length<=s.size+1:=by rw[Ad7];have:=Lib.countB_le ⟨#[c]⟩ (aC 1) s.size s (aC _);omega
theorem ZEV{c}:∀{l p:List UInt8},p∈s_ c l->p.length<=l.length
 |[],p,h=>ZUZ
 |b::l,p,h=>by
  by_cases hb:b=c
  .refine' ZUa
   .exact fK (ZEV h)
  .refine' ZUb;rcases List.mem_cons.1 h with h|h
   .subst h
    exact Nat.succ_le_succ (ZEV (c:=c) (l:=l) (by rw[hq];simp))
   .exact fK (ZEV (c:=c) (l:=l) ZUc)
theorem Hi{c t p}(h:p∈Aj c t):p.size<=t.size:=by unfold Aj at h;obtain⟨l,hl,rfl⟩:=List.mem_map.1 h;have:=ZEV hl;show l.toArray.size<=t.data.size;exact zV
theorem AjC{c}(p)(hp:c∉p.data.toList)(s):Aj c (p++⟨#[c]⟩++s)=p::Aj c s:=by
 unfold Aj;have e:(p++⟨#[c]⟩++s).data.toList=p.data.toList++c::s.data.toList:=by rw[B6,B6];simp
 rw[e,Kf _ hp,cD]
theorem AdO(c ps):(Cg ps ⟨#[c]⟩).data.toList=[c].intercalate (ps.map (·.data.toList)):=by unfold Cg Lib.join;simp
theorem An2{c ps}(ay:ps≠[])(h:∀p∈ps,c∉p.data.toList):Aj c (Cg ps ⟨#[c]⟩)=ps:=by
 unfold Aj;rw[AdO,AhR _ (by simpa using ay) zI,gZ]
 exact ZT6
theorem AnC(c t):Cg (Aj c t) ⟨#[c]⟩=t:=by refine Cv ?_;rw[AdO];refine' ZT7;exact AhL c _
theorem AkK(c t):Aj c t≠[]:=by unfold Aj;simp[Vx]
theorem Ax8{c x a b}(h:E5 c x=some (a,b)):a++⟨#[c]⟩++b=x:=by
 unfold E5 at h
 split at h
 .cases h
 .rename_i hn
  obtain⟨i,hi⟩:∃i:Nat,Lib.indexByte x.data.toList c=(i:Int):=⟨(Lib.indexByte x.data.toList c).toNat,ZA⟩;rw[hi]at h;simp only[AcG,bE,Prod.mk.injEq]at h;rw[<-h.1,<-h.2];refine Cv ?_;rw[B6,B6,Ut,J3]
  conv=>rhs;rw[As2 hi]
  simp
theorem At1{c p q}(h:c∉p.data.toList):E5 c (p++⟨#[c]⟩++q)=some (p,q):=by
 have hd:(p++⟨#[c]⟩++q).data.toList=p.data.toList++c::q.data.toList:=by rw[B6,B6];simp
 have hi:Lib.indexByte (p++⟨#[c]⟩++q).data.toList c=(p.data.toList.length:Int):=by rw[hd];exact J_ _ h
 rw[Nt hi];have e1:(p++⟨#[c]⟩++q).extract 0 p.data.toList.length=p:=Cv (by rw[Ut,hd];simp);have e2:(p++⟨#[c]⟩++q).extract (p.data.toList.length+1) (p++⟨#[c]⟩++q).size=q:=Cv (by rw[J3,hd,show p.data.toList++c::q.data.toList=(p.data.toList++[c])++q.data.toList by simp];exact List.drop_left' ZF)
 rw[e1,e2]
section
variable{α:Type}(f:Y_->Option α)
def Ik(ps:List Y_):Bool:=ps.all fun x=>(f x).isSome
def Gl(ps:List Y_):List α:=ps.filterMap f
variable{f}
theorem Un:∀ps:List Y_,Ik f ps=true->(Gl f ps).length=ps.length
 |[],_=>rfl
 |x::ps,h=>by unfold Ik at h;refine' Uc;unfold Gl;refine' Qf;show(Gl f ps).length+1=_;rw[Un ps h.2];rfl
theorem AbL{ps x}{y:α}(h:f x=some y):Gl f (ps++[x])=Gl f ps++[y]:=by unfold Gl;rw[List.filterMap_append];simp[h]
theorem ZDJ(ps x):Ik f (ps++[x])=(Ik f ps&&(f x).isSome):=by unfold Ik;rw[eH];simp
theorem AaT{ps qs}(h:ps<+:qs)(hf:Ik f ps=false):Ik f qs=false:=by obtain⟨r,rfl⟩:=h;unfold Ik at *;rw[eH,hf];rfl
theorem AnB{g:α->Y_}(hg:∀x y,f x=some y->g y=x):∀{ps:List Y_},Ik f ps=true->(Gl f ps).map g=ps
 |[],_=>rfl
 |x::ps,h=>by unfold Ik at h;refine' Uc;unfold Gl;refine' Qf;show g y::(Gl f ps).map g=_;rw[hg x y hy,AnB hg h.2]
theorem At8{g:α->Y_}:∀{rs:List α},(∀r∈rs,f (g r)=some r)->Gl f (rs.map g)=rs/\Ik f (rs.map g)=true
 |[],_=>⟨rfl,rfl⟩
 |r::rs,h=>by
  have h1:=h r ZF;obtain⟨i1,i2⟩:=At8 (rs:=rs) fun x hx=>h x (bN _ hx)
  unfold Gl Ik at *;exact ZT9
theorem Ab4{g:Y_->Option α}(hg:∀x y,f x=some y->g x=some y):∀{ps:List Y_},Ik f ps=true->Gl g ps=Gl f ps/\Ik g ps=true
 |[],_=>⟨rfl,rfl⟩
 |x::ps,h=>by unfold Ik at h;refine' Uc;obtain⟨i1,i2⟩:=Ab4 hg (ps:=ps) h.2;unfold Gl Ik at *;rw[gP,gP,hy,hg x y hy,List.all_cons,hg x y hy,i2];exact⟨by rw[i1],rfl⟩
end
def Ia(o:Ofc):Y_:=o.name++⟨#[32]⟩++Jj o.rules
def Mx(net:List Ofc):Y_:=if Di net then Cg (net.map Ia) ⟨#[59]⟩else⟨#[]⟩
theorem AeI{net}(h:Di net=false):Mx net=⟨#[]⟩:=by unfold Mx;rw[h];rfl
theorem Vh{net}(h:Di net=true):Mx net=Cg (net.map Ia) ⟨#[59]⟩:=by unfold Mx;rw[aQ h]
def Ib(x:Y_):Option Ofc:=(E5 32 x).bind fun p=>if Qu p.2 then some ⟨p.1,kT p.2⟩else none
def Jl(x:Y_):Option Ofc:=(E5 32 x).map fun p=>⟨p.1,kT p.2⟩
def Kx(t:Y_):Bool:=Ik Ib (Aj 59 t)&&decide ((Aj 59 t).length<=8)&&Di (Gl Ib (Aj 59 t))
def pf(t:Y_):List Ofc:=if Kx t then Gl Ib (Aj 59 t)else []
theorem AvO{x o}(h:Ib x=some o):Ia o=x:=by
 refine' ZUK;split at h
 .rename_i hb
  injection h with h;rw[<-h];unfold Ia;rw[Al9 hb];exact Ax8 hc
 .cases h
theorem Bb0{x o}(h:Ib x=some o):Jl x=some o:=by
 refine' ZUK;split at h
 .injection h with h
  unfold Jl;rw[hc,<-h];rfl
 .cases h
theorem AtE{l}(h:jN l=true){c}(hc:c.toNat<97):c∉l:=fun m=>by have:=AgS h c m;omega
theorem Al7{c b}:∀{ls:List (List UInt8)},b∈[c].intercalate ls->b=c\/∃l∈ls,b∈l
 |[],h=>by simp[List.intercalate]at h
 |[a],h=>by rw[AtI]at h;exact .inr ⟨a,ZF,h⟩
 |a::d::ls,h=>by
  rw[Po,eJ,eJ]at h;rcases h with(h|h)|h
  .exact .inr ⟨a,ZF,h⟩
  .exact .inl zI
  .rcases Al7 (ls:=d::ls) h with h|⟨l,hl,h⟩
   .exact .inl h
   .exact .inr ⟨l,bN _ hl,h⟩
theorem Bb6{rs}(h:C7 rs=true):∀r∈rs,(59:UInt8)∉(Ek r).data.toList:=fun r hr m=>by refine' ZUA;exact ZUB
theorem AxM(rs):(59:UInt8)∉(Jj rs).data.toList:=fun m=>by
 cases h:C7 rs
 .rw[Ad4 h]at m;simp at m
 .by_cases h0:rs.length=0
  .rw[Lu h h0]at m;simp at m
  .rw[M8 h h0,O8]at m
   rcases Al7 m with m|⟨l,hl,m⟩
   .simp at m
   .simp only[gZ,List.mem_map]at hl
    obtain⟨r,hr,rfl⟩:=hl;exact Bb6 h r hr m
theorem AtA{net}(h:Di net=true){o}(ho:o∈net):jN o.name.data.toList=true/\C7 o.rules=true:=by obtain⟨k,hk,rfl⟩:=bP ho;obtain⟨h1,_,_,h4,_⟩:=(D1.1 h).2 k hk;exact⟨(Kb.1 h1).1,h4⟩
theorem AzO{net}(h:Di net=true):∀o∈net,(59:UInt8)∉(Ia o).data.toList:=fun o ho m=>by
 unfold Ia at m;rw[B6,B6,eJ,eJ]at m;rcases m with(m|m)|m
 .exact AtE (AtA h ho).1 ZE m
 .simp at m
 .exact AxM _ m
theorem AwY{net}(h:Di net=true):∀o∈net,Ib (Ia o)=some o:=fun o ho=>by obtain⟨h1,h2⟩:=AtA h ho;obtain⟨p1,p2⟩:=AuH h2;unfold Ib Ia;rw[At1 (AtE h1 ZE)];simp[p1,p2]
theorem Bc0{net}(h:Di net=true):net.map Ia≠[]:=fun e=>by
 have:=(D1.1 h).1.1;have h2:(net.map Ia).length=0:=by rw[e];rfl
 rw[bI]at h2;omega
theorem ZBo{net}(h:Di net=true):Aj 59 (Mx net)=net.map Ia:=by rw[Vh h];exact An2 (Bc0 h) fun p hp=>by obtain⟨o,ho,rfl⟩:=List.mem_map.1 hp;exact AzO h o ho
theorem BbO{net}(h:Di net=true):Kx (Mx net)=true/\pf (Mx net)=net:=by
 obtain⟨g1,g2⟩:=At8 (AwY h);have hp:Kx (Mx net)=true:=by unfold Kx;rw[ZBo h,g1,g2,h,aL (by refine' ze;exact(D1.1 h).1.2)];rfl
 refine⟨hp,?_⟩;unfold pf;rw[aQ hp,ZBo h,g1]
theorem BcH{t}(h:Kx t=true):Mx (pf t)=t:=by unfold pf;rw[aQ h];unfold Kx at h;refine' ZJ8;rw[Vh h3,AnB (fun x y=>AvO) h1,AnC]
def Yo(t:Y_):Bool:=Ik Jl ((Aj 59 t).take 9)&&zU (Mx (Gl Jl ((Aj 59 t).take 9))) t
theorem BbI(t):Yo t=Kx t/\(Kx t=true->Gl Jl ((Aj 59 t).take 9)=Gl Ib (Aj 59 t)):=by
 have h1:Kx t=true->(Aj 59 t).take 9=Aj 59 t:=fun h=>by unfold Kx at h;exact ZJ9
 have h2:Kx t=true->Gl Jl (Aj 59 t)=Gl Ib (Aj 59 t)/\Ik Jl (Aj 59 t)=true:=fun h=>by unfold Kx at h;refine' Xx;exact Ab4 (fun x y=>Bb0) h.1.1
 refine⟨?_,fun h=>by rw[h1 h,(h2 h).1]⟩;refine' fV;constructor
 .intro h
  unfold Yo at h;refine' ZGN;have hg:=Un _ ha;obtain⟨out,hout⟩:∃out,Gl Jl ((Aj 59 t).take 9)=out:=⟨_,rfl⟩;rw[hout]at he hg;cases hr:Di out
  .rw[AeI hr]at he
   subst he;have hd:Aj 59 (⟨#[]⟩:Y_)=[⟨#[]⟩]:=ZR
   rw[hd]at ha;exact absurd ha ZR
  .rw[<-he]
   exact(BbO hr).1
 .intro h
  unfold Yo;rw[h1 h,(h2 h).1,(h2 h).2];have hf:=BcH h;unfold pf at hf;rw[aQ h]at hf;rw[hf,Mq];rfl
theorem ZBK{net}(h:Di net=true):∀p∈net.map Ia,p.size<=349/\1<=p.size:=fun p hp=>by obtain⟨o,ho,rfl⟩:=List.mem_map.1 hp;obtain⟨k,hk,rfl⟩:=bP ho;obtain⟨h1,_⟩:=(D1.1 h).2 k hk;have:=(Kb.1 h1).2;have:=zed net[k].rules;unfold Ia;refine' Rg;show _+1+_<=_/\1<=_+1+_;omega
theorem AnI(ps:List Y_)(sep):Cg (ps.take 0) sep=⟨#[]⟩:=Km _
theorem BbD{ps:List Y_}{sep}(h:0<ps.length):Cg (ps.take 1) sep=ps[0]:=by rw[aJ h,dH,bT,Kp]
theorem AxW{ps:List Y_}{sep k}(h:k<ps.length)(h0:0<k):Cg (ps.take (k+1)) sep=Cg (ps.take k) sep++sep++ps[k]:=by rw[aJ h,G5];intro e;exact ZKM
theorem AyQ{ps:List Y_}{sep b}(h:∀p∈ps,p.size<=b)(k):(Cg (ps.take k) sep).size<=ps.length*(b+sep.size):=by
 have h1:=Dw (ps.take k) sep b fun p hp=>h p (eA hp)
 exact aI h1 (bY zF (aC _))
theorem AyK{net}(h:Di net=true):1<=(Mx net).size:=by
 rcases Nat.eq_zero_or_pos (Mx net).size with h0|h0
 .exfalso
  have e:Mx net=⟨#[]⟩:=ByteArray.ext (Array.eq_empty_of_size_eq_zero h0);have hp:=ZBo h;rw[e]at hp;have hd:Aj 59 (⟨#[]⟩:Y_)=[⟨#[]⟩]:=ZR
  rw[hd]at hp;have:=(ZBK h ⟨#[]⟩ (by rw[<-hp];simp)).2;exact absurd this ZE
 .exact h0
theorem Ak4{net}(h:Di net=true)(k):(Cg ((net.map Ia).take k) ⟨#[59]⟩).size<=2800:=by have h1:=AyQ (sep:=⟨#[59]⟩) (fun p hp=>(ZBK h p hp).1) k;have h2:=(D1.1 h).1.2;have h3:(net.map Ia).length*(349+(⟨#[59]⟩:Y_).size)<=8*350:=bY U8 ZE;omega
theorem AvJ(net):(Mx net).size<=2800:=by
 cases h:Di net
 .rw[AeI h];exact zC
 .rw[Vh h]
  have:=Ak4 h (net.map Ia).length
  rwa [bA]at this
theorem AmJ(v net w)(hv:R_ w v net):
 C_ 38 #[v] w (.string (Mx net)):=by
 refine' eN;go_enter func38,ntmps38
 refine' ZJw;refine' ZIk;refine' ZUL;have HF:Hid (Mx net=Cg ((net.map Ia).take net.length) ⟨#[59]⟩):=by show _=_;rw[Vh ag,bB ZF]
 have cn:Hid ((net.map Ia).length=net.length):=Y8
 clear ag
 refine' ZC;go_loopw[3,4] (fun t i wr=>∃k:Nat,k<=net.length/\i=.int .i64 k/\t=.string (Cg ((net.map Ia).take k) ⟨#[59]⟩)/\B_ w wr) (fun _ i _=>net.length - (intOf i).toNat)
 case atStart=>exact⟨0,aN _,rfl,by rw[AnI],l1⟩
 case round=>
  refine' Qv;have ev:=Ak4 d9.out k;by_cases ab:k<net.length
  .obtain⟨b,o,A2,k2,rfl,hb,ag,hu,y1,y2⟩:=HR.out.ofcU k ab
   have tq:k<(net.map Ia).length:=za
   have uQ:Hid (k=0->Cg ((net.map Ia).take (k+1)) ⟨#[59]⟩=Ia net[k]):=fun h=>by{subst h;rw[BbD tq];simp};have lm:Hid (0<k->Cg ((net.map Ia).take (k+1)) ⟨#[59]⟩=Cg ((net.map Ia).take k) ⟨#[59]⟩++⟨#[59]⟩++Ia net[k]):=fun h=>by{rw[AxW tq h];simp};have hZ:Hid (k=0->Cg ((net.map Ia).take k) ⟨#[59]⟩=⟨#[]⟩):=fun h=>by{subst h;exact AnI _ _};have BK:=(ZEF ((D1.1 d9.out).2 k ab).1).2;obtain⟨PN,sv⟩:∃P,Cg ((net.map Ia).take (k+1)) ⟨#[59]⟩=P:=⟨_,rfl⟩;obtain⟨P,hP⟩:∃P,Cg ((net.map Ia).take k) ⟨#[59]⟩=P:=⟨_,rfl⟩;rw[sv]at lm uQ;rw[hP]at lm ev hZ⊢;have qY:=aA sv;have HU:=aA hu;clear sv hP hu tq;refine' ZUM;obtain⟨rv,hrv⟩:∃rv,rv=Value.slice A2 rs.length k2:=⟨_,rfl⟩;have HC:Hid (∀W,B_ w W->Calls Tryz.prog 88 #[.slice A2 rs.length k2] W fun e W'=>e=.returned (.string (Jj rs))/\B_ w W'):=fun W hW=>
    (ZAv _ rs W (HU.out.on hW)).mono fun e W' h=>⟨h.1,hW.trans (h.2.mono hW.size)⟩
   refine' ZUN;rw[hF]at HC i7;clear hF hrv HU;refine' Tx;refine' zQ;have ie:=lr.size;have ld:=Ag lr;by_cases fp:k=0
   .subst fp
    simp only[fG,bV,dF]at y1 y2;have mJ:Hid (aG (P++nm++⟨#[32]⟩++F)=.string (Cg ((net.map Ia).take (0+1)) ⟨#[59]⟩)):=by
     show _=_;rw[qY.out,uQ.out rfl,hZ.out rfl,kJ.out]
     all_goals congr 1
     all_goals refine Cv ?_
     all_goals simp
    clear bd et;have bd:(0:Int)<(net.length:Int):=ZA
    refine' ZUO;refine' ZC;refine' ZUP;all_goals
     refine' ZC;go_roundw
     case rel=>exact⟨0+1,ZA,ZJ,mJ.out,l3⟩
     case measure=>exact ZK
   .refine' ZFD;have mJ:Hid (aG (P++⟨#[59]⟩++nm++⟨#[32]⟩++F)=.string (Cg ((net.map Ia).take (k+1)) ⟨#[59]⟩)):=by{refine' ZPv;simp};have QK:(P++(⟨#[59]⟩:Y_)).size<=2801:=Wp
    refine' ZC;generalize P++(⟨#[59]⟩:Y_)=P at *;refine' ZUO;refine' ZUP;all_goals
     refine' ZC;go_roundw
     case rel=>exact⟨k+1,ZA,ZJ,mJ.out,l3⟩
     case measure=>exact ZK
  .refine' Sg;have ui:Hid (Cg ((net.map Ia).take k) ⟨#[59]⟩=Mx net):=by show _=_;rw[HF.out,HE.out]
   generalize Cg ((net.map Ia).take k) ⟨#[59]⟩=P at *
   refine' ZI;exact⟨B8 ui.out,lr⟩
theorem ZDs(v net w)(hv:R_ w v net):
 C_ 133 #[v] w (.string (Mx net)):=by
 refine' eN;refine' zc;refine' zk;go_enter func133,ntmps133
 refine' ZC;refine(Js _ net _ HV.out).mono ?_;refine' ZE8;refine' ZUL;have HF:=aA (Vh ag);clear ag;have fo:=Ed (P:=Tryz.prog) 28 9 i0 _ aW hi ah net.length zi ZA
 refine' ZC;have lk:Ck 9 (w1.alloc (aB (bF #[.string ⟨#[]⟩] net.length) 9)) w1.heap.size net.length 0 (net.map Ia):=Ck.made w1 _ _ _ iG _;have br:B_ w1 (w1.alloc (aB (bF #[.string ⟨#[]⟩] net.length) 9)):=(aF _ _).alloc (aC _) _;generalize w1.alloc (aB (bF #[.string ⟨#[]⟩] net.length) 9)=w0 at *;clear fo;have cn:Hid ((net.map Ia).length=net.length):=Y8
 go_loopw[14] (fun i wr=>∃k:Nat,k<=net.length/\i=.int .i64 k/\B_ w1 wr/\Ck 9 wr w1.heap.size net.length k (net.map Ia)) (fun i _=>net.length - (intOf i).toNat)
 case atStart=>exact Y7
 case round=>
  refine' ZFA;by_cases ab:k<net.length
  .obtain⟨b,o,A2,k2,rfl,hb,ag,hu,y1,y2⟩:=HR.out.ofcU k ab
   refine' ZFB;have mY:(net.map Ia)[k]' za=Ia net[k]:=ZF
   have me:=aA (ZBK d9.out (Ia net[k]) (List.mem_map.2 ⟨_,aS ab,rfl⟩));have fx:=aA (fun(W:World) (hF:Ck 9 W w1.heap.size net.length k (net.map Ia))=>hF.step za Za (ecs:=[.string (Ia net[k])]) ZFC);have BK:=(ZEF ((D1.1 d9.out).2 k ab).1).2;have HU:=aA hu;clear mY hu;refine' ZUM;have HCR:Hid (∀W,B_ w W->C_ 217 #[.slice A2 rs.length k2] W (.string (Jj rs))):=fun W hW=>AcB _ rs W (HU.out.on hW)
   refine' ZUN;rw[hF]at HCR i7;clear hF HU;refine' Tx;refine' zQ;obtain⟨wb,kD⟩:∃u,u=w2.alloc (aB #[.string nm,.slice A2 rs.length k2] 45):=⟨_,rfl⟩;have q0:=Af kD 0 (.string nm) rfl;have q1:=Af kD 1 (.slice A2 rs.length k2) rfl;refine' ZPm;have BN:=aA (Aa (Aa l1 av) lb);have bt:=aA kD;clear kD hf;have tN:Hid (∀W,B_ wb W->C_ 217 #[.slice A2 rs.length k2] W (.string F)):=fun W hW=>HCR.out W (Aa BN.out hW)
   refine' ZPn;have xR:¬9223372036854775807<nm.size+1+F.size:=ZA
   have xS:¬9223372036854775807<nm.size+1:=ZA
   go_region_held3 (fun W=>W.cell? ⟨w2.heap.size,0,none⟩=some (.string nm)/\W.cell? ⟨w2.heap.size,1,none⟩=some (.slice A2 rs.length k2)) (first|exact⟨e0,e1⟩|exact⟨DU,DV⟩|exact⟨KK _,KL _⟩|fail) (first|(go_at_call 217;refine' ZPp)|fail)
   all_goals exact ZPq
  .refine' Sg;have HO:=aA ((HE.out▸hf:Ck _ _ _ _ net.length _).own cn.out.symm (aC _) ZN);clear hf;have l2:=Aa l1 av;have ni:=Dw (net.map Ia) (⟨#[59]⟩:Y_) 349 fun p hp=>(ZBK d9.out p hp).1
   rw[cn.out]at ni;have ol:net.length*(349+(⟨#[59]⟩:Y_).size)<=8*350:=bY lh ZE;have HJ:=aA (BaF (sep:=(⟨#[59]⟩:Y_)) HO.out cn.out.symm Uq ZA);clear ni ol
   refine' ZFF;exact⟨rfl,l3⟩
theorem Bb5{α:Type}[Flat α]{F n P w ops rest o a}{Q:Exit->Act->World->Prop}(nW:o.guard=none)(s x:Operand)(t:TypeId)
 (ho:o.op=.call {callee:=.builtin .append,args:=#[s,x],argTypes:=#[t,t]})
 (base) (e:TypeId) (i:TypeInfo) (z bytes) (ht:P.underlying t=some (.slice e)) (hi:P.info? e=some i) (hz:i.zero=some z)
 (cw:i.size=El.size α) (pz:i.bytes=bytes) (gu:z.cells.size=El.size α) (cm:0<El.size α)
 (v xs) (y:α) (hs:a.eval s=v) (ft:own e base w v xs)
 (ad c cs) (hx:a.eval x=.slice (some ad) 1 c) (lx:El.el w w.heap.size y cs) (fa:∀j u,cs[j]? =some u->w.cell? (ad.add j)=some u)
 (pA:xs.length+1<=maxLen) (cz:(xs.length+1)*bytes<=140737488355328) (ee:base<=w.heap.size)
 (h:∀g cap w',own e base w' (.slice (P_ g) (xs.length+1) cap) (xs++[y])->w.grownBy w' v.ownBlock->(some g=v.ownBlock\/g=w.heap.size)->wpListIn F n P ops Q rest (a.put o.dst (.slice (P_ g) (xs.length+1) cap)) w'):wpListIn F n P ops Q (o::rest) a w:=by
 refine' Tz;refine wpListIn_append_own_at (nF:=n) w nW s x t ho base e i z (El.size α) bytes ht hi hz cw pz gu cm v xs.length ic.flatten hs hrow ad 1 c cs hx ZGB fa (El.one lx) pA cz ee ?_;intro v' w' h2 h3 _ h5;have hO:own e base w' v' (xs++[y]):=⟨ic++[cs],V2,X2,fun k h1 h2=>Sq⟩
 have qT:(xs++[y]).length=xs.length+1:=ZF
 rcases hO.form with⟨_,h0⟩|⟨g,cap,rfl,_⟩
 .simp at h0
 .rw[qT]at hO⊢
  rw[qT]at h5;refine h g cap w' hO h3 ?_;rcases h5 with h5|h5
  .exact .inl h5
  .injection h5 with h5
   exact .inr h5
theorem AtH{α:Type}[El α]{T B z:Nat}{w v}{xs:List α}{row}(ho:own T B w v xs)(hz:z<B)(hr:∀r,row=some r->r=z\/B<=r/\∃o:Obj,w.heap[r]? =some o/\o.isCells=false):v.ownBlock=none\/v.ownBlock≠row:=by
 cases hb:v.ownBlock with
 |none=>exact .inl rfl
 |some k=> exact ZUQ
def pnI(h:Nat)(w0:World)(B:Nat)(pre:List Y_)(W:World):Prop:=
 (∃v os,Boxed W (h+1+1) 34 v/\isN 45 181 B W v (Gl Ib pre) os)/\B<=W.heap.size/\Ik Ib pre=true/\pre.length<=8/\Boxed W h 34 (.slice none 0 0)/\Boxed W (h+1) 4 (.bool false)/\Below h w0 W
def pnX(h:Nat)(w0:World)(pre:List Y_)(W:World):Prop:=
 (Ik Ib pre=false\/8<pre.length)/\Boxed W h 34 (.slice none 0 0)/\Boxed W (h+1) 4 (.bool false)/\Below h w0 W
theorem Au1{h B z w0}(hz:h+1+1<z)(vu:z<B)(hs:h<=w0.heap.size):Pw B z (pnI h w0 B):=by rintro pre A C row ⟨⟨v,os,hv,ho⟩,h0,h1,h2,h3,h4,h5⟩ hg hr;refine' ZKN;refine⟨⟨v,os,hv.kept hg (ne _ ZA),ho.grown hg (AtH ho.1 vu hr) fun k hk=>AtH (ho.2.2.1 k hk (by have:=ho.2.1;omega)).2 vu hr⟩,aI h0 hg.size,h1,h2,h3.kept hg (ne _ ZA),h4.kept hg (ne _ ZA),h5.grown hg (aI hs h5.size) fun k e=>?_⟩;rcases hr k e with h|⟨h,_⟩<;>omega
theorem Au5{h B z w0}(hz:h+1+1<z)(vu:z<B)(hs:h<=w0.heap.size):Pw B z (pnX h w0):=ZFS
theorem ne_of_lt{α:Type}[El α]{T B b:Nat}{w v}{xs:List α}(h:own T B w v xs)(hb:b<B):v.ownBlock=none\/v.ownBlock≠some b:=by
 cases hv:v.ownBlock with
 |none=>exact .inl rfl
 |some k=>exact .inr fun e=>by refine' YC;have:=(h.blk k hv).1;omega
theorem isN.out{T1 T2 B:Nat}{w v net os}(h:isN T1 T2 B w v net os)(b u)(hb:b<B):isN T1 T2 B (w.setCell ⟨b,0,none⟩ u) v net os:=
 h.grown (grownBy_setCell' w b u) (ne_of_lt h.1 hb) fun k hk=>ne_of_lt (h.2.2.1 k hk (by have:=h.2.1;omega)).2 hb
theorem isN.putD{T1 T2 B D:Nat}{w v net os ds}(h:isN T1 T2 B w v net os)(hD:w.heap[D]? =some (.deferred ds))(o):isN T1 T2 B (w.putObj D o) v net os:=
 h.grown (grownBy_putObj' w D o) (ZD9 h.1 hD) fun k hk=>ZD9 (h.2.2.1 k hk (by have:=h.2.1;omega)).2 hD
theorem AwR{x}(h:E5 32 x=none):Ib x=none:=by unfold Ib;rw[h];rfl
theorem AvN{x p q}(h:E5 32 x=some (p,q))(hq:Qu q=false):Ib x=none:=by unfold Ib;rw[h];simp[hq]
theorem AqJ{x p q}(h:E5 32 x=some (p,q))(hq:Qu q=true):Ib x=some ⟨p,kT q⟩:=by unfold Ib;rw[h];simp[hq]
theorem AjM{ps x}(h:Ib x=none):Ik Ib (ps++[x])=false:=by rw[ZDJ,h];simp
theorem AaC(t w)(ht:t.size<=maxLen):
 Calls Tryz.prog 138 #[.string t] w fun e w'=>∃v',e=.returned (.tuple #[v',.bool (Kx t)])/\AoW 45 181 w.heap.size w' v' (pf t)/\B_ w w':=by
 refine' ZFT;refine callsIn_of_wp_marks func138 rfl trivial ?_ rfl;simp only[ntmps138,dX,dA,cT,Nat.reduceAdd,Nat.reduceSub,gC,gD,iL,gM,bT,cK];have HR:Hid (pf t=if Kx t then Gl Ib (Aj 59 t)else []):=rfl;have HS:=fun W=>Kh t 59 W
 have b0:=((Boxed.new w 34 (.slice none 0 0)).alloc (aB #[.bool false] 4)).alloc (aB #[.slice none 0 0] 34);have b1:=(Boxed.new (w.alloc (aB #[.slice none 0 0] 34)) 4 (.bool false)).alloc (aB #[.slice none 0 0] 34);have b2:=Boxed.new ((w.alloc (aB #[.slice none 0 0] 34)).alloc (aB #[.bool false] 4)) 34 (.slice none 0 0);have l3:B_ w (((w.alloc (aB #[.slice none 0 0] 34)).alloc (aB #[.bool false] 4)).alloc (aB #[.slice none 0 0] 34)):=(((aF _ w).alloc (aC _) _).alloc ZF _).alloc ZH _;refine' ZFW;have fu:(((w.alloc (aB #[.slice none 0 0] 34)).alloc (aB #[.bool false] 4)).alloc (aB #[.slice none 0 0] 34)).heap.size=w.heap.size+1+1+1:=ZF
 generalize(((w.alloc (aB #[.slice none 0 0] 34)).alloc (aB #[.bool false] 4)).alloc (aB #[.slice none 0 0] 34))=w3 at *;rw[fu]at az BX;have x0:Boxed w6 (w.heap.size) 34 (.slice none 0 0):=(mM.block _ ZA).trans B0.out;refine' ZFX;have x2:Boxed w6 (w.heap.size+1+1) 34 (.slice none 0 0):=(mM.block _ ZA).trans B2.out;refine' ZFY;obtain⟨i0,hi,xt,km,lI⟩:=dD Tryz.infoOfc;refine Pz (F:=Fence.wide) (n:=9) rfl ZA (gf:=286) (lb:=#[.pointer (some ⟨w.heap.size+1+1+1+1,0,none⟩),.pointer (some ⟨w.heap.size+1+1+1,0,none⟩),.pointer (some ⟨w.heap.size+1+1+1+2,0,none⟩)]) rfl trivial (iF func286 ZB rfl)
  (ZAc 8 (w.heap.size+1+1+1) ZA 59 t w6 az ht) (fun k hk=>zZ) ZA (fun _=>rfl)
  (pnI w.heap.size w w6.heap.size) (pnX w.heap.size w) (Au1 ZA ZA (aC _)) (Au5 ZA ZA (aC _))
  ⟨⟨_,[],x2,isN.none_ (own.nil_ _ _ _)⟩,aC _,rfl,aN _,x0,x1,l6⟩
  (fun x=>{tmps:=#[.string t,undef,.pointer (P_ w.heap.size),.pointer (some ⟨w.heap.size+1,0,none⟩),.pointer (some ⟨w.heap.size+1+1,0,none⟩),.string x,undef,undef,undef,undef,undef,.string t,.func (.func 286) #[] #[.pointer (some ⟨w.heap.size+1+1+1+1,0,none⟩),.pointer (some ⟨w.heap.size+1+1+1,0,none⟩),.pointer (some ⟨w.heap.size+1+1+1+2,0,none⟩)],.string x,undef,undef,undef,undef,undef,undef,undef,undef,undef,undef,undef,undef,undef,undef,undef,undef,undef,undef,undef,undef,undef,undef,undef,undef,undef,undef,undef,undef,undef,undef],defers:=[]}) ?assign ?body ?done ?stop
 case assign=> exact ZFZ
 case body=>
  rintro l pre x W ⟨⟨v,os,hv,ho⟩,yk,da,bp,y0,y1,hB⟩ _ hx;have hd:1<=9 - 1 - 1:=ZA
  have HC:=Er x 32 W hx;refine' ZFa;rcases jc:E5 32 x with _|⟨p,q⟩
  .have pK:Calls Tryz.prog 51 #[.string x,.string ⟨#[32]⟩] W fun e w'=>B_ W w'/\e=.returned (.tuple #[.string x,.string ⟨#[]⟩,.bool false]):=HC.mono fun e w' h=>ZI8
   have HP:Hid (Ik Ib (pre++[x])=false):=AjM (AwR jc);exact ZUR
  .have pK:Calls Tryz.prog 51 #[.string x,.string ⟨#[32]⟩] W fun e w'=>B_ W w'/\e=.returned (.tuple #[.string p,.string q,.bool true]):=HC.mono fun e w' h=>ZJA
   have sI:=Ki jc;have bz:=Un pre da;obtain⟨A,m,cp,rfl,hm,_,_,_⟩:=ho.1.rd;have JJ:=ho.2.1;clear HC y0 y1 hv ho;by_cases rV:m=8
   .have sJ:((m:Int)==8)=true:=ZFe
    have HL:Hid (8<(pre++[x]).length):=by{show _<_;refine' fH;show 8<pre.length+1;omega};clear rV hm bz sI jc JJ
    gi_wp2_with (refine' Wc;refine' ZFc;have c2:=z2.cell)
    exact ZFg
   .have sJ:((m:Int)==8)=false:=beq_eq_false_iff_ne.2 ZA
    have mg:Hid (pre.length<=7):=Zi
    have sf:∀b,Qu q=b->Hid (∀W,Calls Tryz.prog 223 #[.string q] W fun e W'=>∃v',e=.returned (.tuple #[v',.bool b])/\own 181 W.heap.size W' v' (kT q)/\B_ W W'):=fun b hb W=>by{rw[<-hb];exact AdR q W (aI sI.2 hx)};cases hq:Qu q
    .have HPQ:=sf _ hq
     have HP:Hid (Ik Ib (pre++[x])=false):=AjM (AvN jc hq);clear rV hm bz sI sf hq jc JJ
     gi_wp2_with (first|(refine' Wc;have c2:=z2.cell)|(refine' ZUS;have t0:Boxed W3 _ _ _:=(mn.block _ z0.lt).trans z0;have t1:Boxed W3 _ _ _:=(mn.block _ z1.lt).trans z1;have d0:=t0.cell;have d1:=t1.cell;have e0:=t0.frozen;have e1:=t1.frozen))
     obtain⟨r0,r1,r2,r3⟩:=AqF t0 t1 (.slice none 0 0) (.bool false);exact⟨((Cr hb).trans (Cr mn)).trans r2,.inl HP.out,r0,r1,((hB.trans (hb.mono hB.size)).trans (mn.mono (by have:=hB.size;have:=hb.size;omega))).trans (r3 _ (aC _))⟩
    .have HPQ:=sf _ hq
     have HP:=aA (AqJ jc hq);have ce:os.length<=7:=ZA
     have HYN:Hid (p.size<=maxLen):=Zi
     clear rV hm bz sI sf hq jc JJ
     gi_wp2_with (first|(refine' Wc;have c2:=z2.cell)|(refine' ZUS;have t2:Boxed W3 _ _ _:=(mn.block _ z2.lt).trans z2;have d2:=t2.cell;obtain⟨Aq,nq,cq,rfl, -, -, -, -⟩:=AP.rd;have o3:=(p8.out.below hb).below mn;have jd:=hb.size;have mQ:=mn.size;have JO:=aA AP;clear AP)|(gi_at_builtin;refine Bb5 (α:=OfV) rfl (.tmp 34) (.tmp 38) 34 rfl w6.heap.size 45 i0 _ 40 iN hi xt km lI rfl ZE (.slice A m cp) os ⟨p,.slice Aq nq cq⟩ rfl (o3.1.alloc _) ⟨W3.heap.size,0,none⟩ 1 [.string p,.slice Aq nq cq] rfl ⟨rfl,HYN.out,rfl⟩ (Bz W3 _ [.string p,.slice Aq nq cq]) ZN ZA ZH ?_;intro g5 c5 w5 o5 aj cy;have u2:Boxed w5 _ _ _:=(t2.alloc _).kept aj (fun e=>ZUT);have e2:=u2.cell;have g2:=u2.frozen))
     have p9:∀k,k<w6.heap.size->k≠w.heap.size+1+1->(w5.setCell ⟨w.heap.size+1+1,0,none⟩ (.slice (P_ g5) (os.length+1) c5)).heap[k]? =W.heap[k]? :=fun k h1 h2=>by{have a1:=(grownBy_setCell' w5 (w.heap.size+1+1) (.slice (P_ g5) (os.length+1) c5)).block k ZUU (fun e=>h2 (by injection e));have a2:=aj.block k ZH (fun e=>ZUT);exact a1.trans (a2.trans ((dL W3 _ k ZA).trans ((mn.block k ZA).trans (hb.block k ZA))))};have vy:KeepsOthers W (w5.setCell ⟨w.heap.size+1+1,0,none⟩ (.slice (P_ g5) (os.length+1) c5)):=((((Cr hb).trans (Cr mn)).trans (KeepsOthers.alloc W3 _)).trans (KeepsOthers.of_grownBy aj fun j o ej hj=>by obtain⟨o',h1,h2⟩:=Hn (o3.1.alloc (aB #[.string p,.slice Aq nq cq] 45)) ej;exact ZFh)).trans (KeepsOthers.setCell _ _ _)
     have hN5:=isN.snoc (o3.below ((aF W3.heap.size W3).alloc (aC _) (aB #[.string p,.slice Aq nq cq] 45))) ((JO.out.base_ (show w6.heap.size<=W2.heap.size by omega)).alloc _) (Dd JO.out p8.out.1 jd) (fun k hk=>Dd JO.out (p8.out.2.2.1 k hk (by have:=p8.out.2.1;omega)).2 jd) o5 aj cy;refine⟨vy,fun k hk=>p9 k zZ zZ,⟨_,os++[⟨p,.slice Aq nq cq⟩],u2.set _,?_⟩,?_,?_,?_,?_,?_,?_⟩
     .rw[AbL HP.out]
      exact hN5.out (w.heap.size+1+1) _ ZA
     exact ZFi
     .rw[ZDJ,da,HP.out];rfl
     .have:=mg.out;refine' fH;show pre.length+1<=8;omega
     exact ZFj
     exact ZFk
     .refine hB.trans ⟨?_,?_,?_,?_,fun k h1=>p9 k ZA ZA⟩
      .exact aj.os.trans (mn.os.trans hb.os)
      .exact aj.tape.trans (mn.tape.trans hb.tape)
      .exact aj.output.trans (mn.output.trans hb.output)
      .exact vy.1
 case done=>
  rintro D ys W hD rfl ⟨⟨v,os,hv,ho⟩,yk,da,bp,y0,y1,hB⟩ hK;have i8:Kx t=Di (Gl Ib (Aj 59 t)):=by unfold Kx;exact ZFl
  refine' ZFm;have HV:=Js (.slice A m cp) (Gl Ib (Aj 59 t)) W ho.rd;refine' ZFn;cases jv:Di (Gl Ib (Aj 59 t))
  .refine' U_;gi_wp2_with (refine' YT;gi_at_call 216;refine' X8)
   refine' ZFo;exact ZUV
  .refine' U_;gi_wp2_with (refine' YT;gi_at_call 216;refine' X8)
   refine' ZUW;have oz:=(o2.out w.heap.size (.slice A m cp) ZA).out (w.heap.size+1) (.bool true) ZA;refine' ZUX;refine⟨.tuple #[.slice A m cp,.bool true],ZUY,_,by rw[kg.out],by rw[HR.out,kg.out,aQ rfl];exact⟨os,(oz.putD qr (.deferred none)).base_ ZA⟩,oD⟩
 case stop=>
  refine' ZFp;have i8:Kx t=false:=by
   unfold Kx;rcases ao with h|h
   .rw[AaT lV h];rfl
   exact ZFq
  refine' ZFr;exact ZUV
theorem Wo{α:Type}[El α]{T base:Nat}{w v}{xs:List α}(h:own T base w v xs){k}(hk:v.ownBlock=some k):∃bw:Array Value,w.heap[k]? =some (.cells bw T (0,0)):=by
 refine' ZTy
 .injection hk with hk
  subst hk;exact⟨_,hh⟩
theorem own.keepT{α:Type}[Flat α]{T base:Nat}{w w' v}{xs:List α}(h:own T base w v xs)(hk:∀(k:Nat) (bw:Array Value),w.heap[k]? =some (.cells bw T (0,0))->w'.heap[k]? =w.heap[k]?):own T base w' v xs:=
 h.keepBlk fun k e=>by obtain⟨bw,hc⟩:=Wo h e;exact hk k bw hc
theorem isN.keepT{T1 T2 base:Nat}{w w' v net os}(h:isN T1 T2 base w v net os)(h1:∀(k:Nat) (bw:Array Value),w.heap[k]? =some (.cells bw T1 (0,0))->w'.heap[k]? =w.heap[k]?)
 (h2:∀(k:Nat) (bw:Array Value),w.heap[k]? =some (.cells bw T2 (0,0))->w'.heap[k]? =w.heap[k]?):isN T1 T2 base w' v net os:=
 ⟨h.1.keepT h1,h.2.1,fun k a b=>⟨(h.2.2.1 k a b).1,(h.2.2.1 k a b).2.keepT h2⟩,h.2.2.2.1,h.2.2.2.2⟩
structure Dsk where
 letters:List Ltr
 day:Dy
 net:List Ofc
abbrev y_(s:Dsk)(a:Option Addr)(b:Nat)(c:Option Addr)(d:Nat)(e:Option Addr)(f:Nat)(g:Option Addr)(h:Nat)(i:Option Addr)(j:Nat):Array Value:=#[.slice a s.letters.length b,.int .i64 s.day.plan.bins,.int .i64 s.day.plan.passes,.slice c s.day.plan.order.length d,.slice e s.day.fwds.length f,.slice g s.day.held.length h,.int .i64 s.day.size,.slice i s.net.length j]
def Bv(B:Nat)(w:World)(d:Nat)(s:Dsk)(vH:Value):Prop:=
 ∃(vL vO vF vN:Value) (os:List OfV),w.heap[d]? =some (.cells #[vL,.int .i64 s.day.plan.bins,.int .i64 s.day.plan.passes,vO,vF,vH,.int .i64 s.day.size,vN] 47 (0,0))/\
  own 119 B w vL s.letters/\own 9 B w vO s.day.plan.order/\own 128 B w vF s.day.fwds/\own 9 B w vH s.day.held/\isN 45 181 B w vN s.net os/\apart vO vH
theorem Bv.lt{B d w s vH}(h:Bv B w d s vH):d<w.heap.size:=by obtain⟨_,_,_,_,_,h,_⟩:=h;exact(Array.getElem?_eq_some_iff.1 h).1
theorem Bv.obj{B d w s vH}(h:Bv B w d s vH):∃bw:Array Value,w.heap[d]? =some (.cells bw 47 (0,0)):=by obtain⟨_,_,_,_,_,h,_⟩:=h;exact⟨_,h⟩
theorem Bv.held{B d w s vH}(h:Bv B w d s vH):own 9 B w vH s.day.held:=by obtain⟨_,_,_,_,_,_,_,_,_,h,_⟩:=h;exact h
theorem Bv.keep{B d w w' s vH}(h:Bv B w d s vH)(hk:∀(k:Nat) (bw:Array Value) (e:TypeId),w.heap[k]? =some (.cells bw e (0,0))->e≠5->e≠50->w'.heap[k]? =w.heap[k]?):Bv B w' d s vH:=by
 refine' ZJa;exact⟨vL,vO,vF,vN,os,(hk _ _ _ h0 ZE ZE).trans h0,h1.keepT fun k bw hc=>hk k bw _ hc ZE ZE,h2.keepT fun k bw hc=>hk k bw _ hc ZE ZE,h3.keepT fun k bw hc=>hk k bw _ hc ZE ZE,h4.keepT fun k bw hc=>hk k bw _ hc ZE ZE,
  h5.keepT (fun k bw hc=>hk k bw _ hc ZE ZE) fun k bw hc=>hk k bw _ hc ZE ZE,h6⟩
theorem Bv.below{B d w w' s vH}(h:Bv B w d s vH)(hb:B_ w w'):Bv B w' d s vH:=
 h.keep fun k bw e hc _ _=>hb.block k (Array.getElem?_eq_some_iff.1 hc).1
structure Kd (d:Nat) (vH:Value) (w w':World):Prop where
 os:w'.os=w.os
 tape:w'.tape=w.tape
 output:w'.output=w.output
 size:w.heap.size<=w'.heap.size
 block:∀k,k<w.heap.size->k≠d->some k≠vH.ownBlock->w'.heap[k]? =w.heap[k]?
theorem Kd.of_below{d vH w w'}(h:B_ w w'):Kd d vH w w':=⟨h.os,h.tape,h.output,h.size,fun k hk _ _=>h.block k hk⟩
theorem Kd.trans{d vH a b c}(h:Kd d vH a b)(k:Kd d vH b c):Kd d vH a c:=
 ⟨k.os.trans h.os,k.tape.trans h.tape,k.output.trans h.output,aI h.size k.size,fun i hi h1 h2=>(k.block i (bR hi h.size) h1 h2).trans (h.block i hi h1 h2)⟩
theorem Kd.set{d vH a w}(h:Kd d vH a w)(i u):Kd d vH a (w.setCell ⟨d,i,none⟩ u):=
 ⟨h.os,h.tape,h.output,by have:=h.size;exact zV,fun k hk h1 h2=>(bQ _ _ _ _ (fun e=>h1 e)).trans (h.block k hk h1 h2)⟩
theorem Kd.toBelow{d B vH w w'}(h:Kd d vH w w')(hd:B<=d)(rQ:d<w.heap.size)(hH:∀k,vH.ownBlock=some k->B<=k):Below B w w':=
 ⟨h.os,h.tape,h.output,h.size,fun k hk=>h.block k ZA ZA fun e=>by have:=hH k e.symm;omega⟩
def Nu(w:World)(vH qz:Value):Prop:=qz.ownBlock=vH.ownBlock\/∀k,qz.ownBlock=some k->w.heap.size<=k
theorem Nu.refl(w vH):Nu w vH vH:=.inl rfl
theorem ZEI{T e B b:Nat}{bs w w'}(h:Lib.IsBuilderF T e B b bs w)(hk:∀(k:Nat) (bw:Array Value) (e':TypeId) (fz:Nat×Nat),w.heap[k]? =some (.cells bw e' fz)->(e'=T\/e'=e)->w'.heap[k]? =w.heap[k]?):Lib.IsBuilderF T e B b bs w':=by
 have jy:∀p,Lib.BuilderAtF T e B b p bs w->Lib.BuilderAtF T e B b p bs w':=fun p h=>by
  obtain⟨hB,v,hb,⟨h1,h2⟩,ay⟩:=h;refine⟨hB,v,(hk _ _ _ _ hb (.inl rfl)).trans hb,⟨h1,?_⟩,ay⟩;rcases h2 with h2|⟨g,cap,bw,fz,hv,hg,hh,rest⟩
  .exact .inl h2
  .exact .inr ⟨g,cap,bw,fz,hv,hg,(hk _ _ _ _ hh (.inr rfl)).trans hh,rest⟩
 rcases h with h|h
 .exact .inl (jy _ h)
 .exact .inr (jy _ h)
theorem AsF{B0 B b d bs w w' s vH}(h:Lib.IsBuilderF 50 5 B b bs w)(hD:Bv B0 w d s vH)(hK:Kd d vH w w'):Lib.IsBuilderF 50 5 B b bs w':=by
 refine ZEI h fun k bw e' fz hc he=>hK.block k (Array.getElem?_eq_some_iff.1 hc).1 (fun e=>?_) fun e=>?_
 .subst e
  obtain⟨c,h0⟩:=hD.obj;exact ZZM
 .obtain⟨c,h0⟩:=Wo hD.held e.symm
  exact ZZM
theorem AgN{B b d w w' s vH}(hD:Bv B w d s vH)(hO:Lib.OthersKept 5 (some b) w w')(hb:∃bw fz,w.heap[b]? =some (.cells bw 50 fz)):Bv B w' d s vH:=
 hD.keep fun k bw e hc h1 h2=>ZZN
def Ax7(X:World->Prop)(am:Y_)(s s':Dsk)(a:Y_):Prop:=
 ∀(B d:Nat) (vH:Value) (w:World),X w->B<=w.heap.size->Bv B w d s vH->
  Calls Tryz.prog 16 #[.pointer (P_ d),.string am] w fun e w'=>e=.returned (.string a)/\∃qz,Bv B w' d s' qz/\Kd d vH w w'/\Nu w vH qz
def jG(a:Y_):Y_:=if zU a ⟨#[]⟩then⟨#[110,111]⟩else a
def Qr(ans:Nat->Y_):Nat->Y_->List Y_->Y_
 |_,o,[]=>o
 |k,o,l::ls=>if zU l ⟨#[]⟩then Qr ans (k+1) o ls else if 100<=k\/40000<o.size then o++⟨#[102,117,108,108,10]⟩else Qr ans (k+1) (o++(jG (ans k)++⟨#[10]⟩)) ls
def Sv(ans:Nat->Y_)(ls:List Y_):Nat->Y_
 |0=>⟨#[]⟩
 |k+1=>if zU (ls.getD k ⟨#[]⟩) ⟨#[]⟩then Sv ans ls k else Sv ans ls k++(jG (ans k)++⟨#[10]⟩)
theorem Lx{a}:zU a ⟨#[]⟩=true↔a.size=0:=by
 rw[Ec];constructor
 .rintro rfl;rfl
 .intro h;exact ByteArray.ext (Array.eq_empty_of_size_eq_zero h)
theorem Ol{a}(h:a.size≠0):zU a ⟨#[]⟩=false:=by
 cases hq:zU a ⟨#[]⟩
 .rfl
 .exact absurd (Lx.1 hq) h
theorem AnK{a}(h:1<=a.size):jG a=a:=by unfold jG;rw[Ol ZA];rfl
theorem T_{ans:Nat->Y_}{k o l ls}(h:l.size=0):Qr ans k o (l::ls)=Qr ans (k+1) o ls:=by rw[Qr,Lx.2 h,aQ rfl]
theorem Wj{ans:Nat->Y_}{k o l ls}(h:l.size≠0)(hf:100<=k\/40000<o.size):Qr ans k o (l::ls)=o++⟨#[102,117,108,108,10]⟩:=by rw[Qr,Ol h,aM ZF,aQ hf]
theorem Vu{ans:Nat->Y_}{k o l ls}(h:l.size≠0)(hk:k<100)(ho:o.size<=40000):Qr ans k o (l::ls)=Qr ans (k+1) (o++(jG (ans k)++⟨#[10]⟩)) ls:=by rw[Qr,Ol h,aM ZF,aM ZA]
theorem AjE{ans:Nat->Y_}{ls k}(h:k<ls.length)(he:ls[k].size=0):Sv ans ls (k+1)=Sv ans ls k:=by rw[Sv,bH,aR h,gS,Lx.2 he,aQ rfl]
theorem Al6{ans:Nat->Y_}{ls k}(h:k<ls.length)(he:ls[k].size≠0):Sv ans ls (k+1)=Sv ans ls k++(jG (ans k)++⟨#[10]⟩):=by rw[Sv,bH,aR h,gS,Ol he,aM ZF]
theorem AtT{c p}(h:c∉p.data.toList):Aj c p=[p]:=by unfold Aj;rw[ZCx h];rfl
theorem Cp{c}(h:Ap c=true):c.size=7/\∀b∈c.data.toList,48<=b.toNat/\b.toNat<=57:=by unfold Ap at h;rw[aO,dI]at h;exact⟨h.1,Iw h.2⟩
def Cb(ps:List Y_):Y_:=if ps.length=0 then⟨#[45]⟩else Cg ps y7
theorem Uk{ps sep}(h0:ps.length≠0)(h:∀p∈ps,1<=p.size):1<=(Cg ps sep).size:=by
 obtain⟨k,hk⟩:∃k,ps.length=k+1:=⟨ps.length - 1,ZA⟩;have e:ps=ps.take k++[ps[k]]:=by
  conv=>lhs;rw[<-dQ k ps,cU ZA]
  rw[dP ZA]
 have hp:=h ps[k] (aS _);rw[e];by_cases hn:ps.take k=[]
 .rw[hn,bT,Kp];exact hp
 .rw[G5 _ _ _ hn,aY];omega
theorem Q6{ps}(h:∀p∈ps,1<=p.size):1<=(Cb ps).size:=by
 unfold Cb
 split
 .decide
 .rename_i h0
  exact Uk h0 h
def Es:Y_:=⟨#[110,101,116]⟩
def Fl:Y_:=⟨#[112,97,116,104]⟩
def B5:Y_:=⟨#[102,97,117,108,116,115]⟩
def kR:Y_:=⟨#[111,107]⟩
def Xa(n:Int):Y_:=if n=0 then⟨#[104,111,109,101]⟩else if n=1 then⟨#[108,111,115,116]⟩else⟨#[108,111,111,112]⟩
def Fe(l:List UInt8):Nat:=l.foldl (fun n b=>10*n+(b.toNat - 48)) 0
theorem Il(l b):Fe (l++[b])=10*Fe l+(b.toNat - 48):=by unfold Fe;exact Wm
theorem F3{l}(h:Ea l=true)(k):Ea (l.take k)=true:=by unfold Ea at *;exact List.all_eq_true.2 fun b hb=>List.all_eq_true.1 h b (eA hb)
theorem AaR{l}(h:Ea l=true)(k):Ea (l.drop k)=true:=by unfold Ea at *;exact List.all_eq_true.2 fun b hb=>List.all_eq_true.1 h b (List.mem_of_mem_drop hb)
theorem Jc:∀(k:Nat) (l:List UInt8),Ea l=true->l.length=k->Fe l<10^k
 |0,l,_,hl=>ZQI
 |k+1,l,h,hl=>by refine' ZIn;have ih:=Jc k (l.take k) (F3 h k) zF;refine' ZIo;rw[e,Il,Nat.pow_succ];omega
theorem Jv(s w)(hd:Ea s.data.toList=true)(hz:s.size<=17):
 ya 221 #[.string s] w (.int .i64 (Fe s.data.toList:Int)):=by
 refine' Uw;go_enter func221,ntmps221
 refine' ZQJ
 .refine' Wg;by_cases ab:k<s.size
  .refine' ZQK;refine' ZIp;refine' ZQL;have w4:aD.wrap (10*(n:Int)+((b.toNat:Int) - 48))=10*(n:Int)+((b.toNat:Int) - 48):=bG _ ZA;exact ZFI
  exact ZFJ
def G0(c:Y_):Plc:=⟨(Fe (c.extract 0 3).data.toList:Int),(Fe (c.extract 3 5).data.toList:Int),(Fe (c.extract 5 c.size).data.toList:Int)⟩
theorem Tryz.sizePlc:(Tryz.prog.info? 147).map (·.size)=some 3:=ZB
theorem Ac1(c w)(hc:Ap c=true):
 C_ 292 #[.string c] w (.tuple #[.agg #[.int .i64 (G0 c).area,.int .i64 (G0 c).walk,.int .i64 (G0 c).point],.bool true]):=by
 refine' ZQM;have H0:Hid (∀W:World,ya 221 #[.string (c.extract 0 3)] W (.int .i64 (G0 c).area)):=fun W=>Jv _ W (hx 0 3 ZA) zL
 have H1:Hid (∀W:World,ya 221 #[.string (c.extract 3 5)] W (.int .i64 (G0 c).walk)):=fun W=>Jv _ W (hx 3 5 ZA) zL
 have H2:Hid (∀W:World,ya 221 #[.string (c.extract 5 c.size)] W (.int .i64 (G0 c).point)):=fun W=>Jv _ W (hx 5 c.size ZA) zL
 refine' ZQN;refine' ZQO;go_enter func292,ntmps292
 refine' ZC;refine' iB;refine' ZC;go_region_held3 (fun _=>True) (first|trivial|fail) (first|(go_at_call 221;refine' ZQP)|fail)
 all_goals exact ZQQ
def F8(l:List UInt8):Nat:=l.foldl (fun n b=>n+(b.toNat - 48)) 0
theorem ZCX(l b):F8 (l++[b])=F8 l+(b.toNat - 48):=by unfold F8;exact Wm
theorem Ow:∀(k:Nat) (l:List UInt8),Ea l=true->l.length=k->F8 l<=9*k
 |0,l,_,hl=>ZQI
 |k+1,l,h,hl=>by refine' ZIn;have ih:=Ow k (l.take k) (F3 h k) zF;refine' ZIo;rw[e,ZCX];omega
theorem AiD(s w)(hd:Ea s.data.toList=true)(hz:s.size<=20):
 ya 296 #[.string s] w (.int .i64 (F8 s.data.toList:Int)):=by
 refine' Uw;go_enter func296,ntmps296
 refine' ZQR
 .refine' Wg;by_cases ab:k<s.size
  .refine' ZQS;have t6:n<=180:=ZA
   clear j9 hn;refine' ZIq;refine' ZIp;have w4:aD.wrap ((n:Int)+((b.toNat:Int) - 48))=(n:Int)+((b.toNat:Int) - 48):=bG _ ZA;exact ZFI
  exact ZFJ
theorem ZD4(s w)(hd:Ea s.data.toList=true)(hz:s.size<=20):
 ya 295 #[.string s] w (.bool true):=by
 have HA:Hid (∀W:World,ya 220 #[.string s] W (.bool true)):=fun W=>by have:=AsW s W ZN;rw[hd]at this;exact this
 clear hd;have QU:(s.size:Int)<=20:=ZA
 go_enter func295,ntmps295
 go_wp2_with (go_at_call 220;refine(HA.out _).mono ?_;refine' zW)
 go_ret;exact ZW
def Kv(l:List UInt8):Nat:=(10 - F8 l%10)%10
theorem AeV(l):Kv l<10:=Nat.mod_lt _ ZE
theorem AqQ(s w)(hd:Ea s.data.toList=true)(hz:s.size<=20):
 ya 239 #[.string s] w (.int .i64 (Kv s.data.toList:Int)):=by
 have HA:=aA (fun W=>ZD4 s W hd hz);have HB:=aA (fun W=>AiD s W hd hz);refine' ZQT;go_enter func239,ntmps239
 refine' ZC;refine' ZFK;go_wp2_with (go_at_call 296;refine(HB.out _).mono ?_;refine' ZP)
 go_ret;refine⟨Bo ?_,rfl⟩;have:=HE.out;omega
theorem B7{w:World}{g}{T:TypeId}{a b d}(h:w.heap[g]? =some (.cells #[a,b,d] T (0,0))):
 w.cell? ⟨g,0,none⟩=some a/\w.cell? ⟨g,1,none⟩=some b/\w.cell? ⟨g,2,none⟩=some d/\w.frozen? ⟨g,0,none⟩=false/\w.frozen? ⟨g,1,none⟩=false/\w.frozen? ⟨g,2,none⟩=false:=
 ⟨Y5,Y5,Y5,Z9,Z9,Z9⟩
theorem AfL(t c:Y_)(w:World)(hz:t.size=9)(h3:(t[3]' ZA).toNat=45)(h6:(t[6]' ZA).toNat=45)
 (hc:t.extract 0 3++t.extract 4 6++t.extract 7 9=c) (gp:Ap c=true):
 C_ 236 #[.string t] w (.tuple #[.agg #[.int .i64 (G0 c).area,.int .i64 (G0 c).walk,.int .i64 (G0 c).point],.bool true]):=by have HP:=aA (fun W=>Ac1 c W gp);clear gp;generalize G0 c=p at *;subst hc;refine' ZIr;refine' Uh;exact ZQU
theorem Aa0(t p w)
 (HP:Hid (∀W:World,C_ 236 #[.string t] W (.tuple #[.agg #[.int .i64 p.area,.int .i64 p.walk,.int .i64 p.point],.bool true])))
 (hp:Jk p=true):
 C_ 151 #[.string t] w (.string (Hf p)):=by
 have HC:=aA (fun W=>AdQ p W hp);clear hp;go_enter func151,ntmps151
 go_wp2_with (first|(go_at_call 236;refine' ZIs)|(go_at_call 237;(with_reducible refine' Wf);refine' zB))
 go_ret;exact⟨rfl,Aa (Ae b1 _) b3⟩
def J6:List Y_:=[⟨#[124,124,46,46,46]⟩,⟨#[46,46,46,124,124]⟩,⟨#[46,46,124,46,124]⟩,⟨#[46,46,124,124,46]⟩,⟨#[46,124,46,46,124]⟩,⟨#[46,124,46,124,46]⟩,⟨#[46,124,124,46,46]⟩,⟨#[124,46,46,46,124]⟩,⟨#[124,46,46,124,46]⟩,⟨#[124,46,124,46,46]⟩]
def G6(k:Nat):Y_:=J6.getD k ⟨#[]⟩
theorem AoS:∀j,j<10->∀k,k<10->G6 j=G6 k->j=k:=ZE
theorem Ot:∀j,j<10->(G6 j).size=5:=ZE
def N9(w:World):Prop:=w.var? Tryz.prog "loop.example/sortingoffice/impl.digitBars" =some (J6.map fun b=>aG b).toArray
theorem Tryz.gBars:Tryz.prog.globalNamed "loop.example/sortingoffice/impl.digitBars" =some 1:=ZB
theorem N9.cell{w}(h:N9 w)(i)(hi:i<10):w.cell? ⟨1,i,none⟩=some (.string (G6 i)):=by have h1:=World.var?_cell Tryz.gBars h i;rw[h1];have hl:i<J6.length:=hi;simp[G6,List.getD,hl]
theorem N9.on{w w'}(h:N9 w)(hb:B_ w w'):N9 w':=
 Go.Joins.var_stays Tryz.gBars h hb (aC _)
theorem ZDF(d:Nat)(w)(hd:d<10)(hw:N9 w):
 ya 238 #[.int .i64 (d:Int)] w (.string (G6 d)):=by
 have hc:=hw.cell d hd;have h0:¬((d:Int)<0):=ZA
 clear hw;go_enter func238,ntmps238
 refine' ZI;exact ZW
theorem AjS(a b:Y_):(a.toList==b.toList)=true↔a=b:=by
 rw[dI,bU,bU];constructor
 .intro h
  obtain⟨⟨a⟩⟩:=a;obtain⟨⟨b⟩⟩:=b;simp only at h;rw[h]
 .intro h;rw[h]
def G_(b:Y_)(d:Int):Prop:=(∃k:Nat,k<10/\d=k/\G6 k=b)\/(d= -1/\∀k,k<10->G6 k≠b)
theorem AfF(b w)(hw:N9 w):
 Calls Tryz.prog 297 #[.string b] w fun e w'=>∃d:Int,e=.returned (.int .i64 d)/\Hid (G_ b d)/\w=w':=by
 have HB:=aA hw;clear hw;go_enter func297,ntmps297
 refine' ZC;go_loop[3] (fun i=>∃k:Nat,k<=10/\i=.int .i64 k/\Hid (∀j,j<k->G6 j≠b)) (fun i=>10 - (intOf i).toNat)
 case atStart=>exact⟨0,aN _,rfl,fun j hj=>absurd hj (aX _)⟩
 case round=>
  obtain⟨k,hk,rfl,HN⟩:=hrel;by_cases ab:k<10
  .have hc:=HB.out.cell k ab
   have bd:(k:Int)<10:=ZA
   by_cases he:G6 k=b
   .have HE:=aA he
    have hq:((G6 k).toList==b.toList)=true:=(AjS _ _).2 he;clear he
    refine' ZI;exact⟨(k:Int),rfl,aZ ⟨k,ab,rfl,HE.out⟩,rfl⟩
   .have HE:=aA he
    have hq:((G6 k).toList==b.toList)=false:=Bool.eq_false_iff.2 fun h=>he ((AjS _ _).1 h)
    clear he
    refine' ZC;go_round
    case rel=>exact⟨k+1,ZA,ZJ,fun j hj=>by
     rcases Nat.lt_succ_iff_lt_or_eq.1 hj with h|rfl
     .exact HN.out j h
     .exact HE.out⟩
    case measure=>exact ZK
  .obtain rfl:k=10:=ZA
   refine' ZI;exact⟨-1,rfl,gT ⟨rfl,HN.out⟩,rfl⟩
theorem ZBC(b)(k:Nat)(w)(hz:b.size=42)(hk:k<8)(hw:N9 w):
 Calls Tryz.prog 240 #[.string b,.int .i64 (k:Int)] w fun e w'=>∃d:Int,e=.returned (.int .i64 d)/\Hid (G_ (b.extract (1+5*k) (6+5*k)) d)/\w=w':=by
 have HB:=aA (fun s:Y_=>AfF s w hw);clear hw;obtain⟨f,hf⟩:∃f:Nat,f=1+5*k:=⟨_,rfl⟩;have w1:aD.wrap ((k:Int)*5)=(k:Int)*5:=bG _ ZA;have w2:aD.wrap (1+(k:Int)*5)=(f:Int):=Z8
 have w3:aD.wrap ((f:Int)+5)=((f+5:Nat):Int):=Z8
 have hE:Hid (b.extract (1+5*k) (6+5*k)=b.extract f (f+5)):=by show _=_;rw[hf,show 6+5*k=1+5*k+5 by omega]
 have xk:f+5<=b.size:=ZA
 clear hf hk;go_enter func240,ntmps240
 go_wp2_with (go_at_call 297;refine(HB.out _).mono ?_;rintro e _ ⟨d,rfl,hd,rfl⟩)
 go_ret;exact⟨d,rfl,by rw[hE.out];exact hd,rfl⟩
def Ni(l:List UInt8):Y_:=l.foldl (fun a b=>a++G6 (b.toNat - 48)) ⟨#[124]⟩
theorem ZCE(l b):Ni (l++[b])=Ni l++G6 (b.toNat - 48):=by unfold Ni;exact Wm
theorem M9:∀(k:Nat) (l:List UInt8),Ea l=true->l.length=k->(Ni l).size=1+5*k
 |0,l,_,hl=>by rw[bW hl];rfl
 |k+1,l,h,hl=>by refine' ZIn;have ih:=M9 k (l.take k) (F3 h k) zF;refine' ZIo;rw[e,ZCE,aY,ih,Ot _ ZA];omega
def Sj(l:List UInt8):Y_:=Ni l++G6 (Kv l)++⟨#[124]⟩
theorem Ae7(s w)(hc:Ap s=true)(hw:N9 w):
 ya 152 #[.string s] w (.tuple #[.string (Sj s.data.toList),.bool true]):=by
 obtain⟨h7,_⟩:=Cp hc;have jb:Ea s.data.toList=true:=ZIt
 have js:Hid (∀W:World,ya 231 #[.string s] W (.bool true)):=fun W=>by have:=Cw s W ZN;exact We
 have DB:=aA (fun W=>AqQ s W jb ZA);have HB:=aA (fun(d:Nat) (hd:d<10) (W:World) (hW:w=W)=>by subst hW;exact ZDF d w hd hw:∀(d:Nat) (_:d<10) (W:World) (_:w=W),ya 238 #[.int .i64 (d:Int)] W (.string (G6 d)));refine' ZQV;clear hc hw jb hq;refine' ZQW;go_loop[4,5] (fun t i=>∃k:Nat,k<=s.size/\i=.int .i64 k/\t=.string (Ni (s.data.toList.take k))) (fun _ i=>s.size - (intOf i).toNat)
 case atStart=>exact Ug
 case round=>
  refine' Wg;by_cases ab:k<s.size
  .refine' ZQX;clear DC;have w1:IntKind.wrap .u8 ((b.toNat:Int) - 48)=(d:Int):=Uo
   have w2:aD.wrap (d:Int)=(d:Int):=bG _ ZA;clear bv dq hd
   go_wp2_with (go_at_call 238;refine(HB.out d uK _ rfl).mono ?_;refine' ZP)
   go_round
   case rel=>exact⟨k+1,ZA,ZJ,ZFL⟩
   case measure=>exact ZK
  .refine' ZQY;clear DC
   go_wp2_with (first|(go_at_call 239;refine(DB.out _).mono ?_;refine' ZP)|(go_at_call 238;refine(HB.out q uh _ rfl).mono ?_;refine' ZP))
   go_ret2;exact⟨ZIu,rfl⟩
def Mw(ds:Nat->Nat)(u:Nat):Nat->Nat
 |0=>0
 |k+1=>Mw ds u k+if k=u then 0 else ds k
theorem AlI{ds:Nat->Nat}(h:∀k,k<8->ds k<10)(u):∀k,k<=8->Mw ds u k<=9*k
 |0,_=>aC _
 |k+1,hk=>by
  have h1:=AlI h u k ZA;have h2:=h k ZA;unfold Mw
  split<;>omega
def c_(ds:Nat->Nat):Y_:=⟨((List.range 7).map fun j=>b8 (48+(ds j:Int))).toArray⟩
structure Bars (b:ByteArray) (ds:Nat->Nat) (u:Nat):Prop where
 size:b.size=42
 ten:∀k,k<8->ds k<10
 read:∀k,k<8->k≠u->G6 (ds k)=b.extract (1+5*k) (6+5*k)
 not:u<8->∀j,j<10->G6 j≠b.extract (1+5*u) (6+5*u)
 sum:(Mw ds 8 8)%10=0
theorem ZBI(ds:Nat->Nat)(u):∀k,Mw ds 8 k=Mw ds u k+(if u<k/\u≠8 then ds u else 0)\/8<k
 |0=>aZ (by simp[Mw])
 |k+1=>by
  rcases ZBI ds u k with h|h
  .by_cases h8:k=8
   .exact gT ZA
   .left
    unfold Mw;rw[h,aM h8];by_cases hk:k=u
    .subst hk
     simp[h8]
    .rw[aM hk]
     by_cases h2:u<k/\u≠8
     exact ZH5
     .rw[aM h2,aM ZA];omega
  .exact gT ZA
theorem Bars.last{b}{ds:Nat->Nat}{u}(h:Bars b ds u)(hu:u<8):(10 - Mw ds u 8%10)%10=ds u:=by
 have h1:=h.sum;have h2:=h.ten u hu;rcases ZBI ds u 8 with h3|h3
 .rw[aQ ZA]at h3;omega
 .omega
theorem Bars.all{b}{ds:Nat->Nat}{u}(h:Bars b ds u)(hu:u=8):Mw ds u 8%10=0:=by subst hu;exact h.sum
theorem Bars.is{b}{ds:Nat->Nat}{u k d}(h:Bars b ds u)(hk:k<8)(hd:G_ (b.extract (1+5*k) (6+5*k)) d):d=if k=u then -1 else(ds k:Int):=by
 by_cases hu:k=u
 .subst hu
  rw[aQ rfl];rcases hd with⟨j,hj,_,h2⟩|⟨h1,_⟩
  .exact absurd h2 (h.not hk j hj)
  .exact h1
 .rw[aM hu]
  rcases hd with⟨j,hj,h1,h2⟩|⟨_,h2⟩
  .have:=AoS _ hj _ (h.ten k hk) (h2.trans (h.read k hk hu).symm)
   rw[h1,this]
  .exact absurd (h.read k hk hu) (h2 _ (h.ten k hk))
theorem At2{ds:Nat->Nat}{l:List UInt8}(hl:l.length=8)(h:∀j,j<7->l[j]? =some (b8 (48+(ds j:Int)))):(⟨(l.take 7).toArray⟩:Y_)=c_ ds:=by
 unfold c_
 congr 2
 apply ZB8;intro i;rw[ZCy];by_cases hi:i<7
 .rw[aQ hi,h i hi,iI,List.getElem?_range hi];rfl
 .rw[aM hi,eZ (by rw[bI,List.length_range];omega)]
theorem Ab7(b)(ds:Nat->Nat)(u w)(hB:Bars b ds u)(hu8:u<=8)(hw:N9 w):
 C_ 153 #[.string b] w (.tuple #[.string (c_ ds),.bool true]):=by
 have j8:=aA hB;have HG:Hid (∀(k:Nat) (_:k<8) (W:World),B_ w W->ya 240 #[.string b,.int .i64 (k:Int)] W (.int .i64 (if k=u then -1 else(ds k:Int)))):=fun k hk W hW=>by refine(ZBC b k W hB.size hk (hw.on hW)).mono ?_;rintro e _ ⟨d,rfl,hd,rfl⟩;exact⟨by rw[hB.is hk hd.out],rfl⟩
 have hz:(b.size:Int)=42:=by have:=hB.size;omega
 refine' ZQZ;clear wc;clear hB hw;refine' ZQa;go_loopw[5,6,7] (fun t m i wr=>∃(k:Nat) (l:List UInt8),k<=8/\i=.int .i64 k/\t=.int .i64 (Mw ds u k:Nat)/\m=.int .i64 (if u<k then(u:Int)else -1)/\Hid (E8 wr w.heap.size l)/\Hid (l.length=8)/\Hid (∀j,j<k->j≠u->l[j]? =some (b8 (48+(ds j:Int))))/\B_ w wr) (fun _ _ i _=>(8 - intOf i).toNat)
 case atStart=>exact⟨0,List.replicate 8 0,ZA,rfl,rfl,by rw[aM (aX _)],RC.out,Rm,fun j hj=>absurd hj (aX _),lz⟩
 case round=>
  obtain⟨k,l,hk,rfl,rfl,rfl,HR,HL,HJ,av⟩:=hrel;refine' YB;by_cases ab:k<8
  .refine' ZQb;have xm:=AlI j8.out.ten u k hk;have hd:=j8.out.ten k ab;have hlk:k<l.length:=zt
   by_cases hu:k=u
   .subst hu
    have lJ:Hid (ya 240 #[.string b,.int .i64 (k:Int)] w1 (.int .i64 (-1))):=by{have:=HC.out;rw[aQ rfl]at this;exact this};have HS:Hid (Mw ds k (k+1)=Mw ds k k):=by{show _=_;rw[Mw,aQ rfl];rfl};rw[aM (Nat.lt_irrefl k)];clear HC;generalize Mw ds k k=sm at *
    refine' Qj;go_roundw
    case rel=>exact⟨k+1,l,ZA,ZJ,ZFL,by rw[aQ (dW k)],HR,HL,fun j hj IW=>HJ.out j ZA IW,av⟩
    case measure=>exact ZK
   .have lJ:Hid (ya 240 #[.string b,.int .i64 (k:Int)] w1 (.int .i64 (ds k:Int))):=by{have:=HC.out;rw[aM hu]at this;exact this};have HS:Hid (Mw ds u (k+1)=Mw ds u k+ds k):=by{show _=_;rw[Mw,aM hu]};have HM:Hid ((if u<k+1 then(u:Int)else -1)=if u<k then(u:Int)else -1):=by
     show _=_;by_cases h:u<k
     .rw[aQ h,aQ ZA]
     .rw[aM h,aM ZA]
    have pM:Hid (E8 (w1.setCell ⟨w.heap.size,k,none⟩ (.int .u8 (48+(ds k:Int)))) w.heap.size (l.set k (b8 (48+(ds k:Int))))):=by{have h1:=HR.out.set k (b8 (48+(ds k:Int)));refine' ZFH;exact h1};have HJ2:Hid (∀j,j<k+1->j≠u->(l.set k (b8 (48+(ds k:Int))))[j]? =some (b8 (48+(ds j:Int)))):=fun j hj IW=>by
     by_cases dx:j=k
     .subst dx;rw[List.getElem?_set_self hlk]
     exact ZQc
    have ig:Hid ((l.set k (b8 (48+(ds k:Int)))).length=8):=ZQd
    have hc:=HR.out.cell k hlk;have hf:=HR.out.free k;clear HC;generalize(if u<k then(u:Int)else -1)=m at *;generalize Mw ds u k=sm at *;generalize l[k]=WE at *;obtain⟨d,jb⟩:∃d,ds k=d:=⟨_,rfl⟩;rw[jb]at lJ HS pM HJ2 ig hd;clear jb;refine' ZFM;refine' Qj;go_roundw
    case rel=>exact⟨k+1,_,ZA,ZJ,by rw[HS.out];rfl,by rw[HM.out],pM,ig,HJ2,Ai av (p:=⟨w.heap.size,k,none⟩) (aC _) _⟩
    case measure=>exact ZK
  .obtain rfl:k=8:=ZA
   have xm:=AlI j8.out.ten u 8 (aC _);by_cases hu:u<8
   .have hE0:=j8.out.last hu
    have hd:=j8.out.ten u hu;have hlk:u<l.length:=zt
    have pM:Hid (E8 (w1.setCell ⟨w.heap.size,u,none⟩ (.int .u8 (48+(ds u:Int)))) w.heap.size (l.set u (b8 (48+(ds u:Int))))):=by{have h1:=HR.out.set u (b8 (48+(ds u:Int)));refine' ZFH;exact h1};have HC:Hid ((⟨((l.set u (b8 (48+(ds u:Int)))).take 7).toArray⟩:Y_)=c_ ds):=At2 (by rw[eV];exact HL.out) fun j hj=>by
     by_cases IW:j=u
     .subst IW;rw[List.getElem?_set_self hlk]
     exact ZQc
    have yA:=pM.out.str (c:=8) (m:=7) (by rw[eV];exact zt);rw[HC.out]at yA;have hc:=HR.out.cell u hlk;have hf:=HR.out.free u;rw[aQ hu];generalize Mw ds u 8=sm at *;generalize l[u]=WE at *;refine' ZQe;obtain⟨d,jb⟩:∃d,ds u=d:=⟨_,rfl⟩;rw[jb]at hE0 hd yA pM;clear jb HC;have hE:(10 - (sm:Int)%10)%10=(d:Int):=ZA
    refine' ZFM;have MF:(u:Int)<8:=ZA
    have hu0:(0:Int)<=(u:Int):=ZA
    clear hE0
    refine' ZQ;exact⟨by rw[kv.out];rfl,Ai av (p:=⟨w.heap.size,u,none⟩) (aC _) _⟩
   .have RD:=j8.out.all ZA
    have HC:Hid ((⟨(l.take 7).toArray⟩:Y_)=c_ ds):=At2 HL.out fun j hj=>HJ.out j ZA ZA
    have yA:=HR.out.str (c:=8) (m:=7) zt;rw[HC.out]at yA;rw[aM hu];generalize Mw ds u 8=sm at *;refine' ZQe;clear HC;have hS1:(sm:Int)%10=0:=ZA
    clear RD
    refine' ZQ;exact⟨by rw[kv.out];rfl,av⟩
theorem AuP{s}(h:Ea s.data.toList=true)(h7:s.size=7):Ap s=true:=by unfold Ap;rw[h,h7];rfl
theorem AnW(n:Nat):(b8 (48+(n:Int)%10)).toNat=48+n%10:=by have:=ZAx (n:=48+(n:Int)%10) ZA ZA;omega
theorem Pl:∀(k n:Nat),Ea (Gm n k)=true
 |0,_=>rfl
 |k+1,n=>by rw[Gm,Vw,Pl k];have:=AnW n;simp[Ea,Td,this];omega
theorem AkS:∀(k n:Nat),n<10^k->Fe (Gm n k)=n
 |0,n,h=>by
  have:n=0:=zI
  subst this;rfl
 |k+1,n,h=>by rw[Gm,Il,AkS k (n/10) (by rw[Nat.pow_succ]at h;omega),AnW];omega
theorem ZA2(p):(Hf p).data.toList=Gm p.area.toNat 3++Gm p.walk.toNat 2++Gm p.point.toNat 2:=by unfold Hf;rw[B6,B6];rfl
theorem ZB4(p):(Hf p).size=7:=by unfold Hf;rw[aY,aY,Jd,Jd,Jd]
theorem AsC(p):Ap (Hf p)=true:=
 AuP (by rw[ZA2,Vw,Vw,Pl,Pl,Pl];rfl) (ZB4 p)
theorem AxO(n):∃x y:UInt8,Gm n 2=[x,y]:=⟨_,_,rfl⟩
theorem BbT(n):∃x y z:UInt8,Gm n 3=[x,y,z]:=⟨_,_,_,rfl⟩
theorem ZDe(p):∃x y z u v r s:UInt8,Pm p=⟨#[x,y,z,45,u,v,45,r,s]⟩/\Hf p=⟨#[x,y,z,u,v,r,s]⟩:=by
 obtain⟨x,y,z,ha⟩:=BbT p.area.toNat;obtain⟨u,v,hb⟩:=AxO p.walk.toNat;obtain⟨r,s,hc⟩:=AxO p.point.toNat;refine⟨x,y,z,u,v,r,s,?_,?_⟩
 .apply Cv
  unfold Pm;simp only[B6];show Gm p.area.toNat 3++[45]++Gm p.walk.toNat 2++[45]++Gm p.point.toNat 2=_;rw[ha,hb,hc];rfl
 .apply Cv
  rw[ZA2,ha,hb,hc];rfl
theorem ArE{x y z u v r s:UInt8}(t:Y_)(h1:t=⟨#[x,y,z,45,u,v,45,r,s]⟩):∃h:t.size=9,(t[3]' ZA).toNat=45/\(t[6]' ZA).toNat=45/\t.extract 0 3++t.extract 4 6++t.extract 7 9=⟨#[x,y,z,u,v,r,s]⟩:=by subst h1;refine⟨rfl,rfl,rfl,?_⟩;apply Cv;simp only[B6,ByteArray.data_extract];simp
theorem Au2(p:Plc):∃h:(Pm p).size=9,((Pm p)[3]' ZA).toNat=45/\((Pm p)[6]' ZA).toNat=45/\(Pm p).extract 0 3++(Pm p).extract 4 6++(Pm p).extract 7 9=Hf p:=by obtain⟨x,y,z,u,v,r,s,h1,h2⟩:=ZDe p;rw[h2];exact ArE _ h1
theorem Hb(s:Y_)(i j):(s.extract i j).data.toList=(s.data.toList.take j).drop i:=by refine' Wd;simp[List.drop_take]
theorem Aw6{P}{ρ:Ren}(L:Go.Proofs.Lays.n146 P ρ)(hi9:(P.info? (ρ.t 9)).map (fun i=>(i.zero,i.size,i.bytes))=some (some (.string ByteArray.empty),1,16))(s c w)(hs:s.size<4294967281):
 Calls P (ρ.f 146) #[.string s,.string ⟨#[c]⟩] w fun e w'=>
  e=.returned (.slice (P_ w.heap.size) (Aj c s).length (Aj c s).length)/\w'=w.alloc (.cells ((Aj c s).map aG).toArray (ρ.t 9)):=by
 have h1:1<=(⟨#[c]⟩:Y_).size:=aC 1;have qT:=Lib.countB_le ⟨#[c]⟩ h1 s.size s (aC _);have bp:=Lib.splitB_all ⟨#[c]⟩ h1 0 _ s rfl;have c0:=Any.strings_genSplit_core (P:=P) (ρ:=ρ) {L with} hi9 s ⟨#[c]⟩ 0 (-1) (Lib.countB s ⟨#[c]⟩+1) w hs h1 (aN _)
  (fun x cc _=>(Any.strings_Index_one {L with} x c _).mono fun e w' h=>⟨by rw[h.1,Bd5],h.2⟩)
  ((Any.strings_Count_one {L with} s c w).mono fun e w' h=>⟨by rw[h.1];show _=Ending.returned (aH .i64 ((Lib.count s.data.toList [c]:Nat):Int));rw[Lib.count_one];rfl,h.2⟩) ZE ZE (by rw[aQ ZE];omega)
 rw[Nat.add_sub_cancel,bp]at c0;have e2:Lib.cellsOf (Lib.splitB ⟨#[c]⟩ 0 (Lib.countB s ⟨#[c]⟩) s) (Lib.countB s ⟨#[c]⟩+1)=((Lib.splitB ⟨#[c]⟩ 0 (Lib.countB s ⟨#[c]⟩) s).map aG).toArray:=by rw[<-bp];exact Lib.cellsOf_full _
 rw[e2,ZDi c _ s rfl,<-Ad7 c s]at c0;have e221:∀args w,(callFunc (ρ.f 221) args).run P w=.ok (.enter (ρ.f 221) args) w:=iF L.f221 ZB rfl;clear qT bp e2;go_enter L.f146,Body.n146_ntmps ρ
 go_wp2_with (go_at_fn (ρ.f 221);refine c0.mono ?_;rintro e w' ⟨rfl,hw⟩;rw[hw])
 go_ret;exact ZW
theorem ZDb(s c w)(hs:s.size<=1000000000):
 Calls Tryz.prog 13 #[.string s,.string ⟨#[c]⟩] w fun e w'=>e=.returned (.slice (P_ w.heap.size) (Aj c s).length (Aj c s).length)/\own 9 w.heap.size w' (.slice (P_ w.heap.size) (Aj c s).length (Aj c s).length) (Aj c s)/\B_ w w'/\w'.heap.size=w.heap.size+1:=
 (Aw6 Tryz.lays146 ZB s c w ZA).mono fun e w' h=>by obtain⟨h1,h2⟩:=h;subst h2;exact⟨h1,X_ 9 w.heap.size w (Aj c s) (fun x hx=>by have:=Hi hx;exact ZN) (by have:=ZCQ c s;exact ZN) (aC _),(aF _ _).alloc (aC _) _,ZF⟩
theorem AtC{A c w ps sep}(h:R_ w (.slice A ps.length c) ps)(h0:ps.length≠0)(hN:ps.length<=1000000000)(hs:(Cg ps sep).size<=140737488355328):
 C_ 196 #[.slice A ps.length c,.string sep] w (.string (Cg ps sep)):=by obtain⟨A',n',c',hv,qL,hc,hm,hr⟩:=h;injection hv with e1 e2 e3;subst e1 e2 e3;obtain⟨b,o,rfl,hb,_,_⟩:=hr.str 0 ZA;refine Tryz.strings_Join b o c ps sep w (fun j x hx=>?_) hb ZA hc (by rw[AkJ];exact hs);obtain⟨hj,rfl⟩:=List.getElem?_eq_some_iff.1 hx;obtain⟨b',o',e,_,_,h1⟩:=hr.str j hj;refine' YC;injection e with e1 e2;subst e1 e2;exact h1
theorem Hw(v ps w)(hv:R_ w v ps)(hN:ps.length<=1000000000)(hz:∀p∈ps,p.size<=1000):
 C_ 127 #[v] w (.string (Cb ps)):=by
 refine' zR;obtain⟨A,n,c,rfl,hn,hc,hm,_⟩:=hv;refine' Zj;by_cases h0:ps.length=0
 .have HL:Hid (Cb ps=⟨#[45]⟩):=by show _=_;unfold Cb;rw[aQ h0]
  have j5:((ps.length:Int)==0)=true:=ZE9
  clear h0;go_enter func127,ntmps127
  refine' ZI;exact⟨B8 HL.out.symm,aF _ _⟩
 .have HL:Hid (Cb ps=Cg ps y7):=by show _=_;unfold Cb;rw[aM h0]
  have j5:((ps.length:Int)==0)=false:=beq_eq_false_iff_ne.2 ZA;have hj:=Dw ps y7 1000 hz;have ul:ps.length*(1000+y7.size)<=1000000000*1001:=bY hN (aC _);have HJ:=aA (AtC (sep:=y7) HV.out h0 hN ZA);clear h0 hj ul;go_enter func127,ntmps127
  refine' ZC;refine HJ.out.mono ?_;refine' ZU;refine' ZI;exact⟨B8 HL.out.symm,b1⟩
theorem Ca{B d w s vH}(h:Bv B w d s vH):∃(vL vO vF vN:Value) (os:List OfV),
 (w.cell? ⟨d,0,none⟩=some vL/\w.cell? ⟨d,1,none⟩=some (.int .i64 s.day.plan.bins)/\w.cell? ⟨d,2,none⟩=some (.int .i64 s.day.plan.passes)/\w.cell? ⟨d,3,none⟩=some vO/\w.cell? ⟨d,4,none⟩=some vF/\w.cell? ⟨d,5,none⟩=some vH/\w.cell? ⟨d,6,none⟩=some (.int .i64 s.day.size)/\w.cell? ⟨d,7,none⟩=some vN)/\
 (∀i,w.frozen? ⟨d,i,none⟩=false)/\
 own 119 B w vL s.letters/\own 9 B w vO s.day.plan.order/\own 128 B w vF s.day.fwds/\own 9 B w vH s.day.held/\isN 45 181 B w vN s.net os/\apart vO vH:=by obtain⟨vL,vO,vF,vN,os,h0,h1⟩:=h;refine⟨vL,vO,vF,vN,os,?_,fun i=>frozen_of_row _ _ _ _ _ h0,h1⟩;refine⟨?_,?_,?_,?_,?_,?_,?_,?_⟩<;>(rw[eG _ _ _ _ _ _ h0];rfl)
theorem D3{α:Type}[Flat α]{T base d:Nat}{w v u}{xs:List α}(h:own T base w v xs)(hd:∃bw:Array Value,w.heap[d]? =some (.cells bw 47 (0,0)))(hT:T≠47)(i):own T base (w.setCell ⟨d,i,none⟩ u) v xs:=
 h.keepT fun k bw hc=>bQ _ _ _ _ fun e=>by obtain⟨c2,h2⟩:=hd;have e:k=d:=e;subst e;rw[h2]at hc;refine' ZLt;exact hT hc.symm
theorem Yv{T1 T2 base d:Nat}{w v u net os}(h:isN T1 T2 base w v net os)(hd:∃bw:Array Value,w.heap[d]? =some (.cells bw 47 (0,0)))(h1:T1≠47)(h2:T2≠47)(i):isN T1 T2 base (w.setCell ⟨d,i,none⟩ u) v net os:=
 ⟨D3 h.1 hd h1 i,h.2.1,fun k a b=>⟨(h.2.2.1 k a b).1,D3 (h.2.2.1 k a b).2 hd h2 i⟩,h.2.2.2.1,h.2.2.2.2⟩
theorem Bv.setNet{B d w s vH SU PE IS}(h:Bv B w d s vH)(hn:isN 45 181 B w SU PE IS):Bv B (w.setCell ⟨d,7,none⟩ SU) d {s with net:=PE} vH:=by refine' X6;refine⟨vL,vO,vF,SU,IS,?_,D3 h1 ho ZE 7,D3 h2 ho ZE 7,D3 h3 ho ZE 7,D3 h4 ho ZE 7,Yv hn ho ZE ZE 7,h6⟩;have:=bO w d 7 _ _ SU h0;rw[this];rfl
theorem BcI{α:Type}[Flat α]{T base B d:Nat}{w w' v vH}{xs:List α}{s}(h:own T base w v xs)(hD:Bv B w d s vH)(hT:T≠47)(hA:apart vH v)(hK:Kd d vH w w'):own T base w' v xs:=
 h.keepBlk fun k e=>by
  refine hK.block k (h.blk k e).2 (fun e2=>?_) fun e2=>?_
  .subst e2
   obtain⟨c1,h1⟩:=Wo h e;obtain⟨c2,h2⟩:=hD.obj;rw[h2]at h1;injection h1 with h1;injection h1 with _ h1 _;exact hT h1.symm
  .unfold apart at hA
   rcases hA with hA|hA
   .rw[<-e2]at hA;cases hA
   .exact hA (by rw[<-e2,e])
theorem AdG{T e B b:Nat}{bs w}(h:Lib.IsBuilderF T e B b bs w):∃(bw:Array Value) (fz:Nat×Nat),w.heap[b]? =some (.cells bw T fz):=by rcases h with⟨_,_,h,_⟩|⟨_,_,h,_⟩<;>exact⟨_,_,h⟩
theorem AhX{α:Type}[Flat α]{T base b:Nat}{w w' v}{xs:List α}(h:own T base w v xs)(hO:Lib.OthersKept 5 (some b) w w')(hb:∃(bw:Array Value) (fz:Nat×Nat),w.heap[b]? =some (.cells bw 50 fz))(h1:T≠5)(h2:T≠50):own T base w' v xs:=
 h.keepT fun k bw hc=>ZZN
theorem Aq4{α:Type}[El α]{T base:Nat}{w v vH qz}{xs:List α}(hA:apart vH v)(hN:Nu w vH qz)(ho:own T base w v xs):apart qz v:=by
 unfold apart at *;rcases hN with h|h
 .rw[h];exact hA
 .cases hv:qz.ownBlock with
  |none=>exact .inl rfl
  |some k=> refine' YQ;have h1:=h k hv;have h2:=(ho.blk k e.symm).2;omega
theorem AlK(a b):Lib.strCells (a++b)=Lib.strCells a++Lib.strCells b:=by rw[Lib.strCells_eq,Lib.strCells_eq,Lib.strCells_eq,B6,Lib.byteCells_append]
def Yy(B b:Nat)(o:Y_)(w:World):Prop:=Lib.IsBuilderF 50 5 B b (Lib.strCells o) w
theorem Am3(B b o p w)(h:Yy B b o w)(bp:o.size+p.size<=140737488355328)(KE:B<=w.heap.size):
 Calls Tryz.prog 15 #[.pointer (P_ b),.string p] w fun e w'=>e=.returned (.tuple #[.int .i64 p.size,.nilIface])/\Yy B b (o++p) w'/\Below B w w'/\Lib.OthersKept 5 (some b) w w':=
 (Any.Builder_WriteString_k (ρ:=Tryz.lays156_ren) {Tryz.lays156 with} Tryz.Builder_Extra_156 B b (Lib.strCells o) p w h (by rw[Lib.strCells_length];exact bp) KE).mono fun e w' h=>⟨h.1,.inr (by rw[AlK];exact h.2.1),h.2.2.1,h.2.2.2⟩
theorem BaI(B b o w)(h:Yy B b o w):
 ya 14 #[.pointer (P_ b)] w (.int .i64 o.size):=
 (Tryz.Builder_Len_f B b (Lib.strCells o) w h).mono fun e w' h=>⟨by rw[h.1,Lib.strCells_length],h.2.symm⟩
theorem ZAU(B b o w)(h:Yy B b o w)(KE:B<=w.heap.size):
 Calls Tryz.prog 17 #[.pointer (P_ b)] w fun e w'=>e=.returned (.string o)/\Below B w w':=
 (Tryz.Builder_String_any_k B b o.data.toList w h KE).mono fun e w' h=>⟨by rw[h.1],h.2.2.1⟩
def I5:Dsk:=⟨[],⟨⟨4,2,[⟨#[48,48,48,48,48,48,48]⟩]⟩,[],[],10⟩,[⟨⟨#[97]⟩,[]⟩]⟩
theorem Bx{T B g n c:Nat}{w ps}(h:own T B w (.slice (P_ g) n c) ps)(k)(hk:k<ps.length):w.cell? ⟨g,k,none⟩=some (.string ps[k]):=by obtain⟨A,n',c',hv,_,_,_,hr⟩:=h.rd;injection hv with e1 _ _;subst e1;obtain⟨b,o,e,_,_,h1⟩:=hr.str k hk;refine' YC;injection e with e1 e2;subst e1 e2;exact Xu
theorem Az{w:World}{p u}(h:w.cell? p=some u):p.block<w.heap.size:=World.block_lt_of_cell? _ _ h
theorem L6{x:Y_}(h:x.size=0):x.toList.isEmpty=true/\(x.toList==[])=true:=by
 have he:x.toList.isEmpty=true:=ZPr
 exact⟨he,by rw[List.isEmpty_iff.1 he];rfl⟩
theorem G7{x:Y_}(h:x.size≠0):x.toList.isEmpty=false/\(x.toList==[])=false:=by
 have he:x.toList.isEmpty=false:=ZPs
 refine⟨he,?_⟩;cases hq:(x.toList==[])
 .rfl
 .rw[dI]at hq;rw[hq]at he;cases he
theorem Ar1{a}(h:a.size=0):jG a=⟨#[110,111]⟩:=by unfold jG;rw[Lx.2 h,aQ rfl]
theorem ZAu(a):(jG a).size<=a.size+2:=by
 unfold jG
 split
 .show 2<=_;omega
 .omega
theorem AlV(w):B_ w ((((w.alloc (aB #[.string ⟨#[48,48,48,48,48,48,48]⟩] 9)).alloc (aB #[.string ⟨#[97]⟩,.slice none 0 0] 45)).alloc (aB #[.slice none 0 0,.int .i64 4,.int .i64 2,.slice (P_ w.heap.size) 1 1,.slice none 0 0,.slice none 0 0,.int .i64 10,.slice (some ⟨w.heap.size+1,0,none⟩) 1 1] 47)).alloc (aB #[.pointer none,.slice none 0 0] 50))/\Bv w.heap.size ((((w.alloc (aB #[.string ⟨#[48,48,48,48,48,48,48]⟩] 9)).alloc (aB #[.string ⟨#[97]⟩,.slice none 0 0] 45)).alloc (aB #[.slice none 0 0,.int .i64 4,.int .i64 2,.slice (P_ w.heap.size) 1 1,.slice none 0 0,.slice none 0 0,.int .i64 10,.slice (some ⟨w.heap.size+1,0,none⟩) 1 1] 47)).alloc (aB #[.pointer none,.slice none 0 0] 50)) (w.heap.size+1+1) I5 (.slice none 0 0)/\Yy w.heap.size (w.heap.size+1+1+1) ⟨#[]⟩ ((((w.alloc (aB #[.string ⟨#[48,48,48,48,48,48,48]⟩] 9)).alloc (aB #[.string ⟨#[97]⟩,.slice none 0 0] 45)).alloc (aB #[.slice none 0 0,.int .i64 4,.int .i64 2,.slice (P_ w.heap.size) 1 1,.slice none 0 0,.slice none 0 0,.int .i64 10,.slice (some ⟨w.heap.size+1,0,none⟩) 1 1] 47)).alloc (aB #[.pointer none,.slice none 0 0] 50))/\((((w.alloc (aB #[.string ⟨#[48,48,48,48,48,48,48]⟩] 9)).alloc (aB #[.string ⟨#[97]⟩,.slice none 0 0] 45)).alloc (aB #[.slice none 0 0,.int .i64 4,.int .i64 2,.slice (P_ w.heap.size) 1 1,.slice none 0 0,.slice none 0 0,.int .i64 10,.slice (some ⟨w.heap.size+1,0,none⟩) 1 1] 47)).alloc (aB #[.pointer none,.slice none 0 0] 50)).heap.size=w.heap.size+1+1+1+1:=by
 have z1:(w.alloc (aB #[.string ⟨#[48,48,48,48,48,48,48]⟩] 9)).heap.size=w.heap.size+1:=ZF
 have z2:((w.alloc (aB #[.string ⟨#[48,48,48,48,48,48,48]⟩] 9)).alloc (aB #[.string ⟨#[97]⟩,.slice none 0 0] 45)).heap.size=w.heap.size+1+1:=ZF
 have z3:(((w.alloc (aB #[.string ⟨#[48,48,48,48,48,48,48]⟩] 9)).alloc (aB #[.string ⟨#[97]⟩,.slice none 0 0] 45)).alloc (aB #[.slice none 0 0,.int .i64 4,.int .i64 2,.slice (P_ w.heap.size) 1 1,.slice none 0 0,.slice none 0 0,.int .i64 10,.slice (some ⟨w.heap.size+1,0,none⟩) 1 1] 47)).heap.size=w.heap.size+1+1+1:=ZF
 have z4:((((w.alloc (aB #[.string ⟨#[48,48,48,48,48,48,48]⟩] 9)).alloc (aB #[.string ⟨#[97]⟩,.slice none 0 0] 45)).alloc (aB #[.slice none 0 0,.int .i64 4,.int .i64 2,.slice (P_ w.heap.size) 1 1,.slice none 0 0,.slice none 0 0,.int .i64 10,.slice (some ⟨w.heap.size+1,0,none⟩) 1 1] 47)).alloc (aB #[.pointer none,.slice none 0 0] 50)).heap.size=w.heap.size+1+1+1+1:=ZF
 have o1:own (α:=Y_) 9 w.heap.size (w.alloc (aB #[.string ⟨#[48,48,48,48,48,48,48]⟩] 9)) (.slice (P_ w.heap.size) 1 1) [⟨#[48,48,48,48,48,48,48]⟩]:=own.made1 w 9 [.string ⟨#[48,48,48,48,48,48,48]⟩] _ ⟨by unfold maxLen;decide,rfl⟩ (aC _);have o2:own (α:=OfV) 45 w.heap.size ((w.alloc (aB #[.string ⟨#[48,48,48,48,48,48,48]⟩] 9)).alloc (aB #[.string ⟨#[97]⟩,.slice none 0 0] 45)) (.slice (some ⟨w.heap.size+1,0,none⟩) 1 1) [⟨⟨#[97]⟩,.slice none 0 0⟩]:=by have h:=own.made1 (α:=OfV) (base:=w.heap.size) (w.alloc (aB #[.string ⟨#[48,48,48,48,48,48,48]⟩] 9)) 45 [.string ⟨#[97]⟩,.slice none 0 0] ⟨⟨#[97]⟩,.slice none 0 0⟩ ⟨rfl,by unfold maxLen;decide,rfl⟩ (by rw[z1];omega);rw[z1]at h;exact h
 have h3:(((w.alloc (aB #[.string ⟨#[48,48,48,48,48,48,48]⟩] 9)).alloc (aB #[.string ⟨#[97]⟩,.slice none 0 0] 45)).alloc (aB #[.slice none 0 0,.int .i64 4,.int .i64 2,.slice (P_ w.heap.size) 1 1,.slice none 0 0,.slice none 0 0,.int .i64 10,.slice (some ⟨w.heap.size+1,0,none⟩) 1 1] 47)).heap[w.heap.size+1+1]? =some (aB #[.slice none 0 0,.int .i64 4,.int .i64 2,.slice (P_ w.heap.size) 1 1,.slice none 0 0,.slice none 0 0,.int .i64 10,.slice (some ⟨w.heap.size+1,0,none⟩) 1 1] 47 (0,0)):=by
  have:=World.alloc_heap_new ((w.alloc (aB #[.string ⟨#[48,48,48,48,48,48,48]⟩] 9)).alloc (aB #[.string ⟨#[97]⟩,.slice none 0 0] 45)) (aB #[.slice none 0 0,.int .i64 4,.int .i64 2,.slice (P_ w.heap.size) 1 1,.slice none 0 0,.slice none 0 0,.int .i64 10,.slice (some ⟨w.heap.size+1,0,none⟩) 1 1] 47)
  rwa [z2]at this
 have h4:((((w.alloc (aB #[.string ⟨#[48,48,48,48,48,48,48]⟩] 9)).alloc (aB #[.string ⟨#[97]⟩,.slice none 0 0] 45)).alloc (aB #[.slice none 0 0,.int .i64 4,.int .i64 2,.slice (P_ w.heap.size) 1 1,.slice none 0 0,.slice none 0 0,.int .i64 10,.slice (some ⟨w.heap.size+1,0,none⟩) 1 1] 47)).alloc (aB #[.pointer none,.slice none 0 0] 50)).heap[w.heap.size+1+1]? =some (aB #[.slice none 0 0,.int .i64 4,.int .i64 2,.slice (P_ w.heap.size) 1 1,.slice none 0 0,.slice none 0 0,.int .i64 10,.slice (some ⟨w.heap.size+1,0,none⟩) 1 1] 47 (0,0)):=(dL _ _ _ (by rw[z3];omega)).trans h3;have h5:((((w.alloc (aB #[.string ⟨#[48,48,48,48,48,48,48]⟩] 9)).alloc (aB #[.string ⟨#[97]⟩,.slice none 0 0] 45)).alloc (aB #[.slice none 0 0,.int .i64 4,.int .i64 2,.slice (P_ w.heap.size) 1 1,.slice none 0 0,.slice none 0 0,.int .i64 10,.slice (some ⟨w.heap.size+1,0,none⟩) 1 1] 47)).alloc (aB #[.pointer none,.slice none 0 0] 50)).heap[w.heap.size+1+1+1]? =some (aB #[.pointer none,.slice none 0 0] 50 (0,0)):=by
  have:=World.alloc_heap_new (((w.alloc (aB #[.string ⟨#[48,48,48,48,48,48,48]⟩] 9)).alloc (aB #[.string ⟨#[97]⟩,.slice none 0 0] 45)).alloc (aB #[.slice none 0 0,.int .i64 4,.int .i64 2,.slice (P_ w.heap.size) 1 1,.slice none 0 0,.slice none 0 0,.int .i64 10,.slice (some ⟨w.heap.size+1,0,none⟩) 1 1] 47)) (aB #[.pointer none,.slice none 0 0] 50)
  rwa [z3]at this
 refine⟨((((aF _ w).alloc (aC _) _).alloc (by rw[z1];omega) _).alloc (by rw[z2];omega) _).alloc (by rw[z3];omega) _,?_,?_,z4⟩
 .refine⟨.slice none 0 0,.slice (P_ w.heap.size) 1 1,.slice none 0 0,.slice (some ⟨w.heap.size+1,0,none⟩) 1 1,[⟨⟨#[97]⟩,.slice none 0 0⟩],h4,own.nil_ _ _ _,((o1.alloc _).alloc _).alloc _,own.nil_ _ _ _,own.nil_ _ _ _,⟨(o2.alloc _).alloc _,rfl,fun k h h'=>?_,fun j k hj hk ay=>?_,fun k h=>?_⟩,.inr ZJb⟩
  .have hk:k=0:=ZKe
   subst hk;exact⟨rfl,own.nil_ _ _ _⟩
  .simp at hj hk;omega
  .have hk:k=0:=ZKe
   subst hk;exact .inl rfl
 .exact .inl ⟨ZA,.slice none 0 0,h5,World.ownsRowF_nil _ _ _ _,ZJb⟩
theorem AgV(X:World->Prop)(t w ls)(ds:Nat->Dsk)(ans:Nat->Y_)(ht:t.size<=20000)(q9:Aj 10 t=ls)(hX:∀W,B_ w W->X W)(h0:ds 0=I5)
 (re:∀k (h:k<ls.length),ls[k].size≠0->k<100->(Sv ans ls k).size<=40000->Ax7 X ls[k] (ds k) (ds (k+1)) (ans k)/\(ans k).size<=2000000000)
 (rf:∀k (h:k<ls.length),ls[k].size=0->ds (k+1)=ds k):
 C_ 6 #[.string t] w (.string (Qr ans 0 ⟨#[]⟩ ls)):=by
 have HX:=aA hX;have H0:=aA h0;have fx:=aA re;have uk:=aA rf;clear hX h0 re rf;refine' ZY4;have lg:Hid (∀W:World,Calls Tryz.prog 13 #[.string t,.string ⟨#[10]⟩] W fun e w'=>e=.returned (.slice (P_ W.heap.size) ls.length ls.length)/\own 9 W.heap.size w' (.slice (P_ W.heap.size) ls.length ls.length) ls/\Below W.heap.size W w'/\w'.heap.size=W.heap.size+1):=fun W=>by rw[<-q9];exact ZDb t 10 W ZA
 have JL:=aA (AlV w);have yd:¬(20000:Int)<(t.size:Int):=ZA
 go_enter func6,ntmps6
 refine' ZC;obtain⟨W4,hW4⟩:∃W,W=((((w.alloc (aB #[.string ⟨#[48,48,48,48,48,48,48]⟩] 9)).alloc (aB #[.string ⟨#[97]⟩,.slice none 0 0] 45)).alloc (aB #[.slice none 0 0,.int .i64 4,.int .i64 2,.slice (P_ w.heap.size) 1 1,.slice none 0 0,.slice none 0 0,.int .i64 10,.slice (some ⟨w.heap.size+1,0,none⟩) 1 1] 47)).alloc (aB #[.pointer none,.slice none 0 0] 50)):=⟨_,rfl⟩;rw[<-hW4]at JL⊢;clear hW4;obtain⟨l4,d4,u4,z4⟩:=JL.out;have sO:=lg.out W4;rw[z4]at sO;refine sO.mono ?_;rintro e w5 ⟨rfl,o5,b5,_⟩;have D5:=d4.below (by show Below _ _ _;rw[z4];exact b5);have U5:Yy w.heap.size (w.heap.size+1+1+1) ⟨#[]⟩ w5:=ZEI u4 fun k bw e' fz hc _=>b5.block k (by have:=(Array.getElem?_eq_some_iff.1 hc).1;omega)
 have l5:B_ w w5:=l4.trans (b5.mono ZA);rw[<-H0.out]at D5;have HD5:=aA D5;have HU5:=aA U5;have iu:=aA (o5.base_ (show w.heap.size<=w.heap.size+1+1+1+1 by omega));have JB:=aA l5;have fk:Hid (apart (.slice none 0 0) (.slice (some ⟨w.heap.size+1+1+1+1,0,none⟩) ls.length ls.length)):=.inl rfl;have bp:ls.length<=20001:=ZY5
 clear D5 U5 o5 b5 l5 l4 d4 u4 z4 sO lg JL q9
 refine' ZC;go_loopw[20] (fun i wr=>∃(k:Nat) (vH:Value),k<=ls.length/\i=.int .i64 k/\Hid (B_ w wr)/\Hid (Bv w.heap.size wr (w.heap.size+1+1) (ds k) vH)/\Hid (Yy w.heap.size (w.heap.size+1+1+1) (Sv ans ls k) wr)/\Hid (own 9 w.heap.size wr (.slice (some ⟨w.heap.size+1+1+1+1,0,none⟩) ls.length ls.length) ls)/\Hid (apart vH (.slice (some ⟨w.heap.size+1+1+1+1,0,none⟩) ls.length ls.length))/\Hid (Qr ans k (Sv ans ls k) (ls.drop k)=KO)/\(Sv ans ls k).size<=40000+2000000003) (fun i _=>ls.length - (intOf i).toNat)
 case atStart=>exact⟨0,.slice none 0 0,aN _,rfl,JB.out,HD5.out,HU5.out,iu.out,fk.out,DY.out,by show 0<=_;omega⟩
 case round=>
  obtain⟨k,vH,hk,rfl,HL,HD,HU,HO,fe,HQ,j6⟩:=hrel;obtain⟨W,rfl⟩:∃W:World,W=wr:=⟨_,rfl⟩;have SX:=HL.out.size;clear JB HD5 HU5 iu fk;by_cases ab:k<ls.length
  .refine' ZY6;obtain⟨o,ho⟩:∃o,Sv ans ls k=o:=⟨_,rfl⟩;rw[ho]at HU HQ j6 ye yg sE;clear ho;generalize ls[k]=x at *;by_cases he:x.size=0
   .obtain⟨e1,e2⟩:=L6 he
    have HE:=aA he;clear he
    refine' ZC;go_roundw
    case rel=>exact⟨k+1,vH,ZA,ZJ,HL.out,by rw[EA.out HE.out];exact HD.out,by show Yy _ _ _ _;rw[yg.out HE.out];exact HU.out,HO.out,fe.out,ZY7,ZY8⟩
    case measure=>exact ZK
   obtain⟨e1,e2⟩:=G7 he;by_cases VB:100<=k
   .have lv:(100:Int)<=(k:Int):=ZA
    exact ZZO
   have lv:¬(100:Int)<=(k:Int):=ZA
   refine' ZC;refine(BaI _ _ o W HU.out).mono ?_;refine' ZP;by_cases fd:40000<o.size
   .have cg:(40000:Int)<(o.size:Int):=ZA
    exact ZZO
   have cg:¬(40000:Int)<(o.size:Int):=ZA
   obtain⟨KQ,KR⟩:=ye.out he ZA ZA;have xT:=aA (KQ w.heap.size (w.heap.size+1+1) vH W (HX.out W HL.out) SX HD.out);clear KQ
   refine' ZC;refine xT.out.mono ?_;rintro e w1 ⟨rfl,qz,d1,k1,n1⟩;have qG:=aA d1;have tw:=aA (AsF HU.out HD.out k1);have mH:=aA (BcI HO.out HD.out ZE fe.out k1);have rP:=aA (Aq4 fe.out n1 HO.out);have dc:=aA (HL.out.trans (k1.toBelow ZA HD.out.lt fun j hj=>(HD.out.held.blk j hj).1));have ie:w.heap.size<=w1.heap.size:=dc.out.size;clear d1 k1 n1 y1;by_cases ha:(ans k).size=0
   .obtain⟨a1,a2⟩:=L6 ha
    have HA:=aA (Ar1 ha);exact ZZP
   .obtain⟨a1,a2⟩:=G7 ha
    have HA:=aA (AnK (show 1<=(ans k).size by omega));have VA:(ans k).size+(⟨#[10]⟩:Y_).size<=9223372036854775807:=ZHM
    exact ZZP
  .have HE:Hid (ls.drop k=[]):=dP ZA
   refine' ZC;refine(ZAU _ _ _ W HU.out SX).mono ?_;refine' zK;have ig:=aA (HL.out.trans b2);clear b2
   refine' ZI;exact⟨B8 (by rw[<-HQ.out,HE.out,Qr]),ig.out⟩
def Bb(B d:Nat)(s':Dsk)(vH:Value)(a:Y_)(w:World)(e:Ending)(w':World):Prop:=e=.returned (.string a)/\∃qz,Bv B w' d s' qz/\Kd d vH w w'/\Nu w vH qz
theorem Bb.pre{B d s' vH a w W w' e}(hb:B_ w W)(h:Bb B d s' vH a W e w'):Bb B d s' vH a w e w':=by
 obtain⟨h1,qz,h2,h3,h4⟩:=h;refine⟨h1,qz,h2,(Kd.of_below hb).trans h3,?_⟩;rcases h4 with h4|h4
 .exact .inl h4
 .exact .inr fun k hk=>aI hb.size (h4 k hk)
theorem Bb.post{B d s' vH a w w1 w' e}(h:Bb B d s' vH a w e w1)(hb:B_ w1 w'):Bb B d s' vH a w e w':=by obtain⟨h1,qz,h2,h3,h4⟩:=h;exact⟨h1,qz,h2.below hb,h3.trans (Kd.of_below hb),h4⟩
theorem Bb.of_read{B d s vH a w w' e}(hD:Bv B w d s vH)(he:e=.returned (.string a))(hb:B_ w w'):Bb B d s vH a w e w':=
 ⟨he,vH,hD.below hb,Kd.of_below hb,Nu.refl _ _⟩
theorem Av2(B d s' vH am a w)(hz:am.size<=maxLen)(ct:E5 32 am=none)
 (HC:∀W,B_ w W->Calls Tryz.prog 52 #[.pointer (P_ d),.string am] W (Bb B d s' vH a W)):
 Calls Tryz.prog 16 #[.pointer (P_ d),.string am] w (Bb B d s' vH a w):=by
 have HK:Hid (C_ 51 #[.string am,.string ⟨#[32]⟩] w (.tuple #[.string am,.string ⟨#[]⟩,.bool false])):=(Er am 32 w hz).mono fun e w' h=>by
  obtain⟨hb,⟨_,he⟩|⟨p,q,h,_⟩⟩:=h
  .exact⟨he,hb⟩
  .rw[ct]at h;cases h
 refine' ZGa;exact ZGc
theorem AxG(B d s' vH am rest a w)(hz:am.size<=maxLen)(ct:E5 32 am=some (Es,rest))
 (HC:∀W,B_ w W->Calls Tryz.prog 57 #[.pointer (P_ d),.string rest] W (Bb B d s' vH a W)):
 Calls Tryz.prog 16 #[.pointer (P_ d),.string am] w (Bb B d s' vH a w):=by
 have HK:Hid (C_ 51 #[.string am,.string ⟨#[32]⟩] w (.tuple #[.string Es,.string rest,.bool true])):=(Er am 32 w hz).mono fun e w' h=>P9
 refine' ZGa;refine' ZLj;exact ZGc
theorem AxN(B d s' vH am wd rest f a w)(hz:am.size<=maxLen)(hr:rest.size<=1000000000)(ct:E5 32 am=some (wd,rest))(hp:Aj 32 rest=[f])
 (ci:(wd.toList==[108,101,116,116,101,114,115])=false) (dh:(wd.toList==[112,108,97,110])=false) (eu:(wd.toList==[102,111,114,119,97,114,100,115])=false) (fw:(wd.toList==[110,101,116])=false)
 (HC:∀W,B_ w W->Calls Tryz.prog 58 #[.pointer (P_ d),.string wd,.string f] W (Bb B d s' vH a W)):
 Calls Tryz.prog 16 #[.pointer (P_ d),.string am] w (Bb B d s' vH a w):=by
 refine' ZGi;have kv:=aA HC;have lg:Hid (∀W:World,Calls Tryz.prog 13 #[.string rest,.string ⟨#[32]⟩] W fun e w'=>e=.returned (.slice (P_ W.heap.size) 1 1)/\own 9 W.heap.size w' (.slice (P_ W.heap.size) 1 1) [f]/\B_ W w'):=fun W=>ZGj
 refine' ZZQ;have L2:=aA l2;clear o2 b1 b2 l2
 refine' ZC;refine(kv.out _ L2.out).mono ?_;exact ZWS
theorem AxQ(B d s' vH am wd rest f g a w)(hz:am.size<=maxLen)(hr:rest.size<=1000000000)(ct:E5 32 am=some (wd,rest))(hp:Aj 32 rest=[f,g])
 (ci:(wd.toList==[108,101,116,116,101,114,115])=false) (dh:(wd.toList==[112,108,97,110])=false) (eu:(wd.toList==[102,111,114,119,97,114,100,115])=false) (fw:(wd.toList==[110,101,116])=false)
 (HC:∀W,B_ w W->Calls Tryz.prog 59 #[.pointer (P_ d),.string wd,.string f,.string g] W (Bb B d s' vH a W)):
 Calls Tryz.prog 16 #[.pointer (P_ d),.string am] w (Bb B d s' vH a w):=by
 refine' ZGi;have kv:=aA HC;have lg:Hid (∀W:World,Calls Tryz.prog 13 #[.string rest,.string ⟨#[32]⟩] W fun e w'=>e=.returned (.slice (P_ W.heap.size) 2 2)/\own 9 W.heap.size w' (.slice (P_ W.heap.size) 2 2) [f,g]/\B_ W w'):=fun W=>ZGj
 refine' ZZQ;have y1:w2.cell? ⟨w1.heap.size,1,none⟩=some (.string g):=Bx o2 1 ZF;have L2:=aA l2;clear o2 b1 b2 l2;have HQ:Hid (∀W,B_ w2 W->Calls Tryz.prog 59 #[.pointer (P_ d),.string wd,.string f,.string g] W fun e W'=>e=.returned (.string a)/\Bb B d s' vH a w e W'):=fun W hW=>
  (kv.out W (Aa L2.out hW)).mono fun e W' h=>⟨h.1,Bb.pre (Aa L2.out hW) h⟩
 have z0:=fun W (hW:B_ w2 W)=>(hW.cell (p:=⟨w1.heap.size,0,none⟩) (Az y0)).trans y0
 have z1:=fun W (hW:B_ w2 W)=>(hW.cell (p:=⟨w1.heap.size,1,none⟩) (Az y1)).trans y1
 refine' ZIe;clear y0 y1
 refine' ZC;go_still_tail 8,ZB
 change wpList _ _ _ _ _ w2.drew;generalize w2.drew=w3 at ld⊢
 refine' ZC;refine(HQ.out _ ld).mono ?_;rintro e w4 ⟨rfl,h4⟩
 refine' ZI;exact h4
def BbM(n:Int):Y_:=⟨#[32]⟩++Xa n
theorem AuG(B d s vH st c w)(hD:Bv B w d s vH)(hc:c.size<=maxLen)(hn:(Cs s.net st c).2=0\/(Cs s.net st c).2=1\/(Cs s.net st c).2=2)(hl:((Cs s.net st c).1.map (Bw s.net)).length<=1000)(hz:∀p∈(Cs s.net st c).1.map (Bw s.net),p.size<=1000)(cm:(Cb ((Cs s.net st c).1.map (Bw s.net))).size<=10000000):
 Calls Tryz.prog 156 #[.pointer (P_ d),.string st,.string c] w (Bb B d s vH (Cb ((Cs s.net st c).1.map (Bw s.net))++BbM (Cs s.net st c).2) w):=by
 refine' P0;have HR:=aA (ZCe vN s.net st c w hN.rd hc);obtain⟨n,j9⟩:∃n,(Cs s.net st c).2=n:=⟨_,rfl⟩;obtain⟨ps,ev⟩:∃ps,(Cs s.net st c).1.map (Bw s.net)=ps:=⟨_,rfl⟩;rw[j9]at HR hn⊢;rw[ev]at HR hl hz cm⊢;have HZ:=aA hz;clear hD j9 ev hN hz;refine' ZV5;refine' X3;clear o1;have HL:=aA (Hw _ ps w1 mH.out.rd ZA HZ.out)
 refine' ZC;refine HL.out.mono ?_;refine' zK;have l2:=aA (Aa b1 b2);clear b1 b2;generalize Cb ps=L at *;rcases hn with hn|hn|hn
 all_goals
  subst hn
  refine' ZI;exact Bb.of_read HD.out rfl l2.out
theorem AnH(B d s vH st w)(hD:Bv B w d s vH)(xE:0<=Gq s.net st)(hz:∀p∈n_ s.net st,p.size<=100):
 Calls Tryz.prog 150 #[.pointer (P_ d),.string st] w (Bb B d s vH (Cb ((n_ s.net st).map (·++⟨#[42]⟩))) w):=by
 refine' P0;have HNR:=aA hN.rd;have bp:=AsS s.net st;obtain⟨r,hr⟩:∃r,Gq s.net st=r:=⟨_,rfl⟩;have HO:=aA (Hx vN s.net st w hN.rd);rw[hr]at HO xE;have HF:=aA (fun W h=>BdA vN s.net st W (HNR.out.on h));obtain⟨F,hF⟩:∃F,n_ s.net st=F:=⟨_,rfl⟩;rw[hF]at HF bp hz⊢;have HZ:=aA hz;clear hD hr hF hN hz;have q7:=fun W (h:B_ w W)=>(h.cell (p:=⟨d,7,none⟩) (Az c7)).trans c7
 refine' zc;refine' ZV7;refine' ZC;refine(HF.out _ b1).mono ?_;refine' Y4;have l2:=Aa b1 b2;obtain⟨A2,n2,c2,rfl,lK,kG,nD,fh⟩:=o2.rd;subst lK;have HRF:=aA fh;unfold maxLen at nD;have ig:=aA l2;clear o2 fh b1 b2 q7 c7;have qd:own (α:=Y_) 9 w2.heap.size w2 (.slice none 0 0) ((F.take 0).map (·++⟨#[42]⟩)):=own.nil_ _ _ _
 have sK:=aA qd;have l0:=aF w2.heap.size w2;clear qd l2
 refine' ZC;go_loopw[5,22] (fun v i wr=>∃k:Nat,k<=F.length/\i=.int .i64 k/\B_ w2 wr/\own 9 w2.heap.size wr v ((F.take k).map (·++⟨#[42]⟩))) (fun _ i _=>F.length - (intOf i).toNat)
 case atStart=>exact⟨0,aN _,rfl,l0,sK.out⟩
 case round=>
  refine' Wu;refine' zd;clear l0;have kQ:=aA ho;refine' ZGq;have ru:m=k:=by rw[hm,bI,bJ];omega
  by_cases ab:k<F.length
  .obtain⟨b,o,rfl,hb,hx,y1⟩:=rdA.strU HRF.out k ab
   have y1:=y1 w3 lr;have nt:Hid ((F.take (k+1)).map (·++(⟨#[42]⟩:Y_))=(F.take k).map (·++(⟨#[42]⟩:Y_))++[F[k]++⟨#[42]⟩]):=by{show _=_;rw[aJ ab,cG];rfl};have pI:=HZ.out _ (aS ab);have HLG:Hid (((F.take k).map (·++(⟨#[42]⟩:Y_))).length=m):=hm.symm
   generalize F[k]=x at *;generalize(F.take k).map (·++(⟨#[42]⟩:Y_))=gs at *
   have bd:(k:Int)<(F.length:Int):=ZA
   refine' zQ;have fu:=lr.size;have IT:gs.length<=100000000:=by{have:=HLG.out;omega};have hx42:x.size+(⟨#[42]⟩:Y_).size<=9223372036854775807:=ZHM
   have HXS:Hid ((x++(⟨#[42]⟩:Y_)).size<=maxLen):=by{show _<=_;refine' zo;unfold maxLen;exact ZHM};clear ho hm ru
   go_wp2_with (at_builtin;refine An (α:=Y_) rfl (.tmp 26) (.tmp 29) 28 rfl w2.heap.size 9 i0 _ 16 aW hi ah ar ap rfl ZE (.slice Av m cp) gs (x++⟨#[42]⟩) rfl (kQ.out.alloc _) ⟨w3.heap.size,0,none⟩ 1 [.string (x++⟨#[42]⟩)] rfl ⟨HXS.out,rfl⟩ (Bz w3 _ [.string (x++⟨#[42]⟩)]) ZN ZA ZH ?_;refine' Zm)
   have ju:B_ w2 w4:=lr.trans ((((aF w3.heap.size w3).alloc (aC _) _).mono fu).trans (Ay (kQ.out.alloc _) a6 ZH));have jx:=aA fd;clear fd a6;go_roundw
   case rel=>exact⟨k+1,ZA,ZJ,ju,by rw[nt.out];exact jx.out⟩
   case measure=>exact ZK
  .have HE:=aA (show k=F.length by omega)
   have xC:Hid (own 9 w2.heap.size w3 (.slice Av m cp) (F.map (·++(⟨#[42]⟩:Y_)))):=by
    show own _ _ _ _ _;have:=kQ.out
    rwa [HE.out,bA]at this
   have ma:=aA (Hw _ _ w3 xC.out.rd U8 (fun p hp=>by refine' Us;have:=HZ.out x hx;exact Wp))
   clear ho hm ru
   refine' ZC;refine ma.out.mono ?_;refine' YP;have l4:=aA (Aa (Aa ig.out lr) b4)
   refine' ZI;exact Bb.of_read HD.out rfl l4.out
theorem AyT(B d s vH w)(hD:Bv B w d s vH):
 Calls Tryz.prog 52 #[.pointer (P_ d),.string Es] w (Bb B d s vH (Mx s.net) w):=by
 refine' P0;have HF:=aA (ZDs vN s.net w hN.rd);clear hD hN;refine' ZXe;have eu:(Es.toList==[115,101,113,117,101,110,99,101])=false:=ZD
 have fw:(Es.toList==[115,101,97,108])=false:=ZD
 have iq:(Es.toList==[112,108,97,110])=false:=ZD
 have jz:(Es.toList==[109,111,118,101,100])=false:=ZD
 have kB:(Es.toList==[102,111,114,119,97,114,100,115])=false:=ZD
 have lT:(Es.toList==[100,105,114,101,99,116])=false:=ZD
 have m6:(Es.toList==[101,110,100,108,101,115,115])=false:=ZD
 have pG:(Es.toList==[104,101,108,100])=false:=ZD
 have lU:(Es.toList==[100,97,121])=false:=ZD
 have oJ:(Es.toList==[116,114,97,121,115])=false:=ZD
 refine' ZLO;exact Ox
theorem ArM(B d s' vH f a w)(HC:Calls Tryz.prog 150 #[.pointer (P_ d),.string f] w (Bb B d s' vH a w)):
 Calls Tryz.prog 58 #[.pointer (P_ d),.string B5,.string f] w (Bb B d s' vH a w):=by
 refine' eK;have ci:(B5.toList==[112,97,115,115])=false:=ZD
 have dh:(B5.toList==[99,111,117,110,116])=false:=ZD
 have eu:(B5.toList==[114,97,110,107])=false:=ZD
 have fw:(B5.toList==[108,111,97,100,115])=false:=ZD
 have iq:(B5.toList==[115,116,97,121])=false:=ZD
 have jz:(B5.toList==[114,101,115,111,108,118,101])=false:=ZD
 have kB:(B5.toList==[104,111,108,100])=false:=ZD
 have lT:(B5.toList==[115,105,122,101])=false:=ZD
 have m6:(B5.toList==[102,97,116,101])=false:=ZD
 refine' ZY3;refine' YV;exact Y1
theorem AxT(B d s' vH f g a w)(HC:Calls Tryz.prog 156 #[.pointer (P_ d),.string f,.string g] w (Bb B d s' vH a w)):
 Calls Tryz.prog 59 #[.pointer (P_ d),.string Fl,.string f,.string g] w (Bb B d s' vH a w):=by
 refine' eK;have ci:(Fl.toList==[115,119,97,112])=false:=ZD
 have dh:(Fl.toList==[102,111,114,119,97,114,100])=false:=ZD
 refine' ZLc;refine' ZGd;exact Y1
def He:Y_:=⟨#[99,111,100,101]⟩
def Gn:Y_:=⟨#[98,97,114,115]⟩
def Ga:Y_:=⟨#[114,101,97,100]⟩
theorem AyA(B d s vH f a w)(hD:Bv B w d s vH)(HC:C_ 151 #[.string f] w (.string a)):
 Calls Tryz.prog 58 #[.pointer (P_ d),.string He,.string f] w (Bb B d s vH a w):=by
 refine' eK;refine' zJ;clear hD;have ci:(He.toList==[112,97,115,115])=false:=ZD
 have dh:(He.toList==[99,111,117,110,116])=false:=ZD
 have eu:(He.toList==[114,97,110,107])=false:=ZD
 have fw:(He.toList==[108,111,97,100,115])=false:=ZD
 have iq:(He.toList==[115,116,97,121])=false:=ZD
 have jz:(He.toList==[114,101,115,111,108,118,101])=false:=ZD
 have kB:(He.toList==[104,111,108,100])=false:=ZD
 have lT:(He.toList==[115,105,122,101])=false:=ZD
 have m6:(He.toList==[102,97,116,101])=false:=ZD
 have pG:(He.toList==[102,97,117,108,116,115])=false:=ZD
 refine' ZIv;exact ZIw
theorem Az6(B d s vH f a o w)(hD:Bv B w d s vH)(HC:C_ 152 #[.string f] w (.tuple #[.string a,.bool o])):
 Calls Tryz.prog 58 #[.pointer (P_ d),.string Gn,.string f] w (Bb B d s vH a w):=by
 refine' eK;refine' zJ;clear hD;have ci:(Gn.toList==[112,97,115,115])=false:=ZD
 have dh:(Gn.toList==[99,111,117,110,116])=false:=ZD
 have eu:(Gn.toList==[114,97,110,107])=false:=ZD
 have fw:(Gn.toList==[108,111,97,100,115])=false:=ZD
 have iq:(Gn.toList==[115,116,97,121])=false:=ZD
 have jz:(Gn.toList==[114,101,115,111,108,118,101])=false:=ZD
 have kB:(Gn.toList==[104,111,108,100])=false:=ZD
 have lT:(Gn.toList==[115,105,122,101])=false:=ZD
 have m6:(Gn.toList==[102,97,116,101])=false:=ZD
 have pG:(Gn.toList==[102,97,117,108,116,115])=false:=ZD
 have lU:(Gn.toList==[99,111,100,101])=false:=ZD
 refine' ZQf;exact ZIw
theorem AwM(B d s vH f a o w)(hD:Bv B w d s vH)(HC:C_ 153 #[.string f] w (.tuple #[.string a,.bool o])):
 Calls Tryz.prog 58 #[.pointer (P_ d),.string Ga,.string f] w (Bb B d s vH a w):=by
 refine' eK;refine' zJ;clear hD;have ci:(Ga.toList==[112,97,115,115])=false:=ZD
 have dh:(Ga.toList==[99,111,117,110,116])=false:=ZD
 have eu:(Ga.toList==[114,97,110,107])=false:=ZD
 have fw:(Ga.toList==[108,111,97,100,115])=false:=ZD
 have iq:(Ga.toList==[115,116,97,121])=false:=ZD
 have jz:(Ga.toList==[114,101,115,111,108,118,101])=false:=ZD
 have kB:(Ga.toList==[104,111,108,100])=false:=ZD
 have lT:(Ga.toList==[115,105,122,101])=false:=ZD
 have m6:(Ga.toList==[102,97,116,101])=false:=ZD
 have pG:(Ga.toList==[102,97,117,108,116,115])=false:=ZD
 have lU:(Ga.toList==[99,111,100,101])=false:=ZD
 have oJ:(Ga.toList==[98,97,114,115])=false:=ZD
 refine' ZQg;exact ZIw
theorem Ae6(p w):
 C_ 182 #[.agg #[.int .i64 p.area,.int .i64 p.walk,.int .i64 p.point]] w (.bool (Jk p)):=by
 refine' ZQD;have HE:Hid (Jk p=((decide (0<=p.area)&&decide (p.area<=999))&&((decide (0<=p.walk)&&decide (p.walk<=99))&&(decide (0<=p.point)&&decide (p.point<=99))))):=rfl;have H1:=aA (fun W=>D0 p.area 0 999 W);have H2:=aA (fun W=>D0 p.walk 0 99 W);have H3:=aA (fun W=>D0 p.point 0 99 W);generalize(decide (0<=p.area)&&decide (p.area<=999))=b1 at *;generalize(decide (0<=p.walk)&&decide (p.walk<=99))=b2 at *;generalize(decide (0<=p.point)&&decide (p.point<=99))=b3 at *;generalize Jk p=r at *;obtain⟨a,b,c⟩:=p;go_enter func182,ntmps182;cases b1
 case false=>
  go_wp2_with (go_at_call 167;first|refine' ZFN|((with_reducible refine(H2.out _).mono ?_);rintro e _ ⟨rfl,rfl⟩)|((with_reducible refine(H3.out _).mono ?_);rintro e _ ⟨rfl,rfl⟩))
  go_ret;exact⟨Al ZIu,HB.out⟩
 cases b2
 case false=>
  go_wp2_with (go_at_call 167;first|refine' ZFN|refine' ZIx|((with_reducible refine(H3.out _).mono ?_);rintro e _ ⟨rfl,rfl⟩))
  go_ret;exact⟨Al ZIu,HB.out⟩
 go_wp2_with (go_at_call 167;first|refine' ZFN|refine' ZIx|((with_reducible refine(H3.out _).mono ?_);refine' ZP))
 go_ret;exact⟨Al (by rw[HE.out];simp),HB.out⟩
theorem Ar9(p w)(hp:Jk p=true):
 C_ 100 #[.agg #[.int .i64 p.area,.int .i64 p.walk,.int .i64 p.point]] w (.tuple #[.string (Hf p),.bool true]):=by
 refine' ZQE;have HA:Hid (∀W:World,C_ 158 #[.int .i64 (a:Int),.int .i64 3] W (.string (Iy a 3))):=fun W=>T6 a 3 W ZA ZA
 have HB:Hid (∀W:World,C_ 158 #[.int .i64 (b:Int),.int .i64 2] W (.string (Iy b 2))):=fun W=>T6 b 2 W ZA ZA
 have HC:Hid (∀W:World,C_ 158 #[.int .i64 (c:Int),.int .i64 2] W (.string (Iy c 2))):=fun W=>T6 c 2 W ZA ZA
 refine' ZQF;have mS:=aA (Ae6 ⟨a,b,c⟩ w0);rw[HP.out]at mS;refine' Uh;go_enter func100,ntmps100
 refine' Ql;refine' ZU;have ld:=Ag b1
 refine' ZC;go_region_held3 (fun W=>B_ w0 W) (first|exact ld|exact k3|exact k2|exact k1|fail) (first|(go_at_call 158;refine' ZQG)|fail)
 all_goals exact ZQH
theorem ZBT(s w)(hd:Ea s.data.toList=true)(hz:s.size<=17):
 ya 254 #[.string s] w (.int .i64 (Fe s.data.toList:Int)):=by
 refine' Uw;go_enter func254,ntmps254
 refine' ZQJ
 .refine' Wg;by_cases ab:k<s.size
  .refine' ZQK;refine' ZIy;refine' ZQL;have w4:aD.wrap (10*(n:Int)+(b.toNat:Int))=10*(n:Int)+(b.toNat:Int):=bG _ ZA;have w5:aD.wrap (10*(n:Int)+(b.toNat:Int) - 48)=10*(n:Int)+(b.toNat:Int) - 48:=bG _ ZA;exact ZFI
  exact ZFJ
theorem Ac4(c w)(hc:Ap c=true):
 C_ 180 #[.string c] w (.tuple #[.agg #[.int .i64 (G0 c).area,.int .i64 (G0 c).walk,.int .i64 (G0 c).point],.bool true]):=by
 refine' ZQM;have H0:Hid (∀W:World,ya 254 #[.string (c.extract 0 3)] W (.int .i64 (G0 c).area)):=fun W=>ZBT _ W (hx 0 3 ZA) zL
 have H1:Hid (∀W:World,ya 254 #[.string (c.extract 3 5)] W (.int .i64 (G0 c).walk)):=fun W=>ZBT _ W (hx 3 5 ZA) zL
 have H2:Hid (∀W:World,ya 254 #[.string (c.extract 5 c.size)] W (.int .i64 (G0 c).point)):=fun W=>ZBT _ W (hx 5 c.size ZA) zL
 have js:Hid (∀W:World,ya 94 #[.string c] W (.bool true)):=fun W=>ZQh
 refine' ZQO;refine' ZQi;go_region_held3 (fun _=>True) (first|trivial|fail) (first|(go_at_call 254;refine' ZQP)|fail)
 all_goals exact ZQQ
open Go.RowKit Go.ChangeShapes Go.WideShapes
theorem AfO{H:Type}{enc:TypeId×Value->H}{P w base}{sp:Nat->Bool}{held qv}{t e:TypeId}{n cs}{zs:List Y_}{p}
 (ht:P.underlying t=some (.array n e)) (he:P.underlying e=some .string) (hce:P.cellsOf e=1) (kl:P.cellsOf t=n)
 (h:DataW.trod enc P w base sp held qv t cs=some (.agg (zs.map fun z=>.lit (.string z.data.toList)),p)):cs=zs.map aG:=by
 cases qv with
 |zero=>simp[DataW.trod]at h
 |succ qv=>
  simp only[DataW.trod,ht,hce,kl,eF]at h
  split at h
  .rename_i hl
   obtain⟨xs,hm,hx⟩:=Option.map_eq_some_iff.1 h;have qD:xs.map (·.1)=zs.map fun z=>(DataW.lit (.string z.data.toList):DataW H):=by{have:=aU Prod.fst hx;exact zV};have kw:xs.length=n:=by{simpa using Lib.mapM_length hm};have pw:zs.length=n:=by{have:=aU List.length qD;simp at this;omega};apply ZB8;intro i;by_cases hi:i<n
   .obtain⟨b,hb,hf⟩:=Lib.mapM_at hm i i (by simp[hi])
    obtain⟨z,hc,rfl,_⟩:=DataW.trod_string he hf;have h1:cs[i]? =some (.string z):=by
     have:=aU (·[0]?) hc
     simpa [ZCy,List.getElem?_drop]using this
    have h2:(xs.map (·.1))[i]? =some (DataW.lit (.string z.data.toList):DataW H):=by{simp[hb]};rw[qD]at h2;simp only[iI,Option.map_eq_some_iff,DataW.lit.injEq,Lit.string.injEq]at h2;obtain⟨z',hz',m7⟩:=h2;rw[h1,iI,hz',Option.map_some,Cv m7]
   .rw[eZ ZA,eZ ZH]
  .cases h
theorem Ai3{P W}{name:String}{zs:List Y_}{rest g}{t e:TypeId}{n}
 (hg:P.globalNamed name=some g) (hty:(P.globals[g]?).map (·.type)=some t) (ht:P.underlying t=some (.array n e)) (he:P.underlying e=some .string) (hce:P.cellsOf e=1) (kl:P.cellsOf t=n)
 (h:laidMet P ((name,.agg (zs.map fun z=>.lit (.string z.data.toList)))::rest) W):W.var? P name=some (zs.map aG).toArray:=by obtain⟨ps,⟨g',t',cs,qv,p,q,AK,PU,hvar,hd,_,_⟩,_⟩:=h;obtain rfl:=Option.some.inj (hg.symm.trans AK);obtain rfl:=Option.some.inj (hty.symm.trans PU);rw[hvar,<-AfO ht he hce kl hd]
def Kn(t:Y_):Bool:=Lib.hasPrefix t.data.toList [45]
def Mj(t:Y_):Y_:=⟨(Lib.trimPrefix t.data.toList [45]).toArray⟩
def Pu(d:Y_):Bool:=d.data.toList.head?==some 48
def x_(d:Y_)(ng:Bool):Bool:=(decide (d.size≠0)&&(decide (d.size<=17)&&Ea d.data.toList))&& !(Pu d&&(decide (1<d.size)||ng))
def N5(d:Y_)(ng:Bool):Int:=if x_ d ng then(if ng then -(Fe d.data.toList:Int)else(Fe d.data.toList:Int))else 0
def Ic(t:Y_):Bool:=x_ (Mj t) (Kn t)
def Hp(t:Y_):Int:=N5 (Mj t) (Kn t)
theorem AgG{d}(h:0<d.size):Pu d=(d[0]==48):=by
 have hl:0<d.data.toList.length:=zI
 unfold Pu;obtain⟨b,l,av⟩:∃b l,d.data.toList=b::l:=by
  cases hq:d.data.toList with
  |nil=>rw[hq]at hl;simp at hl
  |cons b l=>exact⟨b,l,rfl⟩
 have e:d[0]=d.data.toList[0]:=rfl;rw[e];simp only[av];simp
theorem ZBA{d ng}(h:x_ d ng=false):N5 d ng=0:=by unfold N5;rw[h];rfl
theorem Lp{d ng}: -100000000000000000<N5 d ng/\N5 d ng<100000000000000000:=by
 unfold N5
 split
 .rename_i h
  unfold x_ at h;refine' e_;have h1:=Jc d.data.toList.length d.data.toList h.1.2.2 rfl;have h2:d.data.toList.length<=17:=by have:=h.1.2.1;exact zV
  have h3:10^d.data.toList.length<=10^17:=gH ZE h2
  split<;>omega
 .omega
theorem Iu(t w)(ht:t.size<=maxLen):
 ya 135 #[.string t] w (.tuple #[.int .i64 (Hp t),.bool (Ic t)]):=by
 have HC:Hid (∀W:World,ya 219 #[.string t,.string ⟨#[45]⟩] W (.tuple #[.string (Mj t),.bool (Kn t)])):=fun W=>(Tryz.strings_CutPrefix t ⟨#[45]⟩ W).mono fun e w' h=>⟨h.1,h.2.symm⟩
 have tI:(Mj t).size<=maxLen:=by
  have h1:(Lib.trimPrefix t.data.toList [45]).length<=t.data.toList.length:=by
   unfold Lib.trimPrefix
   split
   .simp
   .exact iE
  have h2:t.data.toList.length=t.size:=ZF
  show(Lib.trimPrefix t.data.toList [45]).toArray.size<=_;rw[dX];omega
 unfold Hp Ic;generalize Mj t=d at *;generalize Kn t=ng at *;have HA:=aA (fun W=>AsW d W tI);have HN:=aA (fun W=>Jv d W);unfold maxLen at tI;by_cases h0:d.size=0
 .have HO:Hid (x_ d ng=false):=ZQ1
  refine' eE;obtain⟨e1,e2⟩:=L6 h0;rw[HO.out,HV.out];clear h0;refine' ZFR;refine' ZQ;exact ZW
 obtain⟨e1,e2⟩:=G7 h0;by_cases SN:17<d.size
 .have HO:Hid (x_ d ng=false):=ZI3
  refine' eE;rw[HO.out,HV.out];refine' ZFR;refine' ZQ;exact ZW
 cases jb:Ea d.data.toList
 .have HO:Hid (x_ d ng=false):=by show _=_;unfold x_;rw[jb];simp
  refine' eE;rw[HO.out,HV.out];rw[jb]at HA;clear jb;exact ZI4
 have uM:=aA (fun W=>HN.out W jb ZA);have SM:=Jc d.data.toList.length d.data.toList jb rfl;refine' ZQ2;have hn:Fe d.data.toList<=100000000000000000:=ZA
 have ah:=AgG (d:=d) ZA;have sK:Hid (x_ d ng= !(Pu d&&(decide (1<d.size)||ng))):=by show _=_;unfold x_;rw[jb,aL (show d.size≠0 from h0),aL (show d.size<=17 by omega)];simp
 have xO:Hid (N5 d ng=if x_ d ng then(if ng then -(Fe d.data.toList:Int)else(Fe d.data.toList:Int))else 0):=rfl;rw[jb]at HA;generalize Fe d.data.toList=n at *;clear jb SM h3 HN;have tQ:0<d.size:=ZA
 obtain⟨b,pn⟩:∃b,d[0]=b:=⟨_,rfl⟩;rw[pn]at ah;generalize Pu d=zb at *;generalize x_ d ng=ok at *;generalize N5 d ng=vv at *;refine' ZQ3;by_cases hb:b=48
 .subst hb
  have HZ:Hid (zb=true):=by show _=_;rw[ah];rfl
  clear ah;by_cases h1:1<d.size
  .have HO:Hid (ok=false):=by show _=_;rw[sK.out,HZ.out,aL h1];rfl
   have HV:Hid (vv=0):=Qg
   rw[HO.out,HV.out];exact ZI4
  .cases ng
   .have HO:Hid (ok=true):=by{show _=_;rw[sK.out,HZ.out,aP h1];rfl};have HV:Hid (vv=(n:Int)):=Qg
    exact ZI5
   .have HO:Hid (ok=false):=by{show _=_;rw[sK.out,HZ.out];simp};have HV:Hid (vv=0):=Qg
    rw[HO.out,HV.out];exact ZI4
 .have UN:((b.toNat:Int)==48)=false:=beq_eq_false_iff_ne.2 fun h=>hb (UInt8.toNat_inj.1 (by show b.toNat=48;omega))
  have HZ:Hid (zb=false):=by show _=_;rw[ah];exact beq_eq_false_iff_ne.2 hb
  have HO:Hid (ok=true):=by show _=_;rw[sK.out,HZ.out];rfl
  clear ah hb;cases ng
  .have HV:Hid (vv=(n:Int)):=Qg
   exact ZI5
  .have HV:Hid (vv= -(n:Int)):=Qg
   exact ZI5
def Am(t:Y_):Int:=if Ic t then Hp t else -1
theorem Fg(t w)(ht:t.size<=maxLen):
 ya 140 #[.string t] w (.int .i64 (Am t)):=by
 have HN:=aA (fun W=>Iu t W ht);have HF:Hid (Am t=if Ic t then Hp t else -1):=rfl;generalize Hp t=n at *;generalize Am t=r at *;cases h:Ic t
 .rw[h]at HN HF
  rw[show r= -1 from HF.out];exact ZQ4
 .rw[h]at HN HF
  rw[show r=n from HF.out];exact ZQ4
theorem Tryz.infoLt:(Tryz.prog.info? 119).map (fun i=>(i.zero,i.size,i.bytes))=some (some (.agg #[.int .i64 0,.string ⟨#[]⟩]),2,24):=ZB
def Ll(x:Y_):Option Ltr:=match E5 58 x with
 |some (p,q)=>if Ic p then some ⟨Hp p,q⟩else none
 |none=>none
def M1(ps:List Y_):Bool:=ps.all fun x=>(Ll x).isSome
def J7(ps:List Y_):List Ltr:=ps.filterMap Ll
def Yu(t:Y_):Bool:=M1 (Aj 32 t)&&decide ((Aj 32 t).length<=60)
def J5(t:Y_):Bool:=Yu t&&zU (Co (J7 (Aj 32 t))) t
def Mv(t:Y_):Bool:=zU t ⟨#[45]⟩||J5 t
def t_(t:Y_):List Ltr:=if zU t ⟨#[45]⟩then []else if J5 t then J7 (Aj 32 t)else []
theorem Ao3{x}(h:E5 58 x=none):Ll x=none:=by unfold Ll;rw[h]
theorem Av8{x p q}(h:E5 58 x=some (p,q))(hn:Ic p=false):Ll x=none:=by unfold Ll;rw[h];simp[hn]
theorem AfQ{x p q}(h:E5 58 x=some (p,q))(hn:Ic p=true):Ll x=some ⟨Hp p,q⟩:=by unfold Ll;rw[h];simp[hn]
theorem AjT:∀ps:List Y_,M1 ps=true->(J7 ps).length=ps.length
 |[],_=>rfl
 |x::ps,h=>by unfold M1 at h;refine' Uc;unfold J7;refine' Qf;show(J7 ps).length+1=_;rw[AjT ps h.2];rfl
theorem ArK{ps x y}(h:Ll x=some y):J7 (ps++[x])=J7 ps++[y]:=by unfold J7;rw[List.filterMap_append];simp[h]
theorem AeT(ps x):M1 (ps++[x])=(M1 ps&&(Ll x).isSome):=by unfold M1;rw[eH];simp
theorem Al2(ps){x}(h:Ll x=none):M1 (ps++[x])=false:=by rw[AeT,h];simp
theorem AmS{ps qs}(h:ps<+:qs)(hf:M1 ps=false):M1 qs=false:=by obtain⟨r,rfl⟩:=h;unfold M1 at *;rw[eH,hf];rfl
def pbI(h:Nat)(w0:World)(B:Nat)(pre:List Y_)(W:World):Prop:=
 (∃v,Boxed W (h+1+1) 27 v/\own 119 B W v (J7 pre))/\B<=W.heap.size/\M1 pre=true/\pre.length<=60/\Boxed W h 27 (.slice none 0 0)/\Boxed W (h+1) 4 (.bool false)/\Below h w0 W
def pbX(h:Nat)(w0:World)(pre:List Y_)(W:World):Prop:=
 (M1 pre=false\/60<pre.length)/\Boxed W h 27 (.slice none 0 0)/\Boxed W (h+1) 4 (.bool false)/\Below h w0 W
theorem AuI{h B z w0}(hz:h+1+1<z)(vu:z<B)(hs:h<=w0.heap.size):Pw B z (pbI h w0 B):=ZI6
theorem Au9{h B z w0}(hz:h+1+1<z)(vu:z<B)(hs:h<=w0.heap.size):Pw B z (pbX h w0):=ZFS
theorem Ae5(t w)(ht:t.size<=maxLen)(hX:I4 w):
 Calls Tryz.prog 54 #[.string t] w fun e w'=>∃v',e=.returned (.tuple #[v',.bool (Mv t)])/\own 119 w.heap.size w' v' (t_ t)/\B_ w w':=by
 have BN:=aA hX;clear hX;refine' ZFT;refine callsIn_of_wp_marks func54 rfl trivial ?_ rfl;simp only[ntmps54,dX,dA,cT,Nat.reduceAdd,Nat.reduceSub,gC,gD,iL,gM,bT,cK];by_cases cv:zU t ⟨#[45]⟩=true
 .refine' ZQ5;refine' ZFU;gi_wp2
  refine⟨.tuple #[.slice none 0 0,.bool true],by simp[results,results54,go_sem],_,by rw[HO.out],Qe,?_⟩;exact ZI7
 .refine' ZFV;have HO:Hid (Mv t=J5 t):=by show _=_;unfold Mv;rw[fC]at cv;rw[cv];rfl
  have HR:Hid (t_ t=if J5 t then J7 (Aj 32 t)else []):=by show _=_;unfold t_;rw[aM cv]
  clear cv;have HS:=fun W=>Kh t 32 W
  have b0:=((Boxed.new w 27 (.slice none 0 0)).alloc (aB #[.bool false] 4)).alloc (aB #[.slice none 0 0] 27);have b1:=(Boxed.new (w.alloc (aB #[.slice none 0 0] 27)) 4 (.bool false)).alloc (aB #[.slice none 0 0] 27);have b2:=Boxed.new ((w.alloc (aB #[.slice none 0 0] 27)).alloc (aB #[.bool false] 4)) 27 (.slice none 0 0);have l3:B_ w (((w.alloc (aB #[.slice none 0 0] 27)).alloc (aB #[.bool false] 4)).alloc (aB #[.slice none 0 0] 27)):=(((aF _ w).alloc (aC _) _).alloc ZF _).alloc ZH _;refine' ZFW;have fu:(((w.alloc (aB #[.slice none 0 0] 27)).alloc (aB #[.bool false] 4)).alloc (aB #[.slice none 0 0] 27)).heap.size=w.heap.size+1+1+1:=ZF
  generalize(((w.alloc (aB #[.slice none 0 0] 27)).alloc (aB #[.bool false] 4)).alloc (aB #[.slice none 0 0] 27))=w3 at *;rw[fu]at az BX;have x0:Boxed w6 (w.heap.size) 27 (.slice none 0 0):=(mM.block _ ZA).trans B0.out;refine' ZFX;have x2:Boxed w6 (w.heap.size+1+1) 27 (.slice none 0 0):=(mM.block _ ZA).trans B2.out;refine' ZFY;obtain⟨i0,hi,xt,km,lI⟩:=dD Tryz.infoLt;refine Pz (F:=Fence.wide) (n:=9) rfl ZA (gf:=286) (lb:=#[.pointer (some ⟨w.heap.size+1+1+1+1,0,none⟩),.pointer (some ⟨w.heap.size+1+1+1,0,none⟩),.pointer (some ⟨w.heap.size+1+1+1+2,0,none⟩)]) rfl trivial (iF func286 ZB rfl)
   (ZAc 8 (w.heap.size+1+1+1) ZA 32 t w6 az ht) (fun k hk=>zZ) ZA (fun _=>rfl)
   (pbI w.heap.size w w6.heap.size) (pbX w.heap.size w) (AuI ZA ZA (aC _)) (Au9 ZA ZA (aC _))
   ⟨⟨_,x2,own.nil_ _ _ _⟩,aC _,rfl,aN _,x0,x1,l6⟩
   (fun x=>{tmps:=#[.string t,undef,.pointer (P_ w.heap.size),.pointer (some ⟨w.heap.size+1,0,none⟩),.pointer (some ⟨w.heap.size+1+1,0,none⟩),.string x,undef,undef,undef,undef,undef,.string t,.bool false,.string t,.func (.func 286) #[] #[.pointer (some ⟨w.heap.size+1+1+1+1,0,none⟩),.pointer (some ⟨w.heap.size+1+1+1,0,none⟩),.pointer (some ⟨w.heap.size+1+1+1+2,0,none⟩)],.string x,undef,undef,undef,undef,undef,undef,undef,undef,undef,undef,undef,undef,undef,undef,undef,undef,undef,undef,undef,undef,undef,undef,undef,undef,undef,undef,undef,undef,undef,undef,undef,undef,undef],defers:=[]}) ?assign ?body ?done ?stop
  case assign=> exact ZFZ
  case body=>
   refine' ZQ6;have HC:=Er x 58 W hx;refine' ZFa;rcases jc:E5 58 x with _|⟨p,q⟩
   .have pK:Calls Tryz.prog 51 #[.string x,.string ⟨#[58]⟩] W fun e w'=>B_ W w'/\e=.returned (.tuple #[.string x,.string ⟨#[]⟩,.bool false]):=HC.mono fun e w' h=>ZI8
    have HP:Hid (M1 (pre++[x])=false):=Al2 pre (Ao3 jc);have HN:=aA (fun V=>Iu x V hx);generalize Ic x=nok at *;generalize Hp x=nv at *;clear HC jc y0 y1 hv ho
    gi_wp2_with (first|(refine' ZFb;refine' ZFc)|refine' ZFd)
    exact ZI9
   .have pK:Calls Tryz.prog 51 #[.string x,.string ⟨#[58]⟩] W fun e w'=>B_ W w'/\e=.returned (.tuple #[.string p,.string q,.bool true]):=HC.mono fun e w' h=>ZJA
    have sI:=Ki jc;have HN:=aA (fun V=>Iu p V ZA);cases mq:Ic p
    .have HP:Hid (M1 (pre++[x])=false):=Al2 pre (Av8 jc mq)
     rw[mq]at HN;generalize Hp p=nv at *;clear HC jc y0 y1 hv ho mq
     gi_wp2_with (first|(refine' ZFb;refine' ZFc)|refine' ZFd)
     exact ZI9
    .have uU:=AfQ jc mq
     have hnb:=Lp (d:=Mj p) (ng:=Kn p);rw[show N5 (Mj p) (Kn p)=Hp p from rfl]at hnb;rw[mq]at HN;generalize Hp p=nv at *;have HP:=aA uU;have bz:=AjT pre da;obtain⟨A,m,cp,rfl,hm,_,_,_⟩:=ho.rd;clear HC jc uU y0 y1 hv ho mq;by_cases rV:m=60
     .have sJ:((m:Int)==60)=true:=ZFe
      have HL:Hid (60<(pre++[x]).length):=by{show _<_;refine' fH;show 60<pre.length+1;omega};clear rV hm bz sI
      gi_wp2_with (first|(refine' Wc;refine' ZFf)|refine' ZFd)
      exact ZFg
     .have sJ:((m:Int)==60)=false:=beq_eq_false_iff_ne.2 ZA
      have LF:(J7 pre).length<=59:=ZA
      have mg:Hid (pre.length<=59):=Zi
      have HY:Hid (Ltr.ok ⟨nv,q⟩):=⟨by show Bj nv;exact ZS,by show q.size<=_;omega⟩;clear rV hm bz sI hnb
      gi_wp2_with (first|refine' ZJB|refine' ZFd|(gi_at_builtin;refine ZDS (α:=Ltr) rfl (.tmp 38) (.tmp 42) 27 rfl w6.heap.size 119 i0 _ 24 aV hi xt km lI rfl ZE (.slice A m cp) (J7 pre) ⟨nv,q⟩ rfl (o2.alloc _) ⟨W2.heap.size,0,none⟩ 1 (Ltr.cells ⟨nv,q⟩) rfl ⟨HY.out,rfl⟩ (Bz W2 _ (Ltr.cells ⟨nv,q⟩)) ZN ZA ZH ?_;refine' ZJC))
      refine' ZJD;have vy:KeepsOthers W (w5.setCell ⟨w.heap.size+1+1,0,none⟩ (.slice A5 n5 c5)):=(((Cr hb).trans (KeepsOthers.alloc W2 _)).trans (KeepsOthers.of_grownBy aj fun j o ej hj=>by obtain⟨o',h1,h2⟩:=Hn (o2.alloc (aB #[.int .i64 nv,.string q] 119)) ej;exact ZFh)).trans (KeepsOthers.setCell _ _ _)
      refine⟨vy,fun k hk=>p9 k zZ zZ,⟨_,u2.set _,?_⟩,?_,?_,?_,?_,?_,?_⟩
      .rw[ArK HP.out]
       exact ZJE
      exact ZFi
      .rw[AeT,da,HP.out];rfl
      .have:=mg.out;refine' fH;show pre.length+1<=60;omega
      exact ZFj
      exact ZFk;exact ZJF
  case done=>
   refine' ZJG;have i8:J5 t=zU (Co (J7 (Aj 32 t))) t:=by{unfold J5 Yu;exact ZFl};refine' ZFm;have HV:=F7 (.slice A m cp) (J7 (Aj 32 t)) W ho.rd (BN.out.on hB);have i7:=Du (J7 (Aj 32 t));refine' ZFn;obtain⟨F,NR⟩:∃F,Co (J7 (Aj 32 t))=F:=⟨_,rfl⟩;rw[NR]at HV i8 i7;clear NR;cases jv:zU F t
   .rw[jv]at i8
    have kg:=aA i8;have hq:(F.toList==t.toList)=false:=ZQ7
    refine' ZQ8;refine' ZFo;exact ZQ9
   .rw[jv]at i8
    have kg:=aA i8;have hq:(F.toList==t.toList)=true:=ZQ7
    refine' ZQ8;refine' ZJH;refine⟨.tuple #[.slice A m cp,.bool true],ZRA,_,Ub,ZJI,oD⟩
  case stop=>
   refine' ZFp;have i8:J5 t=false:=by
    unfold J5 Yu;rcases ao with h|h
    .rw[AmS lV h];rfl
    exact ZFq
   refine' ZFr;exact ZQ9
theorem Tryz.infoFo:(Tryz.prog.info? 128).map (fun i=>(i.zero,i.size,i.bytes))=some (some (.agg #[.string ⟨#[]⟩,.string ⟨#[]⟩]),2,32):=ZB
def Ks(t:Y_):Bool:=Ko (Aj 32 t)&&decide ((Aj 32 t).length<=30)&&Be (Fx (Aj 32 t))
def Tf(t:Y_):Bool:=zU t ⟨#[45]⟩||Ks t
def kS(t:Y_):List Fwd:=if zU t ⟨#[45]⟩then []else if Ks t then Fx (Aj 32 t)else []
def pfI(h:Nat)(w0:World)(B:Nat)(pre:List Y_)(W:World):Prop:=
 (∃v,Boxed W (h+1+1) 31 v/\own 128 B W v (Fx pre))/\B<=W.heap.size/\Ko pre=true/\pre.length<=30/\Boxed W h 31 (.slice none 0 0)/\Boxed W (h+1) 4 (.bool false)/\Below h w0 W
def pfX(h:Nat)(w0:World)(pre:List Y_)(W:World):Prop:=
 (Ko pre=false\/30<pre.length)/\Boxed W h 31 (.slice none 0 0)/\Boxed W (h+1) 4 (.bool false)/\Below h w0 W
theorem AuC{h B z w0}(hz:h+1+1<z)(vu:z<B)(hs:h<=w0.heap.size):Pw B z (pfI h w0 B):=ZI6
theorem AvZ{h B z w0}(hz:h+1+1<z)(vu:z<B)(hs:h<=w0.heap.size):Pw B z (pfX h w0):=ZFS
theorem ZCN(t w)(ht:t.size<=maxLen):
 Calls Tryz.prog 137 #[.string t] w fun e w'=>∃v',e=.returned (.tuple #[v',.bool (Tf t)])/\own 128 w.heap.size w' v' (kS t)/\B_ w w':=by
 refine' ZFT;refine callsIn_of_wp_marks func137 rfl trivial ?_ rfl;simp only[ntmps137,dX,dA,cT,Nat.reduceAdd,Nat.reduceSub,gC,gD,iL,gM,bT,cK];by_cases cv:zU t ⟨#[45]⟩=true
 .refine' ZRB;refine' ZFU;gi_wp2
  refine⟨.tuple #[.slice none 0 0,.bool true],by simp[results,results137,go_sem],_,by rw[HO.out],Qe,?_⟩;exact ZI7
 .refine' ZFV;have HO:Hid (Tf t=Ks t):=by show _=_;unfold Tf;rw[fC]at cv;rw[cv];rfl
  have HR:Hid (kS t=if Ks t then Fx (Aj 32 t)else []):=by show _=_;unfold kS;rw[aM cv]
  clear cv;have HS:=fun W=>Kh t 32 W
  have b0:=((Boxed.new w 31 (.slice none 0 0)).alloc (aB #[.bool false] 4)).alloc (aB #[.slice none 0 0] 31);have b1:=(Boxed.new (w.alloc (aB #[.slice none 0 0] 31)) 4 (.bool false)).alloc (aB #[.slice none 0 0] 31);have b2:=Boxed.new ((w.alloc (aB #[.slice none 0 0] 31)).alloc (aB #[.bool false] 4)) 31 (.slice none 0 0);have l3:B_ w (((w.alloc (aB #[.slice none 0 0] 31)).alloc (aB #[.bool false] 4)).alloc (aB #[.slice none 0 0] 31)):=(((aF _ w).alloc (aC _) _).alloc ZF _).alloc ZH _;refine' ZFW;have fu:(((w.alloc (aB #[.slice none 0 0] 31)).alloc (aB #[.bool false] 4)).alloc (aB #[.slice none 0 0] 31)).heap.size=w.heap.size+1+1+1:=ZF
  generalize(((w.alloc (aB #[.slice none 0 0] 31)).alloc (aB #[.bool false] 4)).alloc (aB #[.slice none 0 0] 31))=w3 at *;rw[fu]at az BX;have x0:Boxed w6 (w.heap.size) 31 (.slice none 0 0):=(mM.block _ ZA).trans B0.out;refine' ZFX;have x2:Boxed w6 (w.heap.size+1+1) 31 (.slice none 0 0):=(mM.block _ ZA).trans B2.out;refine' ZFY;obtain⟨i0,hi,xt,km,lI⟩:=dD Tryz.infoFo;refine Pz (F:=Fence.wide) (n:=9) rfl ZA (gf:=286) (lb:=#[.pointer (some ⟨w.heap.size+1+1+1+1,0,none⟩),.pointer (some ⟨w.heap.size+1+1+1,0,none⟩),.pointer (some ⟨w.heap.size+1+1+1+2,0,none⟩)]) rfl trivial (iF func286 ZB rfl)
   (ZAc 8 (w.heap.size+1+1+1) ZA 32 t w6 az ht) (fun k hk=>zZ) ZA (fun _=>rfl)
   (pfI w.heap.size w w6.heap.size) (pfX w.heap.size w) (AuC ZA ZA (aC _)) (AvZ ZA ZA (aC _))
   ⟨⟨_,x2,own.nil_ _ _ _⟩,aC _,rfl,aN _,x0,x1,l6⟩
   (fun x=>{tmps:=#[.string t,undef,.pointer (P_ w.heap.size),.pointer (some ⟨w.heap.size+1,0,none⟩),.pointer (some ⟨w.heap.size+1+1,0,none⟩),.string x,undef,undef,undef,.string t,.bool false,.string t,.func (.func 286) #[] #[.pointer (some ⟨w.heap.size+1+1+1+1,0,none⟩),.pointer (some ⟨w.heap.size+1+1+1,0,none⟩),.pointer (some ⟨w.heap.size+1+1+1+2,0,none⟩)],.string x,undef,undef,undef,undef,undef,undef,undef,undef,undef,undef,undef,undef,undef,undef,undef,undef,undef,undef,undef,undef,undef,undef,undef],defers:=[]}) ?assign ?body ?done ?stop
  case assign=> exact ZFZ
  case body=>
   refine' ZRC
   .refine' ZRD;by_cases rV:m=30
    .have sJ:((m:Int)==30)=true:=ZFe
     have HL:Hid (30<(pre++[x]).length):=by{show _<_;refine' fH;show 30<pre.length+1;omega};clear rV hm bz sI
     gi_wp2_with (refine' Wc;refine' ZFf)
     exact ZFg
    .have sJ:((m:Int)==30)=false:=beq_eq_false_iff_ne.2 ZA
     have LF:(Fx pre).length<=29:=ZA
     have mg:Hid (pre.length<=29):=Zi
     refine' ZRE;gi_wp2_with (first|refine' ZJB|(gi_at_builtin;refine ZDS (α:=Fwd) rfl (.tmp 27) (.tmp 31) 31 rfl w6.heap.size 128 i0 _ 32 dY hi xt km lI rfl ZE (.slice A m cp) (Fx pre) ⟨p,q⟩ rfl (o2.alloc _) ⟨W2.heap.size,0,none⟩ 1 (Fwd.cells ⟨p,q⟩) rfl ⟨HY.out,rfl⟩ (Bz W2 _ (Fwd.cells ⟨p,q⟩)) ZN ZA ZH ?_;refine' ZJC))
     refine' ZJD;have vy:KeepsOthers W (w5.setCell ⟨w.heap.size+1+1,0,none⟩ (.slice A5 n5 c5)):=(((Cr hb).trans (KeepsOthers.alloc W2 _)).trans (KeepsOthers.of_grownBy aj fun j o ej hj=>by obtain⟨o',h1,h2⟩:=Hn (o2.alloc (aB #[.string p,.string q] 128)) ej;exact ZFh)).trans (KeepsOthers.setCell _ _ _)
     refine⟨vy,fun k hk=>p9 k zZ zZ,⟨_,u2.set _,?_⟩,?_,?_,?_,?_,?_,?_⟩
     .rw[ZDP HP.out]
      exact ZJE
     exact ZFi
     .rw[ZDU,da,HP.out];rfl
     .have:=mg.out;refine' fH;show pre.length+1<=30;omega
     exact ZFj
     exact ZFk;exact ZJF
  case done=>
   refine' ZJG;have i8:Ks t=Be (Fx (Aj 32 t)):=by{unfold Ks;exact ZFl};refine' ZFm;have HV:=Dj (.slice A m cp) (Fx (Aj 32 t)) W ho.rd;refine' ZFn;cases jv:Be (Fx (Aj 32 t))
   .refine' U_;gi_wp2_with (refine' YT;gi_at_call 204;refine' X8)
    refine' ZFo;exact ZRF
   .refine' U_;gi_wp2_with (refine' YT;gi_at_call 204;refine' X8)
    refine' ZJH;refine⟨.tuple #[.slice A m cp,.bool true],ZRG,_,Ub,ZJI,oD⟩
  case stop=>
   refine' ZFp;have i8:Ks t=false:=by
    unfold Ks;rcases ao with h|h
    .rw[P8 lV h];rfl
    exact ZFq
   refine' ZFr;exact ZRF
def C5(fs:List Fwd):Y_:=if Be fs=true then(if fs.length=0 then⟨#[45]⟩else Cg (fs.map Ek) y7)else⟨#[]⟩
theorem Ag2{fs}(h:Be fs=false):C5 fs=⟨#[]⟩:=by unfold C5;rw[h];rfl
theorem AhO{fs}(h:Be fs=true)(h0:fs.length=0):C5 fs=⟨#[45]⟩:=by unfold C5;rw[aQ h,aQ h0]
theorem Pe{fs}(h:Be fs=true)(h0:fs.length≠0):C5 fs=Cg (fs.map Ek) y7:=by unfold C5;rw[aQ h,aM h0]
theorem AcQ{s}(h:Ap s=true):s.size=7:=by unfold Ap at h;rw[aO,dI]at h;exact h.1
theorem AbF{fs}(h:Be fs=true){k}(hk:k<fs.length):fs[k].src.size<=7/\1<=fs[k].dst.size/\fs[k].dst.size<=8:=by have h1:=(Ch.1 h).2 k hk;have c1:=AcQ h1.1;have c2:=AcQ h1.2.1;omega
theorem Zt{fs}(h:Be fs=true):∀p∈fs.map Ek,p.size<=16/\1<=p.size:=fun p hp=>by refine' Us;refine' eY;have h1:=AbF h hk;unfold Ek;refine' Rg;show _+1+_<=16/\1<=_+1+_;omega
theorem ZAV(v rs w)(hv:R_ w v rs):
 C_ 125 #[v] w (.string (C5 rs)):=by
 refine' eN;refine' zc;refine' zk;go_enter func125,ntmps125
 refine' ZC;refine(Dj _ rs _ HV.out).mono ?_;refine' ZE8;refine' ZRH;by_cases h0:rs.length=0
 .have HF:=aA (AhO ag h0)
  exact ZP7
 have HF:=aA (Pe ag h0);refine' ZP8
 .refine' ZFA;by_cases ab:k<rs.length
  .refine' Qo;refine' ZFB;have DK:=aA (AbF d9.out ab);have mY:(rs.map Ek)[k]' za=Ek rs[k]:=ZF
   have me:=aA (Zt d9.out (Ek rs[k]) (List.mem_map.2 ⟨_,aS ab,rfl⟩));refine' ZP9;have lb:B_ w2 (w2.alloc (aB #[.string p,.string q] 128)):=(aF _ _).alloc (aC _) _;exact ZQA
  .refine' ZQB;have ni:=Dw (rs.map Ek) y7 16 fun p hp=>(Zt d9.out p hp).1
   rw[cn.out]at ni;have ol:rs.length*(16+y7.size)<=30*17:=bY lh (aC _);exact ZId
def E7(p:Pln):Y_:=if Bq p=true then Cl p.bins.toNat++⟨#[32]⟩++Cl p.passes.toNat++⟨#[32]⟩++Cg p.order y7 else⟨#[]⟩
theorem AhB{p}(h:Bq p=false):E7 p=⟨#[]⟩:=by unfold E7;rw[h];rfl
theorem Ov{p}(h:Bq p=true):E7 p=Cl p.bins.toNat++⟨#[32]⟩++Cl p.passes.toNat++⟨#[32]⟩++Cg p.order y7:=by unfold E7;rw[aQ h]
theorem AvY{p}(h:Bq p=true):∀c∈p.order,Ap c=true:=fun c hc=>by obtain⟨k,hk,rfl⟩:=bP hc;have h1:=List.all_eq_true.1 (show(List.range p.order.length).all (Yr p.order)=true from(De.1 h).2.2.2) k zP;rw[U9 hk,aO]at h1;exact h1.1
theorem Af6{p}(h:Bq p=true):(Cg p.order y7).size<=480:=by
 have h1:=Dw p.order y7 7 fun c hc=>eS (Cp (AvY h c hc)).1
 have h2:=(De.1 h).2.1.2;have h3:p.order.length*(7+y7.size)<=60*8:=bY h2 (aC _);omega
theorem ZCJ(v p w)(hv:rdP w w.heap.size v p)(ht:I4 w):
 C_ 123 #[v] w (.string (E7 p)):=by
 refine' ZRI;have mS:=aA (Fq _ p w0 (hv.on j5));refine' ZRJ;have BN:=aA ht;refine' Uh;refine' ZJJ;clear j5 br hv ht;go_enter func123,ntmps123
 refine' Ql;cases hp:Bq p
 .refine' ZU;have HF:=aA (AhB hp);refine' ZFs;clear hp b1
  refine' ZI;exact⟨B8 HF.out.symm,dc.out⟩
 .refine' ZJK;have HF:=aA (Ov hp);obtain⟨⟨x1,x2,x3,x4⟩,⟨x5,x6⟩,_⟩:=De.1 hp;have ni:=Af6 hp;have HJ:Hid (∀W,B_ w1 W->C_ 196 #[.slice A p.order.length c,.string ⟨#[32]⟩] W (.string (Cg p.order y7))):=fun W hW=>AtC (sep:=y7) (sP.out W (Aa dc.out hW)) ZA ZA ZA
  obtain⟨bi,pa,od⟩:=p;simp only at x1 x2 x3 x4 ni HJ q0 q1 q2 bv ga HF⊢;refine' ZRK;have EV:Hid (∀W,B_ w1 W->C_ 195 #[.int .i64 (bi:Int)] W (.string (Cl bi))):=fun W hW=>Jn bi W ZA (BN.out.on (Aa dc.out hW))
  have IN:Hid (∀W,B_ w1 W->C_ 195 #[.int .i64 (pa:Int)] W (.string (Cl pa))):=fun W hW=>Jn pa W ZA (BN.out.on (Aa dc.out hW))
  refine' ZRL;have uB:Hid (E7 ⟨(bi:Int),(pa:Int),od⟩=Cl bi++⟨#[32]⟩++Cl pa++⟨#[32]⟩++Cg od y7):=HF.out;clear HF;generalize Cl bi=B1 at *;generalize Cl pa=B2 at *;generalize Cg od y7=J at *;refine' ZRM;have a3:¬9223372036854775807<B1.size+1+B2.size+1:=ZA
  have a4:¬9223372036854775807<B1.size+1+B2.size+1+J.size:=ZA
  refine' ZFt;clear hp b1 q0 q1 q2 x1 x2 x3 x4 x5 x6;refine' ZRN;clear bv c0 c1 c2
  refine' ZC;go_region_held3 (fun W=>B_ w1 W) (first|exact ld|exact k3|exact k2|exact k1|fail) (first|(go_at_call 195;first|((with_reducible refine(EV.out _ (by first|exact ld|exact k1|exact k2)).mono ?_);refine' Zy;have k1:=Aa ld z1)|((with_reducible refine(IN.out _ Qa).mono ?_);refine' gY;have k2:=Aa k1 z2)|fail)|(go_at_call 196;first|((with_reducible refine(HJ.out _ ZJL).mono ?_);refine' gX;have k3:=Aa k2 z3)|fail)|fail)
  all_goals
   have K3:=aA (Aa dc.out k3);clear k1 k2 k3 z1 z2 z3 ld
   refine' ZI;exact⟨B8 uB.out.symm,K3.out⟩
theorem Tryz.sizePlK:(Tryz.prog.info? 30).map (·.size)=some 3:=ZB
def I8(t:Y_):Pln:=⟨Hp ((Aj 32 t).getD 0 ⟨#[]⟩),Hp ((Aj 32 t).getD 1 ⟨#[]⟩),(Aj 32 t).drop 2⟩
def Ge(t:Y_):Bool:=(decide (3<=(Aj 32 t).length)&&decide ((Aj 32 t).length<=62))&&((Ic ((Aj 32 t).getD 0 ⟨#[]⟩)&&Ic ((Aj 32 t).getD 1 ⟨#[]⟩))&&Bq (I8 t))
def Ey(t:Y_):Pln:=if Ge t then I8 t else⟨0,0,[]⟩
theorem ZEC{t}(h:Ge t=false):Ey t=⟨0,0,[]⟩:=by unfold Ey;rw[h];rfl
theorem AhP{t}(h:Ge t=true):Ey t=I8 t:=by unfold Ey;rw[aQ h]
theorem Ag0(v)(xs:List Y_)(w)(hv:R_ w v xs)(hl:xs.length<=1048576):
 Calls Tryz.prog 222 #[v] w fun e w'=>∃v',e=.returned v'/\own 9 w.heap.size w' v' xs/\B_ w w':=by
 refine' Yf;refine' zl;subst hn;clear hr;refine' zc;refine' ZPj;go_enter func222,ntmps222
 go_wp2_with (refine ZCl (α:=Y_) (o:=⟨some 9,_,_,_,_,_⟩) rfl (.tmp 7) (.tmp 8) 28 28 rfl w.heap.size w.heap.size 9 i0 aW hi ar ZE (bF #[aG ⟨#[]⟩] xs.length) (.slice A xs.length c) xs _ (fg.out.on ((aF _ _).alloc (aC _) _)) rfl rfl (bC w _) iG (aC _) ZN ?_;intro w1 iy ey)
 exact ZNl
theorem AgA(t w)(ht:t.size<=1000000):
 Calls Tryz.prog 136 #[.string t] w fun e w'=>∃vo,e=.returned (.tuple #[.agg #[.int .i64 (Ey t).bins,.int .i64 (Ey t).passes,vo],.bool (Ge t)])/\own 9 w.heap.size w' vo (Ey t).order/\B_ w w':=by
 have ca:Hid (¬(3<=(Aj 32 t).length/\(Aj 32 t).length<=62)\/Ic ((Aj 32 t).getD 0 ⟨#[]⟩)=false\/Ic ((Aj 32 t).getD 1 ⟨#[]⟩)=false\/Bq (I8 t)=false->Ge t=false):=fun h=>by
  unfold Ge;rcases h with h|h|h|h
  .by_cases h1:3<=(Aj 32 t).length
   .rw[aP (show¬(Aj 32 t).length<=62 by omega)];simp
   .rw[aP h1];simp
  .rw[h];simp
  .rw[h];simp
  .rw[h];simp
 have mE:Hid (3<=(Aj 32 t).length->(Aj 32 t).length<=62->Ic ((Aj 32 t).getD 0 ⟨#[]⟩)=true->Ic ((Aj 32 t).getD 1 ⟨#[]⟩)=true->Bq (I8 t)=true->Ge t=true):=fun h1 h2 h3 h4 h5=>by unfold Ge;rw[aL h1,aL h2,h3,h4,h5];rfl
 refine' ZRO;have lg:Hid (∀W:World,Calls Tryz.prog 13 #[.string t,.string ⟨#[32]⟩] W fun e w'=>e=.returned (.slice (P_ W.heap.size) (Aj 32 t).length (Aj 32 t).length)/\own 9 W.heap.size w' (.slice (P_ W.heap.size) (Aj 32 t).length (Aj 32 t).length) (Aj 32 t)/\B_ W w'):=fun W=>(ZDb t 32 W ZA).mono fun e w' h=>⟨h.1,h.2.1,h.2.2.1⟩
 refine' ZRP;refine' ZRQ;clear ae;go_enter func136,ntmps136
 refine' Zx;have sO:=lg.out wA;rw[j4]at sO;refine sO.mono ?_;clear sO;rintro e w1 ⟨rfl,o1,b1⟩;refine' ZRR;clear ml LN b1;by_cases h3:3<=ps.length
 case neg=>
  have LO:(ps.length:Int)<3:=ZA
  have HQ:Hid (Ge t=false):=ca.out (.inl fun h=>h3 h.1);refine' Q_;clear o1
  exact QN
 by_cases h62:ps.length<=62
 case neg=>
  refine' ZJM;have VZ:(62:Int)<(ps.length:Int):=ZA
  have HQ:Hid (Ge t=false):=ca.out (.inl fun h=>h62 h.2);refine' Q_;clear o1
  exact QN
 refine' ZJM;have VZ:¬(62:Int)<(ps.length:Int):=ZA
 refine' ZRS;rw[g0,g1]at ca mE qt;refine' ZRT;have sP:=aA (o1.rd.drop (k:=2) ZA);refine' ZRU;have tj:=aA (fun W=>Iu p0 W z0);have qW:=aA (fun W=>Iu p1 W z1);refine' ZRV;clear g0 g1 z0 z1 ut o1;have WA:(1:Int)<(ps.length:Int):=ZA
 cases fp:Ic p0
 .rw[fp]at tj
  refine' ZFu;have HQ:Hid (Ge t=false):=ca.out (.inr (.inl fp));refine' Q_;clear fp
  exact QN
 cases lv:Ic p1
 .rw[lv]at qW;rw[fp]at tj
  refine' ZFu;have HQ:Hid (Ge t=false):=ca.out (.inr (.inr (.inl lv)));refine' Q_;clear fp lv
  exact QN
 rw[fp]at tj;rw[lv]at qW;have TQ:Hid (Bq (I8 t)=true->Ge t=true):=mE.out h3 h62 fp lv;clear mE fp lv
 refine' ZFu;refine' ZFt;have h2c:¬ps.length=2:=ZA
 rw[aM ZA]at sP;have HCT:Hid (∀W,B_ w1 W->Calls Tryz.prog 222 #[.slice (some ⟨w.heap.size+1,2,none⟩) (ps.length - 2) (ps.length - 2)] W fun e w'=>∃v',e=.returned v'/\own 9 W.heap.size w' v' (ps.drop 2)/\B_ W w'):=fun W hW=>Ag0 _ (ps.drop 2) W (sP.out.on hW) (by rw[dV];omega)
 refine' ZC;refine(HCT.out _ ZRW).mono ?_;rintro e u1 ⟨v2,rfl,o2,z2⟩;have k1:B_ w1 u1:=Aa ZRW z2;have LQ:=(k1.block w.heap.size ZA).trans bv;have WB:=mF.trans (k1.mono ZA);have hzu:=k1.size;have WC:own 9 w1.heap.size u1 v2 (ps.drop 2):=o2;obtain⟨A2,n2,c2,rfl,lK, -, -, -⟩:=o2.rd;rw[dV]at lK;subst lK;have HP:Hid (rdP (u1.alloc (aB #[.int .i64 v0,.int .i64 v1,.slice A2 (ps.length - 2) c2] 30)) (u1.alloc (aB #[.int .i64 v0,.int .i64 v1,.slice A2 (ps.length - 2) c2] 30)).heap.size (.agg #[.int .i64 v0,.int .i64 v1,.slice A2 (ps.length - 2) c2]) (I8 t)):=by show rdP _ _ _ _;rw[qt.out];exact⟨_,rfl,(show Bj v0 by exact ZS),(show Bj v1 by exact ZS),(WC.alloc _).rd⟩
 obtain⟨u2,rx⟩:∃u,u=u1.alloc (aB #[.int .i64 v0,.int .i64 v1,.slice A2 (ps.length - 2) c2] 30):=⟨_,rfl⟩;have sF:u2.heap[u1.heap.size]? =some (.cells #[.int .i64 v0,.int .i64 v1,.slice A2 (ps.length - 2) c2] 30 (0,0)):=by rw[rx];exact bC u1 _
 refine' ZRX;have vz:B_ w u2:=by rw[rx];exact WB.alloc WB.size _
 have ap:u2.heap.size=u1.heap.size+1:=by rw[rx];simp
 have kn:own 9 w1.heap.size u2 (.slice A2 (ps.length - 2) c2) (ps.drop 2):=by rw[rx];exact WC.alloc _
 rw[<-rx]at HP;have yy:=aA rx;clear rx;have mS:=aA (Fq _ _ u2 HP.out);have im:=aA kn;clear o2 WC LQ WB k1 z2 kn bv mF ld sP;obtain⟨c0,c1,pL,f0,f1,f2⟩:=B7 sF
 refine' ZC;rw[<-yy.out];refine mS.out.mono ?_;cases jp:Bq (I8 t)
 .refine' zB;refine' ZFv;refine' ZFw;clear c0 c1 pL f0 f1 f2;have HQ:Hid (Ge t=false):=ca.out (.inr (.inr (.inr jp)));refine' ZJN;refine' ZFx;clear jp
  exact QN
 .refine' zB;refine' ZFv;have yi:=(b3.block u1.heap.size ZA).trans sF;refine' ZFw;have HQ:=aA (TQ.out jp);have HR:=aA (AhP HQ.out);have ez:=aA (im.out.below b3);clear c0 c1 pL f0 f1 f2 jp;obtain⟨c0,c1,pL,f0,f1,f2⟩:=B7 yi;refine' ZFx;clear mn yi xz dq vz sF b3
  refine' Q9;refine⟨.slice A2 (ps.length - 2) c2,ZRY,?_,Ai (Ai (Ai mU.out (aC _) _) (aC _) _) (aC _) _⟩;rw[HR.out,qt.out];exact(Bd (Bd (Bd ez.out ⟨w.heap.size,0,none⟩ _ ZJO) ⟨w.heap.size,1,none⟩ _ ZJO) ⟨w.heap.size,2,none⟩ _ ZJO).base_ ZA
def Lk(d:Nat)(x:Ltr):Int:=(((x.code.data.toList.getD d 48).toNat - 48:Nat):Int)
def Jo(xs:List Ltr)(dg:Int):Bool:=z_ xs&&(decide (0<=dg)&&decide (dg<7))
def Q4(xs:List Ltr)(dg:Int):List (List Ltr):=if Jo xs dg then Bm (Lk dg.toNat) 10 xs else []
theorem AcE{xs dg}(h:Jo xs dg=false):Q4 xs dg=[]:=by unfold Q4;rw[h];rfl
theorem BaT{xs dg}(h:Jo xs dg=true):Q4 xs dg=Bm (Lk dg.toNat) 10 xs:=by unfold Q4;rw[aQ h]
theorem ZAl{x d}(h:Ap x.code=true)(hd:d<7):∃hz:d<x.code.size,48<=(x.code[d]).toNat/\(x.code[d]).toNat<=57/\Lk d x=(((x.code[d]).toNat - 48:Nat):Int):=by
 obtain⟨h7,hm⟩:=Cp h;have hz:d<x.code.size:=ZA
 have hl:d<x.code.data.toList.length:=by simpa using hz
 have e:x.code[d]=x.code.data.toList[d]:=rfl;have hb:=hm _ (aS hl);refine⟨hz,by rw[e];exact hb.1,by rw[e];exact hb.2,?_⟩;unfold Lk;rw[bH,aR hl,e];rfl
theorem AlP(vb xs dg w)(hb:R_ w vb xs):
 Calls Tryz.prog 224 #[vb,.int .i64 dg] w fun e w'=>∃vB vs,e=.returned (.tuple #[vB,.bool (Jo xs dg)])/\Fi 27 119 w.heap.size w' vB (Q4 xs dg) vs/\B_ w w':=by
 have HV:=aA hb;refine' X7;refine' ZHz;have ca:Hid (z_ xs=false\/dg<0\/7<=dg->Jo xs dg=false):=fun h=>by
  unfold Jo;rcases h with h|h|h
  .rw[h];rfl
  .rw[aP (show¬0<=dg by omega)];simp
  .rw[aP (show¬dg<7 by omega)];simp
 refine' ZRZ;go_enter func224,ntmps224
 refine' ZIc;cases ag:z_ xs
 .rintro e w0 ⟨rfl,l0⟩
  have HQ:=aA (ca.out (.inl ag));exact ZJP
 rintro e w0 ⟨rfl,l0⟩;by_cases tQ:dg<0
 .have HQ:=aA (ca.out (.inr (.inl tQ)))
  exact ZJP
 by_cases RK:7<=dg
 .have HQ:=aA (ca.out (.inr (.inr RK)))
  exact ZJP
 obtain⟨dd,rfl⟩:=aK (show 0<=dg by omega);have jb:dd<7:=ZA
 have mE:Hid (Jo xs (dd:Int)=true):=by show _=_;unfold Jo;rw[ag,aL (show(0:Int)<=(dd:Int) by omega),aL (show(dd:Int)<7 by omega)];rfl
 have rJ:Hid (Q4 xs (dd:Int)=Bm (Lk dd) 10 xs):=BaT mE.out;refine' ZRa;rw[<-lN.out]at rJ HF;have NF:=aF w0.heap.size w0
 refine' ZRb;have kO:=aA l0;clear l0 NF
 go_loopw[24] (fun i wr=>∃(k:Nat) (vs:List Value),k<=xs.length/\i=.int .i64 k/\B_ w0 wr/\Fi 27 119 w0.heap.size wr (.slice (P_ G) 10 10) (Bm f 10 (xs.take k)) vs) (fun i _=>xs.length - (intOf i).toNat)
 case atStart=> refine⟨0,pY,aN _,rfl,lz,?_⟩;exact Rv
 case round=>
  refine' ZHh;clear lz lL hB;have ie:=lr.size;by_cases ab:k<xs.length
  .refine' ZRc;have qi:=c1 w1 (Aa kO.out lr);have pL:=c2 w1 (Aa kO.out lr);clear c1 c2;refine' ZNh;have x0:=Af de 0 (.int .i64 x.id) rfl wl (aF _ _);have x1:=Af de 1 (.string x.code) rfl wl (aF _ _);have CE:=(Aw de).1;have ll:=Aa lr CE;have qE:w1.heap.size<wl.heap.size:=(Aw de).2;have ep:=aA (HB.out.below CE);have yc:=aA de;clear de CE;obtain⟨fm,df,gy⟩:∃fm:d<vs.length,own 119 w0.heap.size wl vs[d] (Bm f 10 (xs.take k))[d]/\apart vs[d] (.slice (P_ G) 10 10):=ZJQ
   have kF:wl.cell? ⟨G,d,none⟩=some vs[d]:=Ff ep.out.1 d fm;have tP:wl.frozen? ⟨G,d,none⟩=false:=ep.out.1.freeAt d;refine' ZRd;have ky:G<wl.heap.size:=(ep.out.1.blk G rfl).2;have w1':IntKind.wrap .u8 ((bb.toNat:Int) - 48)=(d:Int):=Uo
   have NG:aD.wrap (d:Int)=(d:Int):=bG _ ZA;refine' ZRe;rw[<-yc.out]
   go_region_law (go_loud ((refine Ce (α:=Ltr) ZG (.tmp 39) (.tmp 41) 27 ZG w0.heap.size 119 i1 _ 24 aV ji dr du dw rfl ZE (.slice Au zs.length cu) zs x ZG ((jW.out.alloc _).drew) ⟨wl.heap.size,0,none⟩ 1 (Ltr.cells x) ZG ⟨⟨fq,fj⟩,rfl⟩ (Ft wl _ (Ltr.cells x)) ZN ZA ZH ?_;refine' Rp)))
   all_goals have gi:B_ wl (wl.alloc (aB #[aH aD x.id,aG x.code] 119)).drew:=Ag (Ae (aF _ _) _);refine' ZRf;have p4:=Ex (G:=G) (d:=d) (g:=g) (m:=zs.length+1) (cap:=cap) (Ag (Ae ll (aB #[aH aD x.id,aG x.code] 119))) a6 (fun j hj=>(jW.out.blk j hj).1) nT;exact ZRg
  .refine' YO;refine' ZQ;have hB:=HB.out;refine' ZE3;exact⟨_,vs,by rw[mE.out];rfl,by rw[rJ.out];exact hB.base_ kO.out.size,Aa kO.out lr⟩
def pg(xs:List Ltr)(dg:Int):List Ltr:=if Jo xs dg then(Bm (Lk dg.toNat) 10 xs).flatten else []
theorem AxR{xs dg}(h:Jo xs dg=false):pg xs dg=[]:=by unfold pg;rw[h];rfl
theorem AmT{xs dg}(h:Jo xs dg=true):pg xs dg=(Bm (Lk dg.toNat) 10 xs).flatten:=by unfold pg;rw[aQ h]
theorem AmM{xs dg}(h:Jo xs dg=true):z_ xs=true/\0<=dg/\dg<7:=by unfold Jo at h;refine' e_;exact⟨h.1,h.2.1,h.2.2⟩
theorem AsN{xs dg}(h:Jo xs dg=true):En (Q4 xs dg)=true/\collected (Q4 xs dg)=pg xs dg:=by
 have hc:En (Q4 xs dg)=true:=by unfold En;rw[BaT h,Hz,Lq _ _ (AmM h).1];rfl
 exact⟨hc,by rw[ZAt hc,AmT h,BaT h]⟩
theorem BcB{xs dg}(h:Jo xs dg=true):z_ (pg xs dg)=true:=by rw[AmT h];exact Lq _ _ (AmM h).1
theorem Aj5(vb xs dg w)(hb:R_ w vb xs):
 Calls Tryz.prog 139 #[vb,.int .i64 dg] w fun e w'=>∃v',e=.returned (.tuple #[v',.bool (Jo xs dg)])/\own 119 w.heap.size w' v' (pg xs dg)/\B_ w w':=by
 have HB:=aA (AlP vb xs dg w hb);refine' X7;clear hr hn hc px;go_enter func139,ntmps139
 refine' ZC;refine HB.out.mono ?_;cases hk:Jo xs dg
 .rintro e w1 ⟨vB,vs,rfl,hL,b1⟩
  have dc:=aA b1;have HS:=aA (AxR hk);refine' gV;clear hL b1 hk
  refine' ZQ;exact⟨.slice none 0 0,by rw[HK.out];rfl,by rw[HS.out];exact zj,dc.out⟩
 .rintro e w1 ⟨vB,vs,rfl,hL,b1⟩
  have dc:=aA b1;obtain⟨c1,c2⟩:=AsN hk;have HC:=aA (AcP vB (Q4 xs dg) w1 (Fu.rd ⟨_,hL⟩));rw[c1,c2]at HC;refine' gV;clear c1 c2 hL b1 hk
  refine' ZFy;refine' Y4;have im:=aA (o2.base_ dc.out.size);have ig:=aA (Aa dc.out b2);refine' ZJR;clear o2 b2
  refine' ZQ;exact⟨_,by rw[HK.out];rfl,im.out,ig.out⟩
def G1(n:Int):Y_:=if n= -1 then⟨#[]⟩else⟨(Lib.itoa n).toArray⟩
theorem Ai9(n w)(hn:Bj n)(ht:I4 w):
 C_ 195 #[.int .i64 n] w (.string ⟨(Lib.itoa n).toArray⟩):=by refine(Tryz.strconv_Itoa n hn.1 hn.2 w ht).mono ?_;rintro e w' ⟨rfl,k,os,rfl⟩;exact⟨rfl,AfT w k os⟩
theorem Jg(n w)(hn:Bj n)(ht:I4 w):
 C_ 120 #[.int .i64 n] w (.string (G1 n)):=by
 have HI:=aA (fun W h=>Ai9 n W hn (ht.on (w':=W) h));by_cases h1:n= -1
 .subst h1
  go_enter func120,ntmps120
  refine' ZI;exact zv
 .have hq:(n== -1)=false:=beq_eq_false_iff_ne.2 h1
  have HT:Hid (G1 n=⟨(Lib.itoa n).toArray⟩):=by show _=_;unfold G1;rw[aM h1]
  clear h1 hn;go_enter func120,ntmps120
  refine' ZC;refine(HI.out _ (aF _ _)).mono ?_;refine' ZU;refine' ZI;exact⟨B8 HT.out.symm,b1⟩
instance:Inhabited Ltr:=⟨⟨0,⟨#[]⟩⟩⟩
instance:Inhabited Fwd:=⟨⟨⟨#[]⟩,⟨#[]⟩⟩⟩
theorem ZBb:∀a:List UInt8,Lib.compareBytes a a=0
 |[]=>rfl
 |a::p=>by
  unfold Lib.compareBytes;have:¬a<a:=by rw[fA];omega
  rw[aM this,aM this];exact ZBb p
theorem AjF:∀a b c:List UInt8,Lib.compareBytes a b<0->Lib.compareBytes b c<0->Lib.compareBytes a c<0
 |[],[],_,h,_=>Wa
 |[],_::_,[],_,h=>Wa
 |[],_::_,_::_,_,_=>ZKd
 |_::_,[],_,h,_=>Wa
 |_::_,_::_,[],_,h=>Wa
 |a::p,b::q,c::r,h1,h2=>by
  refine' ZVO;split at h1
  .split at h2
   .rw[aQ ZA];omega
   .split at h2
    .omega
    .rw[aQ ZA];omega
  .split at h1
   .omega
   .split at h2
    .rw[aQ ZA];omega
    .split at h2
     .omega
     .refine' ZGU;exact AjF p q r h1 h2
theorem AeS:∀a b c:List UInt8,¬Lib.compareBytes a b<0->¬Lib.compareBytes b c<0->¬Lib.compareBytes a c<0
 |[],[],c,_,h=>h
 |[],_::_,_,h,_=>Wa
 |_::_,[],[],_,_=>ZKd
 |_::_,[],_::_,_,h=>Wa
 |_::_,_::_,[],_,_=>ZKd
 |a::p,b::q,c::r,h1,h2=>by
  refine' ZVO;split at h1
  .exact absurd ZA h1
  .split at h2
   .exact absurd ZA h2
   .rw[aM ZA]
    split
    .omega
    .rw[aM ZA]at h1
     rw[aM ZA]at h2;exact AeS p q r h1 h2
theorem An3{α:Type}(f:α->Y_):Sort.SWO (ltOf fun x y:α=>Lib.compareBytes (f x).data.toList (f y).data.toList) where
 irrefl x:=by unfold ltOf;show decide (Lib.compareBytes _ _<0)=false;rw[ZBb];rfl
 trans x y z h1 h2:=by unfold ltOf at *;exact aL (AjF _ _ _ (ZAf h1) (ZAf h2))
 ntrans x y z h1 h2:=by unfold ltOf at *;exact aP (AeS _ _ _ (iD h1) (iD h2))
theorem AhI{α:Type}[Inhabited α]{d d':Array α}(h:Sort.PermIn 0 d.size d d'):d'.toList.Perm d.toList:=by
 obtain⟨h1,_,h3⟩:=h;have e1:d.extract 0 d.size=d:=Array.extract_size;have e2:d'.extract 0 d.size=d':=by rw[<-h1];exact Array.extract_size
 rwa [e1,e2]at h3
theorem AkP{α:Type}[Inhabited α](enc:α->List Value)(hk:∀x,(enc x).length=2):∀(xs:List α) (t:Nat),t<xs.length*2->(xs.flatMap enc)[t]? =(enc (xs.getD (t/2) default))[t%2]?
 |[],t,h=>by simp at h
 |x::xs,0,_=>ZVP
 |x::xs,1,_=>ZVP
 |x::xs,t+2,h=>by have hx:=hk x;rw[ZDW,List.getElem?_append_right ZA,hx,Nat.add_sub_cancel,AkP enc hk xs t ZKe];rw[show(t+2)/2=t/2+1 by omega,show(t+2)%2=t%2 by omega];rfl
theorem Ra{α:Type}(enc:α->List Value)(hk:∀x,(enc x).length=2):∀xs:List α,(xs.flatMap enc).length=xs.length*2
 |[]=>rfl
 |x::xs=>by rw[ZDW,aT,hk,Ra enc hk xs];exact ZH
theorem H_{α:Type}[Inhabited α](enc:α->List Value)(hk:∀x,(enc x).length=2)(d):Sort.flatK enc 2 d=(d.toList.flatMap enc).toArray:=by
 apply Array.ext
 .rw[Sort.size_flatK]
  simp[Ra enc hk]
 .intro t h1 h2
  rw[Sort.size_flatK]at h1;have h3:=Sort.get_flatK enc 2 d t h1;rw[fR _ t (by rw[Sort.size_flatK];exact h1)]at h3;rw[h3];have h4:=AkP enc hk d.toList t Xu;have h5:(d.toList.flatMap enc)[t]? =some (d.toList.flatMap enc)[t]:=aR (by rw[Ra enc hk];exact Xu);rw[h5]at h4;have ab:t/2<d.size:=ZA
  have e:d.toList.getD (t/2) default=d[t/2]! :=by rw[fR d (t/2) ab];simp[ab]
  rw[e]at h4;have h6:t%2<(enc d[t/2]!).length:=by rw[hk];omega
  rw[aR h6]at h4;injection h4 with h4;rw[fR (enc d[t/2]!) (t%2) h6,<-h4];simp
theorem ZAS{a b c:World}{row}(h:a.grownBy b row)(k:b.grownBy c row):a.grownBy c row:=
 ⟨k.os.trans h.os,k.tape.trans h.tape,k.output.trans h.output,aI h.size k.size,fun i hi ay=>(k.block i (bR hi h.size) ay).trans (h.block i hi ay)⟩
theorem Al4{α:Type}[Flat α]{T base:Nat}{w v}{xs:List α}(h:own T base w v xs)(os):own T base (Go.Sort.grow w os) v xs:=
 h.keepBlk fun k hk=>ZRx
theorem ArP{T base g n c:Nat}{w}{xs:List Fwd}(h:own T base w (.slice (P_ g) n c) xs){k}(hk:k<xs.length)(y)(hy:y.ok):
 own T base ((w.setCell ⟨g,k*2,none⟩ (.string y.src)).setCell ⟨g,k*2+1,none⟩ (.string y.dst)) (.slice (P_ g) n c) (xs.set k y):=by
 have h1:=h.setCell (k:=k) (j:=0) hk ZE (.string y.src) ⟨y.src,xs[k].dst⟩ (fun ecs he=>ZSR)
 have h2:=h1.setCell (k:=k) (j:=1) zP ZE (.string y.dst) y (fun ecs he=>by obtain⟨_,rfl⟩:=he;refine⟨hy,?_⟩;simp[Fwd.cells])
 rw[List.set_set]at h2;exact h2
theorem AsR{α:Type}(xs:List α)(k)(y:α)(ys)(hk:k+(ys.length+1)<=xs.length):(xs.set k y).take (k+1)++ys++(xs.set k y).drop (k+1+ys.length)=xs.take k++y::ys++xs.drop (k+(ys.length+1)):=ZRw
theorem ApC{T base g n c:Nat}:∀(ys:List Ltr) (k:Nat) (w:World) (xs:List Ltr),(∀y∈ys,y.ok)->k+ys.length<=xs.length->own T base w (.slice (P_ g) n c) xs->
 own T base (w.setCells g (k*2) (ys.flatMap Ltr.cells)) (.slice (P_ g) n c) (xs.take k++ys++xs.drop (k+ys.length))/\w.grownBy (w.setCells g (k*2) (ys.flatMap Ltr.cells)) (some g)
 |[],k,w,xs,_,_,h=>ZJc
 |y::ys,k,w,xs,hy,hl,h=>by
  refine' ZF1;have h1:=Ar6 h (k:=k) ZA y (hy y ZF);obtain⟨h2,h3⟩:=ApC ys (k+1) _ (xs.set k y) (fun z hz=>hy z (by simp[hz])) ZF2 h1;rw[AsR xs k y ys hl]at h2;have e:w.setCells g (k*2) ((y::ys).flatMap Ltr.cells)=((w.setCell ⟨g,k*2,none⟩ (.int .i64 y.id)).setCell ⟨g,k*2+1,none⟩ (.string y.code)).setCells g ((k+1)*2) (ys.flatMap Ltr.cells):=ZVQ
  exact ZVR
theorem Ap2{T base g n c:Nat}:∀(ys:List Fwd) (k:Nat) (w:World) (xs:List Fwd),(∀y∈ys,y.ok)->k+ys.length<=xs.length->own T base w (.slice (P_ g) n c) xs->
 own T base (w.setCells g (k*2) (ys.flatMap Fwd.cells)) (.slice (P_ g) n c) (xs.take k++ys++xs.drop (k+ys.length))/\w.grownBy (w.setCells g (k*2) (ys.flatMap Fwd.cells)) (some g)
 |[],k,w,xs,_,_,h=>ZJc
 |y::ys,k,w,xs,hy,hl,h=>by
  refine' ZF1;have h1:=ArP h (k:=k) ZA y (hy y ZF);obtain⟨h2,h3⟩:=Ap2 ys (k+1) _ (xs.set k y) (fun z hz=>hy z (by simp[hz])) ZF2 h1;rw[AsR xs k y ys hl]at h2;have e:w.setCells g (k*2) ((y::ys).flatMap Fwd.cells)=((w.setCell ⟨g,k*2,none⟩ (.string y.src)).setCell ⟨g,k*2+1,none⟩ (.string y.dst)).setCells g ((k+1)*2) (ys.flatMap Fwd.cells):=ZVQ
  exact ZVR
theorem AfS{T base g n c:Nat}{w xs}(h:own T base w (.slice (P_ g) n c) xs):Sort.HoldsK Ltr.cells 2 w g 0 xs.toArray:=by refine' ZVS;obtain⟨_,c1,c2⟩:=AtM h (t/2) ab;exact ZVT
theorem AqC{T base g n c:Nat}{w}{xs:List Fwd}(h:own T base w (.slice (P_ g) n c) xs)(k)(hk:k<xs.length):xs[k].ok/\w.cell? ⟨g,k*2,none⟩=some (.string xs[k].src)/\w.cell? ⟨g,k*2+1,none⟩=some (.string xs[k].dst):=by obtain⟨A',n',c',hv,_,_,_,hr⟩:=h.rd;injection hv with e1 _ _;subst e1;obtain⟨b,o,hA,_,ag,c1,c2⟩:=hr.fwd k hk;refine' eX;rw[bV]at c1 c2;exact⟨ag,c1,c2⟩
theorem Af9{T base g n c:Nat}{w xs}(h:own T base w (.slice (P_ g) n c) xs):Sort.HoldsK Fwd.cells 2 w g 0 xs.toArray:=by refine' ZVS;obtain⟨_,c1,c2⟩:=AqC h (t/2) ab;exact ZVT
theorem Ao4{T base g n c q:Nat}{w xs d' os}(h:own T base w (.slice (P_ g) n c) xs)(hp:d'.toList.Perm xs):
 own T base (sortWorldK Ltr.cells 2 w g 0 q d' os) (.slice (P_ g) n c) d'.toList/\w.grownBy (sortWorldK Ltr.cells 2 w g 0 q d' os) (some g):=by
 have hH:=AfS h;have hl:=hp.length_eq;have e1:sortWorldK Ltr.cells 2 w g 0 q d' os=Sort.grow ((w.drewN q).setCells g 0 (d'.toList.flatMap Ltr.cells)) os:=by unfold sortWorldK Sort.putRowK;rw[H_ Ltr.cells (fun _=>rfl) d',Lib.sorted_world id w g 0 q (Sort.flatK Ltr.cells 2 xs.toArray) (d'.toList.flatMap Ltr.cells) os hH ZVU];simp
 refine' ZJd;have ag:∀y∈d'.toList,y.ok:=fun y hy=>by obtain⟨k,hk,rfl⟩:=bP (hp.mem_iff.1 hy);exact(AtM h k hk).1
 obtain⟨h2,h3⟩:=ApC d'.toList 0 (w.drewN q) xs ag ZA (h.below bq);exact ZVV
theorem ApP{T base g n c q:Nat}{w xs d' os}(h:own T base w (.slice (P_ g) n c) xs)(hp:d'.toList.Perm xs):
 own T base (sortWorldK Fwd.cells 2 w g 0 q d' os) (.slice (P_ g) n c) d'.toList/\w.grownBy (sortWorldK Fwd.cells 2 w g 0 q d' os) (some g):=by
 have hH:=Af9 h;have hl:=hp.length_eq;have e1:sortWorldK Fwd.cells 2 w g 0 q d' os=Sort.grow ((w.drewN q).setCells g 0 (d'.toList.flatMap Fwd.cells)) os:=by unfold sortWorldK Sort.putRowK;rw[H_ Fwd.cells (fun _=>rfl) d',Lib.sorted_world id w g 0 q (Sort.flatK Fwd.cells 2 xs.toArray) (d'.toList.flatMap Fwd.cells) os hH ZVU];simp
 refine' ZJd;have ag:∀y∈d'.toList,y.ok:=fun y hy=>by obtain⟨k,hk,rfl⟩:=bP (hp.mem_iff.1 hy);exact(AqC h k hk).1
 obtain⟨h2,h3⟩:=Ap2 d'.toList 0 (w.drewN q) xs ag ZA (h.below bq);exact ZVV
end Go.Proofs.YtfadhdacjpmmeaaGreatDoor
namespace Go.Proofs
open Go.Proofs.YtfadhdacjpmmeaaGreatDoor
open Go.Shelf
def Tryz.laysIns_ren:Go.Shelf.Ren:=⟨fun|20=>314|n=>n,fun|24=>119|22=>27|3=>3|25=>207|4=>4|0=>0|n=>n,fun|n=>n⟩
theorem Tryz.laysIns:Go.Proofs.SlLaysF0.n20 Tryz.prog Tryz.laysIns_ren:={
 mixed:=ZB
 f20:=⟨Tryz.f314.name,ZE,func314.trans (aU some ZB)⟩
 t0:=ZB2
 a0:=ZD5
 z0:=AtK
 v0:=AhQ
 t3:=AqT
 a3:=ZB3
 z3:=ZDZ
 v3:=ZBH
 t4:=ZCP
 a4:=ZDK
 z4:=ZD1
 v4:=ZBc
 t22:=aV
 a22:=isAgg27
 z22:=sizeOf27
 v22:=zeroValue27
 t25:=underlying207
 a25:=isAgg207
 z25:=sizeOf207
 v25:=zeroValue207}
end Go.Proofs
namespace Go.Proofs.YtfadhdacjpmmeaaGreatDoor
open Go.RowKit
theorem Bc3(x y:Ltr)(W):Calls Tryz.prog 199 #[.agg #[.int .i64 x.id,.string x.code],.agg #[.int .i64 y.id,.string y.code]] W fun e w'=>e=.returned (.int .i64 (Lib.compareBytes x.code.data.toList y.code.data.toList))/\∃q IS,w'=Sort.grow (W.drewN q) IS:=by
 have sG:=fun W'=>Tryz.strings_Compare x.code y.code W'
 change∀W',Calls Tryz.prog 200 _ _ _ at sG;generalize Lib.compareBytes x.code.data.toList y.code.data.toList=r at sG⊢;go_enter func199,ntmps199
 exact ZRh
theorem AxF:J1 0=[]:=by rw[J1]
theorem Ag5:∀n,0<n->∃(b:UInt8) (l:List UInt8),J1 n=b::l/\49<=b.toNat:=fun n=>by
 induction n using Nat.strongRecOn with
 |_ n ih=>
  intro h;rw[I2 h];by_cases h0:n/10=0
  .refine⟨_,[],by rw[h0,AxF];rfl,?_⟩
   have:n<10:=ZA
   rw[iC];omega
  .obtain⟨b,l,e,hb⟩:=ih (n/10) ZA ZA
   exact⟨b,l++[_],by rw[e];rfl,hb⟩
theorem ArH:∀n,Fe (J1 n)=n:=fun n=>by
 induction n using Nat.strongRecOn with
 |_ n ih=>
  by_cases h:n=0
  .subst h;rw[AxF];rfl
  .rw[I2 ZA,Il,ih (n/10) ZA,iC]
   omega
theorem AzZ{l}(h:∀b∈l,48<=b.toNat/\b.toNat<=57):Ea l=true:=by
 unfold Ea;refine List.all_eq_true.2 fun b hb=>?_
 have:=h b hb;exact Yn
theorem AfV{n}(h:n<=9999):Ic (Cl n)=true/\Hp (Cl n)=(n:Int):=by
 have hz:=C9 h;have hd:Ea (Cl n).data.toList=true:=AzZ (AoP n);have hN:Fe (Cl n).data.toList=n:=by
  show Fe (Pg n)=n;unfold Pg
  split
  .rename_i h0;subst h0;rfl
  .exact ArH n
 have hh:∃(b:UInt8) (l:List UInt8),(Cl n).data.toList=b::l/\48<=b.toNat/\(b.toNat=48->l=[]):=by
  show∃(b:UInt8) (l:List UInt8),Pg n=b::l/\48<=b.toNat/\(b.toNat=48->l=[]);unfold Pg
  split
  .exact⟨48,[],rfl,ZE,fun _=>rfl⟩
  .obtain⟨b,l,e,hb⟩:=Ag5 n ZA
   exact⟨b,l,e,ZA,fun h=>ZA⟩
 obtain⟨b,l,e,hb,dq⟩:=hh;have sQ:Kn (Cl n)=false:=by
  unfold Kn Lib.hasPrefix;rw[e];have:(45==b)=false:=beq_eq_false_iff_ne.2 fun h=>by rw[<-h]at hb;exact absurd hb ZE
  simp[List.isPrefixOf,this]
 have pX:Mj (Cl n)=Cl n:=by unfold Mj Lib.trimPrefix;have h2:Lib.hasPrefix (Cl n).data.toList [45]=false:=sQ;rw[aM (by rw[h2];simp)]
 have ag:x_ (Cl n) false=true:=by
  unfold x_;rw[aL (show(Cl n).size≠0 by omega),aL (show(Cl n).size<=17 by omega),hd];have h1:(Pu (Cl n)&&(decide (1<(Cl n).size)||false))=false:=by
   unfold Pu;rw[e];by_cases MG:b=48
   .have hl:=dq (by rw[MG];rfl)
    have hs:(Cl n).size=1:=by
     have:(Cl n).data.toList.length=(Cl n).size:=ZF
     rw[e,hl]at this;exact this.symm
    exact Q5
   .have:((b::l).head?==some 48)=false:=by{simpa using MG};rw[this];rfl
  rw[h1];rfl
 unfold Ic Hp N5;rw[pX,sQ,ag];refine⟨rfl,?_⟩;rw[aQ rfl,aM ZF,hN]
theorem ZEB{n c}(h:c.toNat<48\/57<c.toNat):c∉(Cl n).data.toList:=fun m=>by have:=AoP n c m;omega
theorem Ah1{s c}(hs:Ap s=true)(h:c.toNat<48\/57<c.toNat):c∉s.data.toList:=fun m=>by have:=(Cp hs).2 c m;omega
theorem AuE{x}(h1:1<=x.id)(h2:x.id<=9999):Ll (Ja x)=some x:=by obtain⟨n1,n2⟩:=AfV (n:=x.id.toNat) ZA;have hc:E5 58 (Ja x)=some (Cl x.id.toNat,x.code):=At1 (ZEB ZE);rw[AfQ hc n1,n2];obtain⟨i,c⟩:=x;simp only at h1⊢;rw[ZC9 ZA]
theorem Aq1{x}(h:Ap x.code=true){c}(hc:c=32\/c=10):c∉(Ja x).data.toList:=by
 unfold Ja;rw[B6,B6,eJ,eJ];rintro((m|m)|m)
 .exact ZEB ZRi m
 .rcases hc with rfl|rfl<;>exact absurd m ZE
 .exact Ah1 h ZRi m
theorem AeF{xs}(h:z_ xs=true):∀x∈xs,1<=x.id/\x.id<=9999/\Ap x.code=true:=fun x hx=>by refine' eY;have:=(Ep.1 h).2 k hk;exact⟨this.1,this.2.1,this.2.2.1⟩
theorem AwG{xs}(h:z_ xs=true):J7 (xs.map Ja)=xs/\M1 (xs.map Ja)=true:=by
 have jy:∀l:List Ltr,(∀x∈l,1<=x.id/\x.id<=9999/\Ap x.code=true)->J7 (l.map Ja)=l/\M1 (l.map Ja)=true:=fun l=>by
  induction l with
  |nil=>intro _;exact ZW
  |cons x l ih=>
   intro hl;obtain⟨i1,i2⟩:=ih fun y hy=>hl y (bN _ hy)
   have hx:=hl x ZF;have hp:=AuE hx.1 hx.2.1;refine⟨?_,?_⟩
   .unfold J7 at *
    rw[cD,gP,hp,i1]
   .unfold M1 at *
    rw[cD,List.all_cons,hp,i2];rfl
 exact jy xs (AeF h)
theorem AzT{xs}(h:z_ xs=true)(h0:xs.length≠0):zU (Co xs) ⟨#[45]⟩=false:=by
 cases hq:zU (Co xs) ⟨#[45]⟩
 .rfl
 .exfalso
  rw[Ec]at hq;obtain⟨x,l,hx⟩:∃x l,xs=x::l:=by
   cases xs with
   |nil=>exact absurd rfl h0
   |cons x l=>exact⟨x,l,rfl⟩
  have hp:=ZBf (ps:=xs.map Ja) (by rw[hx];simp) fun p hp=>ZRj
  rw[<-Oq h h0,hq]at hp;have h1:Aj 32 (⟨#[45]⟩:Y_)=[⟨#[45]⟩]:=AtT ZE;rw[h1,hx]at hp;simp only[cD,List.cons.injEq]at hp;have:=aU ByteArray.size hp.1;have h9:=(AeF h x (by rw[hx];simp)).2.2;have h7:=(Cp h9).1;unfold Ja at this;simp only[aY]at this;have e1:(⟨#[45]⟩:Y_).size=1:=rfl;omega
theorem BbW{xs}(h:z_ xs=true):Mv (Co xs)=true/\t_ (Co xs)=xs:=by
 by_cases h0:xs.length=0
 .have hx:xs=[]:=bW h0
  rw[Pp h h0];unfold Mv t_;have:zU (⟨#[45]⟩:Y_) ⟨#[45]⟩=true:=Ec.2 rfl;rw[this,aQ rfl,hx];exact ZW
 .have hn:=AzT h h0
  have ay:xs.map Ja≠[]:=fun e=>h0 ZRk
  have hp:Aj 32 (Co xs)=xs.map Ja:=by rw[Oq h h0];exact ZBf ay fun p hp=>ZRj
  obtain⟨m1,m2⟩:=AwG h;have hs:J5 (Co xs)=true:=by unfold J5 Yu;rw[hp,m1,m2,bI,aL (Ep.1 h).1,Ec.2 rfl];rfl
  unfold Mv t_;rw[hn,aM ZF,aQ hs,hp,m1,hs];exact ZW
theorem Ui{xs}(h:z_ xs=true):1<=(Co xs).size:=by
 by_cases h0:xs.length=0
 .rw[Pp h h0];decide
 .rw[Oq h h0]
  exact Uk ZJS fun p hp=>(Wk h p hp).2
theorem BaV{p}(h:Bq p=true):Ge (E7 p)=true/\Ey (E7 p)=p:=by
 obtain⟨⟨x1,x2,x3,x4⟩,⟨x5,x6⟩,_⟩:=De.1 h;obtain⟨n1,n2⟩:=AfV (n:=p.bins.toNat) ZA;obtain⟨n3,n4⟩:=AfV (n:=p.passes.toNat) ZA;have ay:p.order≠[]:=fun e=>by rw[e]at x5;simp at x5
 have hp:Aj 32 (E7 p)=Cl p.bins.toNat::Cl p.passes.toNat::p.order:=by
  rw[Ov h];have e:Cl p.bins.toNat++⟨#[32]⟩++Cl p.passes.toNat++⟨#[32]⟩++Cg p.order y7=Cl p.bins.toNat++⟨#[32]⟩++(Cl p.passes.toNat++⟨#[32]⟩++Cg p.order y7):=ZJT
  rw[e,AjC _ (ZEB ZE),AjC _ (ZEB ZE),ZBf ay fun c hc=>Ah1 (AvY h c hc) ZE]
 have hg:I8 (E7 p)=p:=by unfold I8;rw[hp];show(⟨Hp (Cl p.bins.toNat),Hp (Cl p.passes.toNat),p.order⟩:Pln)=p;rw[n2,n4,ZC9 ZA,ZC9 ZA]
 have ho:Ge (E7 p)=true:=by unfold Ge;rw[hg,h,hp];show((decide (3<=p.order.length+2)&&decide (p.order.length+2<=62))&&((Ic (Cl p.bins.toNat)&&Ic (Cl p.passes.toNat))&&true))=true;rw[n1,n3,aL (show 3<=p.order.length+2 by omega),aL (show p.order.length+2<=62 by omega)];rfl
 exact⟨ho,by rw[AhP ho,hg]⟩
theorem ZAg(p):(E7 p).size<=500:=by
 cases h:Bq p
 .rw[AhB h];exact zC
 .obtain⟨⟨x1,x2,x3,x4⟩,⟨x5,x6⟩,_⟩:=De.1 h
  have h1:=Af6 h;have s1:=(C9 (n:=p.bins.toNat) ZA).1;have s2:=(C9 (n:=p.passes.toNat) ZA).1;rw[Ov h];refine' YU;show _+1+_+1+_<=500;omega
def Cf:Y_:=⟨#[108,101,116,116,101,114,115]⟩
def Df:Y_:=⟨#[112,108,97,110]⟩
def Gd:Y_:=⟨#[109,111,118,101,100]⟩
def Mf:Y_:=⟨#[115,111,114,116]⟩
def Ef:Y_:=⟨#[115,101,113,117,101,110,99,101]⟩
def F4:Y_:=⟨#[115,101,97,108]⟩
def C8:Y_:=⟨#[112,97,115,115]⟩
theorem BcO{B d w s vH}{n:String}{g cs}(hg:Tryz.prog.globalNamed n=some g)(h:w.var? Tryz.prog n=some cs)(hD:Bv B w d s vH)(ay:cs.size≠8)(i u):(w.setCell ⟨d,i,none⟩ u).var? Tryz.prog n=some cs:=by
 obtain⟨vL,vO,vF,vN,os,h0,_⟩:=hD;unfold World.var? at h⊢;rw[hg]at h⊢;simp only[Option.bind_some]at h⊢;have nW:g≠d:=fun e=>by subst e;rw[h0]at h;simp only[Option.bind_some]at h;injection h with h;rw[<-h]at ay;exact ay rfl
 rw[bQ _ _ _ _ nW];exact h
theorem I4.setD{B d w s vH}(h:I4 w)(hD:Bv B w d s vH)(i u):I4 (w.setCell ⟨d,i,none⟩ u):=
 BcO (g:=4) ZB h hD ZE i u
theorem Bv.setLetters{B d w s vH v' xs}(h:Bv B w d s vH)(hn:own 119 B w v' xs):Bv B (w.setCell ⟨d,0,none⟩ v') d {s with letters:=xs} vH:=by refine' X6;refine⟨v',vO,vF,vN,os,?_,D3 hn ho ZE 0,D3 h2 ho ZE 0,D3 h3 ho ZE 0,D3 h4 ho ZE 0,Yv h5 ho ZE ZE 0,h6⟩;have:=bO w d 0 _ _ v' h0;rw[this];rfl
theorem Bv.setBins{B d w s vH}(h:Bv B w d s vH)(n):Bv B (w.setCell ⟨d,1,none⟩ (.int .i64 n)) d {s with day:={s.day with plan:={s.day.plan with bins:=n}}} vH:=by refine' X6;refine⟨vL,vO,vF,vN,os,?_,D3 h1 ho ZE 1,D3 h2 ho ZE 1,D3 h3 ho ZE 1,D3 h4 ho ZE 1,Yv h5 ho ZE ZE 1,h6⟩;have:=bO w d 1 _ _ (.int .i64 n) h0;rw[this];rfl
theorem Bv.setPasses{B d w s vH}(h:Bv B w d s vH)(n):Bv B (w.setCell ⟨d,2,none⟩ (.int .i64 n)) d {s with day:={s.day with plan:={s.day.plan with passes:=n}}} vH:=by refine' X6;refine⟨vL,vO,vF,vN,os,?_,D3 h1 ho ZE 2,D3 h2 ho ZE 2,D3 h3 ho ZE 2,D3 h4 ho ZE 2,Yv h5 ho ZE ZE 2,h6⟩;have:=bO w d 2 _ _ (.int .i64 n) h0;rw[this];rfl
theorem Bv.setOrder{B d w s vH v' cs}(h:Bv B w d s vH)(hn:own 9 B w v' cs)(ha:apart v' vH):Bv B (w.setCell ⟨d,3,none⟩ v') d {s with day:={s.day with plan:={s.day.plan with order:=cs}}} vH:=by refine' X6;refine⟨vL,v',vF,vN,os,?_,D3 h1 ho ZE 3,D3 hn ho ZE 3,D3 h3 ho ZE 3,D3 h4 ho ZE 3,Yv h5 ho ZE ZE 3,ha⟩;have:=bO w d 3 _ _ v' h0;rw[this];rfl
theorem Bd9(B d s vH v xs ok w)(hD:Bv B w d s vH)(ho:own 119 B w v xs)(hT:I4 w):
 Calls Tryz.prog 53 #[.pointer (P_ d),v,.bool ok] w (Bb B d (if ok then{s with letters:=xs}else s) vH (if ok then Co xs else⟨#[]⟩) w):=by
 refine' zJ;refine' zY;have HT:=aA (hT.setD hD 0 v);refine' ZJU;obtain⟨_,_,_,_,_,⟨c0,_,_,_,_,_,_,_⟩,hf,_⟩:=Ca hD;have f0:=hf 0;clear hD ho hT hf;cases ok
 .go_enter func53,ntmps53
  exact UT
 .have HF:=aA (F7 _ xs _ (D3 (u:=.slice A n c) HO.out HD.out.obj ZE 0).rd HT.out)
  go_enter func53,ntmps53
  refine' X5;have bv:=aA b1;clear b1
  refine' ZI;exact Bb.post ⟨rfl,vH,HD.out.setLetters HO.out,(Kd.of_below (aF _ _)).set 0 _,Nu.refl _ _⟩ bv.out
theorem ArD(B d s vH w)(hD:Bv B w d s vH)(hT:I4 w)(hi:Bj s.day.plan.bins/\Bj s.day.plan.passes)(hm:Bj (F5 s.day.plan s.letters)):
 Calls Tryz.prog 52 #[.pointer (P_ d),.string Gd] w (Bb B d s vH (G1 (F5 s.day.plan s.letters)) w):=by
 refine' ZJV;have HM:Hid (∀W,B_ w W->C_ 124 #[.agg #[.int .i64 s.day.plan.bins,.int .i64 s.day.plan.passes,.slice AO nO cO],.slice AL nL cL] W (.int .i64 (F5 s.day.plan s.letters))):=fun W hW=>ZDq _ _ s.day.plan s.letters W (qX.on hW) (hL.rd.on hW)
 have HN:Hid (∀W,B_ w W->C_ 120 #[.int .i64 (F5 s.day.plan s.letters)] W (.string (G1 (F5 s.day.plan s.letters)))):=fun W hW=>Jg _ W hm (hT.on hW)
 refine' Py;refine' Y2;clear hD hT hi hm qX hL hO c0 c1 c2 c3;generalize F5 s.day.plan s.letters=mv at *;refine' ZRl;have eu:(Gd.toList==[115,101,113,117,101,110,99,101])=false:=ZD
 have fw:(Gd.toList==[115,101,97,108])=false:=ZD
 have iq:(Gd.toList==[112,108,97,110])=false:=ZD
 refine' ZRm;refine' X4;go_region_held3 (fun W=>B_ w W) (first|exact ld|exact k2|exact k1|fail) (first|(go_at_call 124;first|(refine' ZJW;refine' Zy;have k1:=Aa US z1)|fail)|(go_at_call 120;first|((with_reducible refine(HN.out _ Qa).mono ?_);refine' gY;have k2:=Aa Qa z2)|fail)|fail)
 all_goals
  have K2:=aA k2;clear k1 k2 z1 z2 ld
  exact ZFz
theorem AuN(B d s vH w)(hD:Bv B w d s vH)(hT:I4 w)(h1:Bj (Gy (z_ s.letters) (sL s.letters)))(h2:Bj (Gy (z_ s.letters) (m_ s.letters)))
 (z1:(G1 (Gy (z_ s.letters) (sL s.letters))).size<=100) (z2:(G1 (Gy (z_ s.letters) (m_ s.letters))).size<=100):
 Calls Tryz.prog 52 #[.pointer (P_ d),.string F4] w (Bb B d s vH (G1 (Gy (z_ s.letters) (sL s.letters))++⟨#[32]⟩++G1 (Gy (z_ s.letters) (m_ s.letters))) w):=by
 refine' ZRn;have HS:Hid (∀W,B_ w W->C_ 121 #[.slice AL nL cL] W (.int .i64 (Gy (z_ s.letters) (sL s.letters)))):=fun W hW=>AqE _ s.letters W (hL.rd.on hW)
 have HO:Hid (∀W,B_ w W->C_ 122 #[.slice AL nL cL] W (.int .i64 (Gy (z_ s.letters) (m_ s.letters)))):=fun W hW=>AgW _ s.letters W (hL.rd.on hW)
 have qW:Hid (∀W,B_ w W->C_ 120 #[.int .i64 (Gy (z_ s.letters) (sL s.letters))] W (.string (G1 (Gy (z_ s.letters) (sL s.letters))))):=fun W hW=>Jg _ W h1 (hT.on hW)
 have uM:Hid (∀W,B_ w W->C_ 120 #[.int .i64 (Gy (z_ s.letters) (m_ s.letters))] W (.string (G1 (Gy (z_ s.letters) (m_ s.letters))))):=fun W hW=>Jg _ W h2 (hT.on hW)
 refine' ZRo;refine' Y2;clear hD hT h1 h2 hL hO c0;generalize G1 (Gy (z_ s.letters) (sL s.letters))=T1 at *;generalize G1 (Gy (z_ s.letters) (m_ s.letters))=T2 at *;generalize Gy (z_ s.letters) (sL s.letters)=n1 at *;generalize Gy (z_ s.letters) (m_ s.letters)=n2 at *;have a1:¬9223372036854775807<T1.size+1:=ZA
 have a2:¬9223372036854775807<T1.size+1+T2.size:=ZA
 refine' ZRp;have eu:(F4.toList==[115,101,113,117,101,110,99,101])=false:=ZD
 refine' ZRq;refine' X4;go_region_held3 (fun W=>B_ w W) (first|exact ld|exact k4|exact k3|exact k2|exact k1|fail) (first|(go_at_call 121;first|((with_reducible refine(HS.out _ US).mono ?_);refine' Zy;have k1:=Aa US z1)|fail)|(go_at_call 120;first|((with_reducible refine(qW.out _ Qa).mono ?_);refine' gY;have k2:=Aa Qa z2)|((with_reducible refine(uM.out _ ZRr).mono ?_);rintro e u4 ⟨rfl,z4⟩;have k4:=Aa ZRr z4)|fail)|(go_at_call 122;first|((with_reducible refine(HO.out _ ZJL).mono ?_);refine' gX;have k3:=Aa ZJL z3)|fail)|fail)
 all_goals
  have K4:=aA k4;clear k1 k2 k3 k4 ld
  refine' ZI;exact Bb.of_read HD.out rfl K4.out
theorem AiJ(B d s vH w)(hD:Bv B w d s vH)(hB:B<=w.heap.size)(hT:I4 w)(hi:Bj s.day.plan.bins/\Bj s.day.plan.passes)(hr:M4 s.day.plan s.letters=true):
 Calls Tryz.prog 119 #[.pointer (P_ d)] w (Bb B d {s with letters:=Dr s.day.plan s.letters} vH (Co (Dr s.day.plan s.letters)++⟨#[47]⟩++Co (Ha s.day.plan s.letters)) w):=by
 refine' ZJV;have HR:Hid (∀W,B_ w W->Calls Tryz.prog 201 #[.agg #[.int .i64 s.day.plan.bins,.int .i64 s.day.plan.passes,.slice AO nO cO],.slice AL nL cL] W fun e w'=>∃vR vS,e=.returned (.tuple #[vR,vS,.bool true])/\own 119 W.heap.size w' vR (Dr s.day.plan s.letters)/\own 119 W.heap.size w' vS (Ha s.day.plan s.letters)/\B_ W w'):=fun W hW=>by have h:=ZAd _ _ s.day.plan s.letters W (qX.on hW) (hL.rd.on hW);rw[hr]at h;exact h.mono fun e w' ⟨a,b,x1,x2,x3,_,x5⟩=>⟨a,b,x1,x2,x3,x5⟩
 have DG:=aA hT;refine' Py;refine' Y2;clear hD hT hi hr qX hL hO c0 c1 c2 c3;have z1:=Du (Dr s.day.plan s.letters);have z2:=Du (Ha s.day.plan s.letters);generalize Dr s.day.plan s.letters=R at *;generalize Ha s.day.plan s.letters=S at *;have xr:Hid (∀(v:Value) (W:World),R_ W v R->I4 W->C_ 117 #[v] W (.string (Co R))):=fun v W h1 h2=>F7 v R W h1 h2
 have HFS:Hid (∀(v:Value) (W:World),R_ W v S->I4 W->C_ 117 #[v] W (.string (Co S))):=fun v W h1 h2=>F7 v S W h1 h2
 generalize Co R=F1 at *;generalize Co S=F2 at *;have a1:¬9223372036854775807<F1.size+1:=ZA
 have a2:¬9223372036854775807<F1.size+1+F2.size:=ZA
 go_enter func119,ntmps119
 refine' ZC;go_region_held3 (fun W=>B_ w W) (first|exact ld|exact k1|fail) (first|(go_at_call 201;first|(refine' ZJX;rintro e u1 ⟨vR,vS,rfl,o1,o2,z3⟩;have k1:=Aa ld z3;obtain⟨AR,nR,cR,rfl, -, -, -, -⟩:=o1.rd;obtain⟨AS,nS,cS,rfl, -, -, -, -⟩:=o2.rd;have O1:=aA o1;have O2:=aA o2;clear o1 o2)|fail)|fail)
 all_goals
  have K1:=aA k1;have qG:=aA (HD.out.below K1.out);have mH:=aA (O1.out.base_ (show B<=_ from hB));have im:=aA (O2.out.base_ (show B<=_ from hB));have rU:=aA ((DG.out.on K1.out).setD qG.out 0 (.slice AR nR cR));obtain⟨_,_,_,_,_,⟨c0,_,_,_,_,_,_,_⟩,hf,_⟩:=Ca qG.out;have f0:=hf 0;have P1:=aA (D3 (u:=.slice AR nR cR) mH.out qG.out.obj ZE 0);have P2:=aA (D3 (u:=.slice AR nR cR) im.out qG.out.obj ZE 0);clear k1 z3 ld hf O1 O2
  refine' ZC;refine(xr.out _ _ P1.out.rd rU.out).mono ?_;refine' zK;have B2:=aA b2;clear b2
  refine' ZC;refine(HFS.out _ _ (P2.out.below B2.out).rd (rU.out.on B2.out)).mono ?_;refine' zB;have B3:=aA (Aa B2.out b3);clear b3
  refine' ZI;exact Bb.post ⟨rfl,vH,qG.out.setLetters mH.out,(Kd.of_below K1.out).set 0 _,Nu.refl _ _⟩ B3.out
theorem Aj0(B d s' vH a w)(HC:Calls Tryz.prog 119 #[.pointer (P_ d)] w (Bb B d s' vH a w)):
 Calls Tryz.prog 52 #[.pointer (P_ d),.string Ef] w (Bb B d s' vH a w):=by refine' eK;refine' ZRs;refine' ZRt;refine' ZF0;exact Y1
theorem AyF(B d s vH f w)(hD:Bv B w d s vH)(hB:B<=w.heap.size)(hT:I4 w)(hz:f.size<=maxLen):
 Calls Tryz.prog 58 #[.pointer (P_ d),.string C8,.string f] w (Bb B d (if Jo s.letters (Am f)then{s with letters:=pg s.letters (Am f)}else s) vH (if Jo s.letters (Am f)then Co (pg s.letters (Am f))else⟨#[]⟩) w):=by
 refine' ZRn;have HN:=aA (fun W=>Fg f W hz);obtain⟨dg,hdg⟩:∃dg,Am f=dg:=⟨_,rfl⟩;rw[hdg]at HN⊢;clear hdg hz;have HS:Hid (∀W,B_ w W->Calls Tryz.prog 139 #[.slice AL nL cL,.int .i64 dg] W fun e w'=>∃v',e=.returned (.tuple #[v',.bool (Jo s.letters dg)])/\own 119 W.heap.size w' v' (pg s.letters dg)/\B_ W w'):=fun W hW=>Aj5 _ s.letters dg W (hL.rd.on hW)
 have HC:Hid (∀(v:Value) (W:World),B_ w W->own 119 B W v (pg s.letters dg)->Calls Tryz.prog 53 #[.pointer (P_ d),v,.bool (Jo s.letters dg)] W (Bb B d (if Jo s.letters dg then{s with letters:=pg s.letters dg}else s) vH (if Jo s.letters dg then Co (pg s.letters dg)else⟨#[]⟩) W)):=fun v W hW ho=>Bd9 B d s vH v _ _ W (hD.below hW) ho (hT.on hW)
 refine' Y2;have cd:w.drew.cell? ⟨d,0,none⟩=some (.slice AL nL cL):=c0;clear hD hT hL hO;generalize(if Jo s.letters dg then({s with letters:=pg s.letters dg}:Dsk)else s)=s' at *;generalize(if Jo s.letters dg then Co (pg s.letters dg)else(⟨#[]⟩:Y_))=a at *;generalize Jo s.letters dg=ok at *;generalize pg s.letters dg=L at *;refine' ZRu;refine' YV;refine' ZC;go_region_law (first|(go_simp;go_at_call 140;(with_reducible refine(HN.out _).mono ?_);refine' ZP)|(go_simp;go_at_call 139;(with_reducible refine(HS.out _ ld).mono ?_);refine' Zw;have k1:=Aa ld z1;have mH:=aA (o1.base_ (show B<=_ from hB));refine' X3;clear o1)|(go_simp;go_at_call 53;(with_reducible refine(HC.out _ _ k1 mH.out).mono ?_);rintro e u2 h2;have H2:=aA (Bb.pre k1 h2);obtain⟨rfl,_⟩:=h2))
 all_goals
  clear k1 ld z1
  refine' ZI;exact H2.out
theorem AcW{xs ys}(hp:ys.Perm xs)(h:z_ xs=true):z_ ys=true:=by obtain⟨h1,h2,h3⟩:=Ke.1 h;exact Ke.2 ⟨by rw[hp.length_eq];exact h1,fun x hx=>h2 x (hp.mem_iff.1 hx),(hp.pairwise_iff (fun{a b} pX=>Ne.symm pX)).2 h3⟩
theorem AnF(n:Nat):G1 (n:Int)=Cl n:=by unfold G1;rw[aM ZA,AnD]
theorem Bc6(xs:List Ltr):∀n:Int,0<=n->n<9973->0<=xs.foldl Yx n/\xs.foldl Yx n<9973:=by
 induction xs with
 |nil=>exact fun n h0 h1=>⟨h0,h1⟩
 |cons x xs ih=>exact fun n h0 h1=>ih _ (by unfold Yx;omega) (by unfold Yx;omega)
theorem AzQ(xs:List Ltr):∀n:Int,0<=n->n<9973->0<=xs.foldl Qn n/\xs.foldl Qn n<9973:=by
 induction xs with
 |nil=>exact fun n h0 h1=>⟨h0,h1⟩
 |cons x xs ih=>exact fun n h0 h1=>ih _ (by unfold Qn;omega) (by unfold Qn;omega)
def Bg:Y_:=⟨#[102,111,114,119,97,114,100,115]⟩
def Dk:Y_:=⟨#[115,105,122,101]⟩
theorem Pc(fs):(C5 fs).size<=600:=by
 cases h:Be fs
 .rw[Ag2 h];exact zC
 .by_cases h0:fs.length=0
  .rw[AhO h h0];exact(ZE:(1:Nat)<=600)
  .rw[Pe h h0]
   have h1:=Dw (fs.map Ek) y7 16 fun p hp=>(Zt h p hp).1
   have h2:=(Ch.1 h).1;refine' Ur;have h3:fs.length*(16+y7.size)<=30*17:=bY h2 (aC _);omega
theorem Bv.setFwds{B d w s vH v' fs}(h:Bv B w d s vH)(hn:own 128 B w v' fs):Bv B (w.setCell ⟨d,4,none⟩ v') d {s with day:={s.day with fwds:=fs}} vH:=by refine' X6;refine⟨vL,vO,v',vN,os,?_,D3 h1 ho ZE 4,D3 h2 ho ZE 4,D3 hn ho ZE 4,D3 h4 ho ZE 4,Yv h5 ho ZE ZE 4,h6⟩;have:=bO w d 4 _ _ v' h0;rw[this];rfl
theorem Bv.setSize{B d w s vH}(h:Bv B w d s vH)(n):Bv B (w.setCell ⟨d,6,none⟩ (.int .i64 n)) d {s with day:={s.day with size:=n}} vH:=by refine' X6;refine⟨vL,vO,vF,vN,os,?_,D3 h1 ho ZE 6,D3 h2 ho ZE 6,D3 h3 ho ZE 6,D3 h4 ho ZE 6,Yv h5 ho ZE ZE 6,h6⟩;have:=bO w d 6 _ _ (.int .i64 n) h0;rw[this];rfl
def Cy:Y_:=⟨#[104,111,108,100]⟩
theorem AuB{α β:Type}[El α][El β]{T1 T2 B1 B2:Nat}{w v1 v2}{xs:List α}{ys:List β}(h1:own T1 B1 w v1 xs)(h2:own T2 B2 w v2 ys)(hT:T1≠T2){k}(e1:v1.ownBlock=some k):some k≠v2.ownBlock:=fun e2=>by obtain⟨c1,o1⟩:=Wo h1 e1;obtain⟨c2,o2⟩:=Wo h2 e2.symm;rw[o1]at o2;injection o2 with o2;injection o2 with _ o2 _;exact hT o2
theorem ZCh{α β:Type}[Flat α][El β]{T1 T2 B1 B2:Nat}{w w' v1 v2}{xs:List α}{ys:List β}(h1:own T1 B1 w v1 xs)(h2:own T2 B2 w v2 ys)(hT:T1≠T2)(hg:w.grownBy w' v2.ownBlock):own T1 B1 w' v1 xs:=
 h1.keepBlk fun k e=>hg.block k (h1.blk k e).2 (AuB h1 h2 hT e)
theorem AxX{B d w s vH}(h:Bv B w d s vH):some d≠vH.ownBlock:=fun e=>by obtain⟨c1,h1⟩:=Wo h.held e.symm;obtain⟨c2,h2⟩:=h.obj;rw[h1]at h2;injection h2 with h2;injection h2 with _ h2 _;exact absurd h2 ZE
theorem Bv.hold{B d w w1 s vH yV hs}(h:Bv B w d s vH)(hg:w.grownBy w1 vH.ownBlock)(iy:own 9 B w1 yV hs)(hN:yV.ownBlock=vH.ownBlock\/∀k,yV.ownBlock=some k->w.heap.size<=k):
 Bv B (w1.setCell ⟨d,5,none⟩ yV) d {s with day:={s.day with held:=hs}} yV/\Kd d vH w (w1.setCell ⟨d,5,none⟩ yV):=by
 have ay:=AxX h;have ab:=h.lt;have hK:Kd d vH w (w1.setCell ⟨d,5,none⟩ yV):=by have h1:Kd d vH w w1:=⟨hg.os,hg.tape,hg.output,hg.size,fun k hk _ h2=>hg.block k hk h2⟩;exact h1.set 5 _
 refine⟨?_,hK⟩;refine' ZJa;have h0':w1.heap[d]? =_:=(hg.block d ab ay).trans h0;have CG:∃bw:Array Value,w1.heap[d]? =some (.cells bw 47 (0,0)):=⟨_,h0'⟩;have g1:=ZCh h1 h4 ZE hg;have g3:=ZCh h3 h4 ZE hg;have g2:own 9 B w1 vO s.day.plan.order:=h2.keepBlk fun k e=>by
  refine hg.block k (h2.blk k e).2 fun e2=>?_
  rcases h6 with h6|h6
  .rw[e]at h6;cases h6
  .exact h6 (e.trans e2)
 have g5:isN 45 181 B w1 vN s.net os:=⟨ZCh h5.1 h4 ZE hg,h5.2.1,fun k a b=>⟨(h5.2.2.1 k a b).1,ZCh (h5.2.2.1 k a b).2 h4 ZE hg⟩,h5.2.2.2.1,h5.2.2.2.2⟩;have ha:apart vO yV:=by
  unfold apart at *;cases hv:vO.ownBlock with
  |none=>exact .inl rfl
  |some k=>
   refine' YQ;rcases hN with hN|hN
   .rw[hN]at e
    rcases h6 with h6|h6
    .rw[hv]at h6;cases h6
    .exact h6 (hv.trans e)
   .have z1:=hN k e.symm
    have z2:=(h2.blk k hv).2;omega
 refine⟨vL,vO,vF,vN,os,?_,D3 g1 CG ZE 5,D3 g2 CG ZE 5,D3 g3 CG ZE 5,D3 iy CG ZE 5,Yv g5 CG ZE ZE 5,ha⟩;have:=bO w1 d 5 _ _ yV h0';rw[this];rfl
theorem AuK(B d s vH c w)(hD:Bv B w d s vH)(hB:B<=w.heap.size)(hc:Ap c=true)(hl:s.day.held.length<30)(hz:∀x∈s.day.held,x.size<=1000):
 Calls Tryz.prog 147 #[.pointer (P_ d),.string c] w (Bb B d {s with day:={s.day with held:=s.day.held++[c]}} vH (Cb (s.day.held++[c])) w):=by
 have h7:=(Cp hc).1;refine' ZQN;refine' zc;obtain⟨AH,nH,cH,rfl,hn, -, -, -⟩:=hD.held.rd;refine' zJ;have HO:=aA hD.held;obtain⟨_,_,_,_,_,⟨_,_,_,_,_,c5,_,_⟩,hf,_⟩:=Ca hD;have f5:=hf 5;have rQ:=hD.lt;have ay:=AxX hD;have ma:Hid (∀(v:Value) (W:World),R_ W v (s.day.held++[c])->C_ 127 #[v] W (.string (Cb (s.day.held++[c])))):=fun v W h=>Hw v _ W h Px fun x hx=>by
  rcases List.mem_append.1 hx with hx|hx
  .exact hz x hx
  .rw[List.mem_singleton.1 hx];omega
 have HHN:=aA hn;have SM:nH<30:=ZA
 clear hD hf hc hz hl hn;generalize RN:s.day.held=hs at *;clear RN;go_enter func147,ntmps147
 refine' ZC;refine' iB;go_wp2_with (at_builtin;refine An (α:=Y_) rfl (.tmp 22) (.tmp 24) 28 rfl B 9 i0 _ 16 aW hi ah ar ap rfl ZE (.slice AH nH cH) hs c rfl (HO.out.alloc _) ⟨w.heap.size,0,none⟩ 1 [.string c] rfl ⟨ZN,rfl⟩ (Bz w _ [.string c]) (by have:=HHN.out;exact ZN) (by have:=HHN.out;omega) ZH ?_;intro g cap w7 lM ce CF yC;have c7:w7.cell? ⟨d,5,none⟩=some (.slice AH nH cH):=(ce.cell_far ⟨d,5,none⟩ ZH ay).trans zD;have f7:w7.frozen? ⟨d,5,none⟩=false:=(ce.frozen_far ⟨d,5,none⟩ ZH ay).trans zD)
 have HDW:=HD.out.below ((aF w.heap.size w).alloc (aC _) (aB #[.string c] 9));have HN7:(Value.slice (P_ g) (hs.length+1) cap).ownBlock=(Value.slice AH nH cH).ownBlock\/∀k,(Value.slice (P_ g) (hs.length+1) cap).ownBlock=some k->(w.alloc (aB #[.string c] 9)).heap.size<=k:=by
  rcases CF with h|h
  .exact .inl (by rw[<-h];exact ZJb)
  .refine .inr fun k hk=>?_
   have:g=k:=by{simpa [Value.ownBlock]using hk};omega
 obtain⟨h8,k8⟩:=HDW.hold ce lM HN7;have H8:=aA h8;have K8:=aA ((Kd.of_below ((aF w.heap.size w).alloc (aC _) (aB #[.string c] 9))).trans k8);have N8:Hid (Nu w (.slice AH nH cH) (.slice (P_ g) (hs.length+1) cap)):=by
  rcases HN7 with h|h
  .exact .inl h
  .exact .inr fun k hk=>by have:=h k hk;simp at this;omega
 clear h8 k8 HDW HN7 lM ce CF;refine(ma.out _ _ H8.out.held.rd).mono ?_;rintro e w9 ⟨rfl,b9⟩;have B9:=aA b9;clear b9
 refine' ZI;exact Bb.post ⟨rfl,_,H8.out,K8.out,N8.out⟩ B9.out
theorem AxJ(B d s' vH f a w)(HC:Calls Tryz.prog 147 #[.pointer (P_ d),.string f] w (Bb B d s' vH a w)):
 Calls Tryz.prog 58 #[.pointer (P_ d),.string Cy,.string f] w (Bb B d s' vH a w):=by
 refine' eK;have ci:(Cy.toList==[112,97,115,115])=false:=ZD
 have dh:(Cy.toList==[99,111,117,110,116])=false:=ZD
 have eu:(Cy.toList==[114,97,110,107])=false:=ZD
 have fw:(Cy.toList==[108,111,97,100,115])=false:=ZD
 have iq:(Cy.toList==[115,116,97,121])=false:=ZD
 have jz:(Cy.toList==[114,101,115,111,108,118,101])=false:=ZD
 refine' ZRv;refine' YV;exact Y1
theorem An1{a b c:World}{row}(h:a.grownBy b row)(k:b.grownBy c row):a.grownBy c row:=
 ⟨k.os.trans h.os,k.tape.trans h.tape,k.output.trans h.output,aI h.size k.size,fun i hi ay=>(k.block i (bR hi h.size) ay).trans (h.block i hi ay)⟩
theorem Aa7{T base g n c:Nat}:∀(ys:List Y_) (k:Nat) (w:World) (xs:List Y_),(∀y∈ys,y.size<=maxLen)->k+ys.length<=xs.length->own T base w (.slice (P_ g) n c) xs->
 own T base (w.setCells g k (ys.map aG)) (.slice (P_ g) n c) (xs.take k++ys++xs.drop (k+ys.length))/\w.grownBy (w.setCells g k (ys.map aG)) (some g)
 |[],k,w,xs,_,_,h=>ZJc
 |y::ys,k,w,xs,hy,hl,h=>by
  refine' ZF1;have h1:=Ad6 h (k:=k) ZA y (hy y ZF);obtain⟨h2,h3⟩:=Aa7 ys (k+1) (w.setCell ⟨g,k,none⟩ (.string y)) (xs.set k y) (fun z hz=>hy z (by simp[hz])) ZF2 h1;refine⟨?_,An1 (Gc (bK _ _) (.inl rfl) _) h3⟩;have e:(xs.set k y).take (k+1)++ys++(xs.set k y).drop (k+1+ys.length)=xs.take k++y::ys++xs.drop (k+(ys.length+1)):=ZRw
  rw[e]at h2;exact h2
theorem AvQ{T base:Nat}{w v}{xs:List Y_}(h:own T base w v xs)(os):own T base (Go.Sort.grow w os) v xs:=
 h.keepBlk fun k hk=>ZRx
def Ir(ps:List Y_):List Y_:=((ps.map (·.data.toList)).mergeSort fun x y=>decide (x<=y)).map fun l=>⟨l.toArray⟩
theorem AbT(ps):(Ir ps).length=ps.length:=by unfold Ir;rw[bI,List.length_mergeSort,bI]
theorem Al5{ps x}(h:x∈Ir ps):x∈ps:=by
 unfold Ir at h;obtain⟨l,hl,rfl⟩:=List.mem_map.1 h;have h1:=(List.mergeSort_perm (ps.map (·.data.toList)) fun x y=>decide (x<=y)).mem_iff.1 hl
 obtain⟨p,hp,rfl⟩:=List.mem_map.1 h1;exact hp
theorem AuQ:Ir []=[]:=by unfold Ir;simp
theorem Am7(T base:Nat)(v xs w)(hv:own T base w v xs)(hz:∀x∈xs,x.size<=maxLen)(hl:xs.length<=1048576):
 Calls Tryz.prog 208 #[v] w fun e w'=>e=.returned (.tuple #[])/\own T base w' v (Ir xs)/\w.grownBy w' v.ownBlock:=by
 rcases hv.form with⟨rfl,rfl⟩|⟨g,c,rfl,hg,bz,hc,hm⟩
 .refine(Tryz.slices_Sort_string_none none 0 w).mono ?_
  refine' zW;exact⟨rfl,by rw[AuQ];exact zj,bK _ _⟩
 .have hH:Go.Sort.Holds encStr w g 0 (xs.map (·.data.toList)).toArray:=fun j hj=>by
   have vQ:j<xs.length:=Qy
   refine⟨?_,hv.freeAt _⟩;have:=Bx hv j vQ;rw[bV,this];simp[vQ,encStr]
  have h:=Tryz.slices_Sort_string g 0 c (xs.map (·.data.toList)) w hH bz U8
  rw[bI]at h;refine h.mono ?_;rintro e w' ⟨rfl,q,os,rfl⟩;rw[Lib.sorted_world encStr w g 0 q (xs.map (·.data.toList)).toArray ((xs.map (·.data.toList)).mergeSort fun x y=>decide (x<=y)) os hH ZF]
  refine' ZJd;have em:((xs.map (·.data.toList)).mergeSort fun x y=>decide (x<=y)).map encStr=(Ir xs).map aG:=by unfold Ir;rw[gZ];rfl
  rw[em];obtain⟨h2,h3⟩:=Aa7 (Ir xs) 0 (w.drewN q) xs (fun y hy=>hz y (Al5 hy)) (by rw[AbT];omega) (hv.below bq);have e:xs.take 0++Ir xs++xs.drop (0+(Ir xs).length)=Ir xs:=by rw[AbT];simp
  rw[e]at h2;refine⟨rfl,AvQ h2 os,?_⟩;have h4:=An1 (Vo (bK w (some g)) bq) h3;exact ZRy
def Vq(fs:List Fwd)(x:Fwd):Bool:= !(Bc fs x.src).2.2
def Ru(fs:List Fwd)(k:Nat):List Y_:=((fs.take k).filter (Vq fs)).map Fwd.src
def N2(fs:List Fwd):List Y_:=if Be fs then Ir (Ru fs fs.length)else []
theorem AmB{fs}(h:Be fs=false):N2 fs=[]:=by unfold N2;rw[h];rfl
theorem M6{fs}(h:Be fs=true):N2 fs=Ir (Ru fs fs.length):=by unfold N2;rw[aQ h]
theorem AcF(fs k):(Ru fs k).length<=fs.length:=by
 unfold Ru;refine' ze;have h1:=bL (Vq fs) (fs.take k);have h3:(fs.take k).length<=fs.length:=zF
 omega
theorem AnZ{fs k}(hk:k<fs.length)(h:(Bc fs fs[k].src).2.2=false):Ru fs (k+1)=Ru fs k++[fs[k].src]:=by
 unfold Ru;have hp:Vq fs fs[k]=true:=by unfold Vq;rw[h];rfl
 refine' ZJe;simp[hp]
theorem AkR{fs k}(hk:k<fs.length)(h:(Bc fs fs[k].src).2.2=true):Ru fs (k+1)=Ru fs k:=by
 unfold Ru;have hp:Vq fs fs[k]=false:=by unfold Vq;rw[h];rfl
 refine' ZJe;simp[hp]
theorem AoE{fs}(h:Be fs=true)(k):∀x∈Ru fs k,Ap x=true:=fun x hx=>by unfold Ru at hx;obtain⟨y,hy,rfl⟩:=List.mem_map.1 hx;have h1:=eA (List.mem_filter.1 hy).1;obtain⟨i,hi,rfl⟩:=bP h1;exact((Ch.1 h).2 i hi).1
theorem Mb(fs):∀x∈N2 fs,Ap x=true:=fun x hx=>by
 cases h:Be fs
 .rw[AmB h]at hx;exact Wt
 .rw[M6 h]at hx
  exact AoE h _ x (Al5 hx)
theorem AhE{fs}:(N2 fs).length<=fs.length:=by
 cases h:Be fs
 .rw[AmB h];exact zC
 .rw[M6 h,AbT];exact AcF fs _
theorem AaO(v fs w)(hv:R_ w v fs):
 Calls Tryz.prog 128 #[v] w fun e w'=>∃v',e=.returned v'/\own 9 w.heap.size w' v' (N2 fs)/\B_ w w':=by
 refine' eN;refine' zc;go_enter func128,ntmps128
 refine' ZIC;cases ag:Be fs
 .refine' ZU;have HE:=aA (AmB ag);refine' eD;clear ag b1
  refine' ZI;exact⟨.slice none 0 0,rfl,by rw[HE.out];exact zj,it.out⟩
 refine' ZU;have HE:=aA (M6 ag);have sR:=(Ch.1 ag).1;have HC:Hid (∀k (h:k<fs.length),fs[k].src.size=7):=fun k h=>(Cp ((Ch.1 ag).2 k h).1).1
 have yB:=aA (AoE ag);clear ag;have ie:=b1.size;refine' eD;clear b1;have l1:=aF w1.heap.size w1
 refine' ZC;go_loopw[3,14] (fun t i wr=>∃k:Nat,k<=fs.length/\i=.int .i64 k/\B_ w1 wr/\own 9 w1.heap.size wr t (Ru fs k)) (fun _ i _=>fs.length - (intOf i).toNat)
 case atStart=>exact⟨0,aN _,rfl,l1,own.nil_ _ _ _⟩
 case round=>
  refine' Wu;refine' zO;clear l1;refine' zY;obtain⟨Av,m,cp,rfl,mj,_,_,_⟩:=ho.rd;have jd:=lr.size;clear ho mj;by_cases ab:k<fs.length
  .refine' Qo;have y1:=y1 w2 (it.out.trans (lr.mono ie));have y2:=y2 w2 (it.out.trans (lr.mono ie));have h7:=HC.out k ab;have HY:=aA (AnZ ab);have HS:=aA (AkR ab);have sP:Hid (∀W,B_ w2 W->R_ W (.slice (some ⟨b,o,none⟩) fs.length c) fs):=fun W hW=>HV.out.on ((it.out.trans (lr.mono ie)).trans (hW.mono (aI ie jd)))
   have qN:=aA (fun W hW=>Hj (.slice (some ⟨b,o,none⟩) fs.length c) fs fs[k].src W (sP.out W hW) ZN ZA);refine' YR;obtain⟨p,q⟩:=x;simp only at h7 y1 y2 HY HS qN;refine' ZRz;refine' Zd;refine' zQ;have hlm:(Ru fs k).length<=30:=aI (AcF fs k) sR;obtain⟨wl,de⟩:∃wl:World,wl=w2.alloc (aB #[.string p,.string q] 128):=⟨_,rfl⟩;have CE:=(Aw de).1;have x0:=Af de 0 (.string p) rfl;have RE:=aA (HO.out.below CE);have xm:=CE.size;have IX:=aA CE;have yc:=aA de;clear de CE
   refine' ZC;rw[<-yc.out];refine(qN.out _ IX.out).mono ?_;refine' zB;have l3:=Aa (Aa lr IX.out) b3;have xy:=x0 w3 b3;have ez:=aA (RE.out.below b3);have mQ:=b3.size;clear b3;cases f3
   .generalize IT:Ru fs k=gs at *
    clear IT
    go_wp2_with (at_builtin;refine An (α:=Y_) rfl (.tmp 28) (.tmp 31) 28 rfl w1.heap.size 9 i0 _ 16 aW hi ah ar ap rfl ZE (.slice Av m cp) gs p rfl (ez.out.alloc _) ⟨w3.heap.size,0,none⟩ 1 [.string p] rfl ⟨ZN,rfl⟩ (Bz w3 _ [.string p]) ZN ZA ZH ?_;intro g cap w7 lM ce CF yC)
    have hb7:B_ w1 w7:=(l3.alloc l3.size (aB #[.string p] 9)).grown ce ZH fun r e=>(ez.out.blk r e).1
    have pV:=aA lM;clear lM ce CF
    go_roundw
    case rel=>exact⟨k+1,ZA,ZJ,hb7,by rw[HY.out (by trivial)];exact pV.out⟩
    case measure=>exact ZK
   .refine' ZC;go_roundw
    case rel=>exact⟨k+1,ZA,ZJ,l3,by rw[HS.out (by trivial)];exact ez.out⟩
    case measure=>exact ZK
  .have tH:k=fs.length:=ZA
   have xC:Hid (own 9 w1.heap.size w2 (.slice Av m cp) (Ru fs fs.length)):=by
    show own _ _ _ _ _;have:=HO.out
    rwa [tH]at this
   have fx:=aA (Am7 9 w1.heap.size (.slice Av m cp) (Ru fs fs.length) w2 xC.out (fun x hx=>by have:=(Cp (yB.out _ x hx)).1;exact ZN) (by have:=AcF fs fs.length;omega));have LR:=aA lr;clear tH lr
   refine' ZC;refine fx.out.mono ?_;rintro e w3 ⟨rfl,o3,g3⟩;have O3:=aA o3;have L3:Hid (B_ w1 w3):=LR.out.grown g3 LR.out.size fun r e=>(xC.out.blk r e).1
   clear o3 g3
   refine' ZI;exact⟨_,rfl,by rw[HE.out];exact O3.out.base_ ie,it.out.trans (L3.out.mono ie)⟩
theorem Ax9{xss:List (List Ltr)}{k}(hk:k<xss.length):(xss.take (k+1)).flatten.length=(xss.take k).flatten.length+xss[k].length/\(xss.take (k+1)).flatten.length<=xss.flatten.length:=by
 refine⟨?_,?_⟩
 .rw[aJ hk,bX,aT];simp
 .exact ZR0
theorem Ab3(v xss s w)(hv:R_ w v xss)(hs:Fp s=true)(hn:xss.length<=60)(ht:∀t∈xss,1<=t.length/\(t.length:Int)<=s)(hb:z_ xss.flatten=true):
 C_ 214 #[v,.int .i64 s] w (.bool true):=by
 have hl6:=Cq hb;refine' zR;refine' ZHf;refine' Zf;have HT:=aA ht;refine' eP;clear hs ht hb;refine' zk;go_enter func214,ntmps214
 refine' ZC;refine(Me s _).mono ?_;rw[HS.out];refine' ZZ;refine' ZC;go_loopw[5,18] (fun t i wr=>∃k:Nat,k<=xss.length/\i=.int .i64 k/\t=.int .i64 ((xss.take k).flatten.length:Nat)/\B_ w wr) (fun _ i _=>xss.length - (intOf i).toNat)
 case atStart=>exact Pr
 case round=>
  refine' Ph;refine' Yg;by_cases ab:k<xss.length
  .refine' V6;obtain⟨r1,r2⟩:=Ax9 ab;obtain⟨t1,t2⟩:=HT.out _ (aS ab);have qg:Hid ((xss.take (k+1)).flatten.length=(xss.take k).flatten.length+xss[k].length):=r1;generalize(xss.take k).flatten.length=N at *;refine' ZEo;subst nD;clear fh;refine' Ry;have GP:aD.wrap ((N:Int)+(ys.length:Int))=(N:Int)+ys.length:=bG _ ZA;have mf:¬(ys.length:Int)<1:=ZA
   have pJ:¬s<(ys.length:Int):=ZA
   have hy3:¬60<(N:Int)+(ys.length:Int):=ZA
   refine' ZC;go_roundw
   case rel=>exact⟨k+1,ZA,ZJ,by rw[qg.out];simp,lr⟩
   case measure=>exact ZK
  .refine' ZC;refine(ZDz _ xss _ (HV.out.on lr) ZA).mono ?_;rintro e w2 ⟨v',rfl,o2,b2⟩;have l2:=Aa lr b2;have OJ:=aA o2;clear o2
   refine' ZC;refine(Cn _ xss.flatten _ OJ.out.rd).mono ?_;rw[HB.out];refine' zB;refine' YG;refine' ZI;exact⟨rfl,l3⟩
def jC(xs:List Ltr):Y_:=(xs.getD 0 ⟨0,⟨#[]⟩⟩).code++⟨#[45]⟩++(xs.getD (xs.length - 1) ⟨0,⟨#[]⟩⟩).code
theorem AbY{xs}(h0:xs.length≠0)(h:z_ xs=true):(jC xs).size=15:=by unfold jC;have h1:=(Ep.1 h).2 0 ZA;have h2:=(Ep.1 h).2 (xs.length - 1) ZA;refine' ZR1;simp only[gS,aY,(Cp h1.2.2.1).1,(Cp h2.2.2.1).1];rfl
theorem AcI(v xs w)(hv:R_ w v xs)(h0:xs.length≠0)(ag:z_ xs=true):
 C_ 215 #[v] w (.string (jC xs)):=by
 refine' ZR2;refine' ZR3;go_enter func215,ntmps215
 go_wp2_with (go_at_call 194;refine(Cn _ xs _ HV.out).mono ?_;rw[HO.out];refine' ZU)
 have q1:=fun W (hW:B_ w1 W)=>sk.out W (Aa b1 hW)
 have q2:=fun W (hW:B_ w1 W)=>lJ.out W (Aa b1 hW)
 simp only[fG,dF]at q1;refine' ZFt;refine' eD;clear b1
 go_region_held3 (fun W=>B_ w1 W) (first|exact ld|fail) (fail)
 all_goals
  have mX:=aA ld;clear ld q1 q2
  refine' ZI;exact⟨B8 HL.out.symm,Aa it.out mX.out⟩
def Ih(t:List Ltr):Y_:=jC t++⟨#[58]⟩++Cl t.length
def Qq(xss:List (List Ltr)):Y_:=if xss.length=0 then⟨#[45]⟩else Cg (xss.map Ih) y7
def Vr(xss:List (List Ltr)):Prop:=xss.length<=60/\(∀t∈xss,1<=t.length/\t.length<=20)/\z_ xss.flatten=true
theorem Vr.each{xss}(h:Vr xss):∀t∈xss,t.length≠0/\t.length<=20/\z_ t=true:=fun t ht=>
 ⟨by have:=(h.2.1 t ht).1;omega,(h.2.1 t ht).2,Qd h.2.2 (List.sublist_flatten_of_mem ht)⟩
theorem M3{xss}(h:Vr xss):∀p∈xss.map Ih,p.size<=20/\1<=p.size:=fun p hp=>by obtain⟨t,ht,rfl⟩:=List.mem_map.1 hp;obtain⟨h1,h2,h3⟩:=h.each t ht;have s1:=AbY h1 h3;have s2:=(C9 (n:=t.length) ZA).1;unfold Ih;refine' YU;show _+1+_<=20/\1<=_+1+_;omega
theorem ZDT(v xss w)(hv:R_ w v xss)(hk:Vr xss)(hT:I4 w):
 C_ 132 #[v] w (.string (Qq xss)):=by
 refine' zR;have XV:=aA (Ab3 v xss 20 w hv ZE hk.1 (fun t ht=>by have:=hk.2.1 t ht;omega) hk.2.2);have lh:=hk.1;refine' gV;refine' zl;subst hn;refine' iH;have HT:=aA hT;refine' zc;go_enter func132,ntmps132
 refine' ZC;refine XV.out.mono ?_;rintro e w1 ⟨rfl,l1⟩;by_cases h0:xss.length=0
 .have HF:Hid (Qq xss=⟨#[45]⟩):=by show _=_;unfold Qq;rw[aQ h0]
  have j5:((xss.length:Int)==0)=true:=ZE9
  exact Wr
 have HF:Hid (Qq xss=Cg (xss.map Ih) y7):=by show _=_;unfold Qq;rw[aM h0]
 have j5:((xss.length:Int)==0)=false:=beq_eq_false_iff_ne.2 ZA;have qZ:0<xss.length:=ZA
 have fo:=Ed (P:=Tryz.prog) 28 9 i0 _ aW hi ah xss.length zi ZA
 refine' ZC;have lk:Ck 9 (w1.alloc (aB (bF #[.string ⟨#[]⟩] xss.length) 9)) w1.heap.size xss.length 0 (xss.map Ih):=Ck.made w1 _ _ _ iG _;have br:B_ w1 (w1.alloc (aB (bF #[.string ⟨#[]⟩] xss.length) 9)):=(aF _ _).alloc (aC _) _;generalize w1.alloc (aB (bF #[.string ⟨#[]⟩] xss.length) 9)=w0 at *;have cn:Hid ((xss.map Ih).length=xss.length):=Y8
 go_loopw[17] (fun i wr=>∃k:Nat,k<=xss.length/\i=.int .i64 k/\B_ w1 wr/\Ck 9 wr w1.heap.size xss.length k (xss.map Ih)) (fun i _=>xss.length - (intOf i).toNat)
 case atStart=>exact Y7
 case round=>
  refine' Qs;have ie:=l1.size;by_cases ab:k<xss.length
  .refine' V6;have c1:=c1 w2 (Aa l1 av);obtain⟨t1,t2,t3⟩:=HK.out.each _ (aS ab);have mY:(xss.map Ih)[k]' za=Ih xss[k]:=ZF
   have me:=aA (M3 HK.out (Ih xss[k]) (List.mem_map.2 ⟨_,aS ab,rfl⟩));have fx:=aA (fun(W:World) (hF:Ck 9 W w1.heap.size xss.length k (xss.map Ih))=>hF.step za Za (ecs:=[.string (Ih xss[k])]) ZFC);refine' ZR4;have mP:=aA (fun W (hW:B_ w W)=>AcI u xss[k] W (hu.on hW) t1 t3);have sl:=AbY t1 t3;have sd:=(C9 (n:=xss[k].length) ZA).1;have tN:=aA (fun W (hW:B_ w W)=>Jn xss[k].length W ZA (HT.out.on hW));obtain⟨Au,nu,cu,rfl,XW,_,_,_⟩:=hu;subst XW;generalize jC xss[k]=lb at *;generalize Cl xss[k].length=dl at *;generalize hP:Ih xss[k]=pt at *;generalize xss[k].length=tl at *;refine' Ry;refine' zQ;refine' ZFE;have LW2:=aA (Aa l1 av);have uB:=aA hf;have XX:=aA av;refine' ZC;refine(mP.out _ LW2.out).mono ?_;refine' zB;have B3:=aA b3;refine' ZC;refine(tN.out _ (Aa LW2.out B3.out)).mono ?_;refine' YP;have B4:=aA (Aa B3.out b4);have SD:=uB.out.below B4.out;obtain⟨u0,g0⟩:=SD.cell (j:=k) (by show _<_*1;omega);have f0:=SD.free k;have HF4:=aA SD;refine' ZC;go_roundw
   case rel=> have:=fx.out _ HF4.out;refine' ZJf;have lZ:=(Aa XX.out B4.out).trans (I6 [.string (lb++⟨#[58]⟩++dl)] _ k _ (aC _));exact⟨k+1,ZA,ZJ,lZ,this⟩
   case measure=>exact ZK
  .refine' Rw;have HO:=aA ((HE.out▸hf:Ck _ _ _ _ xss.length _).own cn.out.symm (aC _) ZN);have l2:=Aa l1 av;have ni:=Dw (xss.map Ih) y7 20 fun p hp=>(M3 HK.out p hp).1
   rw[cn.out]at ni;have ol:xss.length*(20+y7.size)<=60*21:=bY lh (aC _);refine' ZR5;refine' ZFF;exact⟨rfl,l3⟩
def G3:Y_:=⟨#[100,97,121]⟩
def Dq:Y_:=⟨#[116,114,97,121,115]⟩
def Db:Y_:=⟨#[101,110,100,108,101,115,115]⟩
def Pb(s:Int)(L:List (List Ltr))(xs:List Ltr):Prop:=
 L.flatten=xs/\(L=[]\/∃F r,L=F++[r]/\(∀t∈F,(t.length:Int)=s)/\1<=r.length/\(r.length:Int)<=s)
theorem AyJ{α:Type}(F)(r:List α):(F++[r]).getD ((F++[r]).length - 1) []=r:=by rw[bH];simp
theorem Ba6{α:Type}(F)(r q:List α):(F++[r]).set ((F++[r]).length - 1) q=F++[q]:=ZF
theorem AlE{s}(hs:1<=s){L xs}(x)(h:Pb s L xs):Pb s (W8 s L x) (xs++[x]):=by
 obtain⟨hf,h⟩:=h;rcases h with rfl|⟨F,r,rfl,h1,h2,h3⟩
 .unfold W8
  rw[aQ (.inl rfl)];refine⟨by rw[<-hf];rfl,.inr ⟨[],[x],rfl,ZF,ZF,ZH⟩⟩
 .unfold W8
  rw[AyJ,Ba6]
  split
  .rename_i hc
   have hr:(r.length:Int)=s:=by
    rcases hc with hc|hc
    .simp at hc
    .exact hc
   refine⟨by rw[bX,hf];rfl,.inr ⟨F++[r],[x],rfl,?_,ZF,ZH⟩⟩;intro t ht;rcases List.mem_append.1 ht with ht|ht
   .exact h1 t ht
   .rw[List.mem_singleton.1 ht];exact hr
  .rename_i hc
   refine⟨?_,.inr ⟨F,r++[x],rfl,h1,ZF,?_⟩⟩
   .rw[<-hf];simp
   .have:¬(r.length:Int)=s:=fun e=>hc (.inr e)
    exact ZH
theorem ZAy{s}(hs:1<=s):∀(ys:List Ltr) (L:List (List Ltr)) (xs:List Ltr),Pb s L xs->Pb s (ys.foldl (W8 s) L) (xs++ys)
 |[],L,xs,h=>zI
 |y::ys,L,xs,h=>by have:=ZAy hs ys _ _ (AlE hs y h);rw[cZ]at this;exact this
theorem AvH{s}(hs:1<=s)(xs):Pb s (Gr s xs) xs:=ZAy hs xs [] [] ⟨rfl,.inl rfl⟩
theorem AjX{s}:∀(F:List (List Ltr)),(∀t∈F,(t.length:Int)=s)->(F.flatten.length:Int)=F.length*s
 |[],_=>ZF
 |t::F,h=>by
  have:=AjX F fun u hu=>h u (bN _ hu)
  have ht:=h t fY;rw[dC,aT,dA,Int.natCast_add,this,ht,Int.natCast_add,Int.add_mul];simp only[Int.natCast_one,Int.one_mul];omega
theorem AlL{s}(hs:1<=s){L xs}(h:Pb s L xs):(L.length:Int)=((xs.length:Int)+s - 1)/s:=by
 obtain⟨hf,h⟩:=h;subst hf;rcases h with rfl|⟨F,r,rfl,h1,h2,h3⟩
 .simp
  rw[Int.ediv_eq_zero_of_lt ZA ZA]
 .have e:((F++[r]).flatten.length:Int)=(F.length:Int)*s+r.length:=by rw[bX,aT,Int.natCast_add,AjX F h1];simp
  rw[e,show(F.length:Int)*s+r.length+s - 1=((r.length:Int) - 1)+(F.length+1)*s by rw[Int.add_mul];omega,Int.add_mul_ediv_right _ _ ZA,Int.ediv_eq_zero_of_lt ZA ZA];simp
theorem Ai1{s L xs}(h:Pb s L xs):∀t∈L,1<=t.length/\(t.length:Int)<=s\/s<1:=by
 obtain⟨_,h⟩:=h;rcases h with rfl|⟨F,r,rfl,h1,h2,h3⟩
 .simp
 .intro t ht
  rcases List.mem_append.1 ht with ht|ht
  .have:=h1 t ht
   omega
  .rw[List.mem_singleton.1 ht]
   exact .inl ⟨h2,h3⟩
theorem AzK{d xs}(h:Tw d xs=true):Ka d xs=true:=by unfold Tw at h;refine' Yd;exact h.1
theorem AyG{d xs}(h:Tw d xs=true):(Eu d xs).flatten=(Dh d xs).round/\((Eu d xs).length:Int)=(((Dh d xs).round.length:Int)+d.size - 1)/d.size/\(∀t∈Eu d xs,1<=t.length/\(t.length:Int)<=20):=by
 have hr:=AzK h;have hf:Oj d.size (Dh d xs).round=true:=by unfold Tw at h;refine' Yd;exact h.2
 have hs:=ArL.1 (Rb.1 hr).1.2.2.2;have e:Eu d xs=Gr d.size (Dh d xs).round:=by unfold Eu Iq;rw[aQ hr,aQ hf]
 have ht:=AvH hs.1 (Dh d xs).round;rw[<-e]at ht;refine⟨ht.1,AlL hs.1 ht,fun t h1=>?_⟩;have:=Ai1 ht t h1;omega
theorem T9{w:World}{g}{T:TypeId}{a b d e}(h:w.heap[g]? =some (.cells #[a,b,d,e] T (0,0))):
 w.cell? ⟨g,0,none⟩=some a/\w.cell? ⟨g,1,none⟩=some b/\w.cell? ⟨g,2,none⟩=some d/\w.cell? ⟨g,3,none⟩=some e/\w.frozen? ⟨g,0,none⟩=false/\w.frozen? ⟨g,1,none⟩=false/\w.frozen? ⟨g,2,none⟩=false/\w.frozen? ⟨g,3,none⟩=false:=
 ⟨Y5,Y5,Y5,Y5,Z9,Z9,Z9,Z9⟩
theorem Wq.outR{T base w v r}(h:Wq T base w v r)(p u)(hp:p.block<base):Wq T base (w.setCell p u) v r:=by obtain⟨v0,v1,v2,v3,h1,h2,h3,h4,h5,h6⟩:=h;exact⟨v0,v1,v2,v3,h1,Bd h2 p u hp,Bd h3 p u hp,Bd h4 p u hp,Bd h5 p u hp,h6⟩
theorem ZC7{d xs}(h:Ka d xs=true):Tw d xs=true/\Vr (Eu d xs):=by
 have hp:=AbJ h;have hs:=(Rb.1 h).1.2.2.2;have hf:Oj d.size (Dh d xs).round=true:=by unfold Oj;rw[hs,hp.1];rfl
 have hd:Tw d xs=true:=by unfold Tw;rw[h,hf];rfl
 obtain⟨e1,_,e3⟩:=AyG hd;refine⟨hd,(Ag7 d xs).1,fun t ht=>by have:=e3 t ht;omega,?_⟩;rw[e1];exact hp.1
theorem AmF(B d s vH w)(hD:Bv B w d s vH)(hl:s.day.fwds.length<=1000):
 Calls Tryz.prog 52 #[.pointer (P_ d),.string Db] w (Bb B d s vH (Cb (N2 s.day.fwds)) w):=by
 refine' U7;have HE:=aA (AaO vF s.day.fwds w hF.rd);obtain⟨AF,nF,cF,rfl, -, -, -, -⟩:=hF.rd;have ma:Hid (∀(v:Value) (W:World),R_ W v (N2 s.day.fwds)->C_ 127 #[v] W (.string (Cb (N2 s.day.fwds)))):=fun v W h=>Hw v _ W h (by have:=AhE (fs:=s.day.fwds);omega) fun x hx=>by have:=(Cp (Mb _ x hx)).1;omega
 clear hD hF hl;refine' ZR6;have eu:(Db.toList==[115,101,113,117,101,110,99,101])=false:=ZD
 have fw:(Db.toList==[115,101,97,108])=false:=ZD
 have iq:(Db.toList==[112,108,97,110])=false:=ZD
 have jz:(Db.toList==[109,111,118,101,100])=false:=ZD
 have kB:(Db.toList==[102,111,114,119,97,114,100,115])=false:=ZD
 have lT:(Db.toList==[100,105,114,101,99,116])=false:=ZD
 refine' ZR7;refine' X4;refine HE.out.mono ?_;refine' Ye;have dc:=aA (ma.out v1 w1 o1.rd);have B1:=aA b1;obtain⟨A1,n1,k1,rfl, -, -, -, -⟩:=o1.rd;clear o1 b1
 refine' ZC;refine dc.out.mono ?_;refine' ZJg;clear b2
 refine' ZI;exact ZF3
theorem AqH(B d s vH w)(hD:Bv B w d s vH)(hT:I4 w)(hi:Bj s.day.plan.bins/\Bj s.day.plan.passes/\Bj s.day.size)(hk:Ka s.day s.letters=true):
 Calls Tryz.prog 52 #[.pointer (P_ d),.string Dq] w (Bb B d s vH (Qq (Eu s.day s.letters)) w):=by
 refine' ZR8;obtain⟨k1,k2⟩:=ZC7 hk;have HR:Hid (∀W,B_ w W->Calls Tryz.prog 131 #[.agg #[.int .i64 s.day.plan.bins,.int .i64 s.day.plan.passes,.slice AO nO cO,.slice AF nF cF,.slice AH nH cH,.int .i64 s.day.size],.slice AL nL cL] W fun e w'=>∃v',e=.returned (.tuple #[v',.bool true])/\Fu 27 119 W.heap.size w' v' (Eu s.day s.letters)/\B_ W w'):=fun W hW=>by have h:=Ai5 _ _ s.day s.letters W (KF.on hW) (hL.rd.on hW);rw[k1]at h;exact h
 have HF:Hid (∀(v:Value) (W:World),B_ w W->R_ W v (Eu s.day s.letters)->C_ 132 #[v] W (.string (Qq (Eu s.day s.letters)))):=fun v W hW h=>ZDT v _ W h k2 (hT.on hW)
 refine' ZR9;clear hD hT hi hk KF hL hO hF hH c0 c1 c2 c3 c4 c5 c6 k1 k2;generalize Eu s.day s.letters=rows at *;refine' ZSA;have eu:(Dq.toList==[115,101,113,117,101,110,99,101])=false:=ZD
 have fw:(Dq.toList==[115,101,97,108])=false:=ZD
 have iq:(Dq.toList==[112,108,97,110])=false:=ZD
 have jz:(Dq.toList==[109,111,118,101,100])=false:=ZD
 have kB:(Dq.toList==[102,111,114,119,97,114,100,115])=false:=ZD
 have lT:(Dq.toList==[100,105,114,101,99,116])=false:=ZD
 have m6:(Dq.toList==[101,110,100,108,101,115,115])=false:=ZD
 have pG:(Dq.toList==[104,101,108,100])=false:=ZD
 have lU:(Dq.toList==[100,97,121])=false:=ZD
 refine' ZSB;refine' X4;go_region_held3 (fun W=>B_ w W) (first|exact ld|exact k1|fail) (first|(go_at_call 131;first|(refine' ZJX;refine' Zw;have k1:=Aa ld z1;have O1:=aA o1.rd;obtain⟨A1,n1,m1,rfl, -, -, -, -⟩:=o1.rd;clear o1)|fail)|fail)
 all_goals
  have K1:=aA k1;clear k1 z1 ld q0 q1 q2 q3 q4 q5 q6
  refine' ZC;refine(HF.out _ _ K1.out O1.out).mono ?_;refine' gY;have K2:=aA (Aa K1.out z2);clear z2
  exact ZFz
theorem Az1(B d s vH w)(hD:Bv B w d s vH)(hT:I4 w)(hi:Bj s.day.plan.bins/\Bj s.day.plan.passes/\Bj s.day.size)(hk:Ka s.day s.letters=true):
 Calls Tryz.prog 52 #[.pointer (P_ d),.string G3] w (Bb B d s vH (Sx (Dh s.day s.letters)) w):=by
 refine' ZR8;have HR:Hid (∀W,B_ w W->Calls Tryz.prog 129 #[.agg #[.int .i64 s.day.plan.bins,.int .i64 s.day.plan.passes,.slice AO nO cO,.slice AF nF cF,.slice AH nH cH,.int .i64 s.day.size],.slice AL nL cL] W fun e w'=>∃vR,e=.returned (.tuple #[vR,.bool true])/\Wq 119 W.heap.size w' vR (Dh s.day s.letters)/\B_ W w'):=fun W hW=>by have h:=Bb8 _ _ s.day s.letters W (KF.on hW) (hL.rd.on hW);rw[hk]at h;exact h
 have HF:Hid (∀(v:Value) (W:World),B_ w W->rdR W W.heap.size v (Dh s.day s.letters)->C_ 130 #[v] W (.string (Sx (Dh s.day s.letters)))):=fun v W hW h=>Aa6 v _ W h (hT.on hW)
 refine' ZR9;clear hD hT hi hk KF hL hO hF hH c0 c1 c2 c3 c4 c5 c6;generalize Dh s.day s.letters=rp at *;refine' ZSC;have eu:(G3.toList==[115,101,113,117,101,110,99,101])=false:=ZD
 have fw:(G3.toList==[115,101,97,108])=false:=ZD
 have iq:(G3.toList==[112,108,97,110])=false:=ZD
 have jz:(G3.toList==[109,111,118,101,100])=false:=ZD
 have kB:(G3.toList==[102,111,114,119,97,114,100,115])=false:=ZD
 have lT:(G3.toList==[100,105,114,101,99,116])=false:=ZD
 have m6:(G3.toList==[101,110,100,108,101,115,115])=false:=ZD
 have pG:(G3.toList==[104,101,108,100])=false:=ZD
 refine' ZSD;refine' X4;have la:B_ w (w.alloc (aB #[.slice none 0 0,.slice none 0 0,.slice none 0 0,.slice none 0 0] 78)).drew:=Ag (Ae (aF _ _) _)
 go_region_held3 (fun W=>B_ w W) (first|exact ld|exact la|exact Ae ld _|exact k1|exact Ae k1 _|exact k5 _ _ _ _|fail) (first|(go_at_call 129;first|((with_reducible refine(HR.out _ la).mono ?_);refine' Zw;have k1:=Aa la z1;have k5:=fun(a0 a1 a2 a3:Value)=>Ai (Ai (Ai (Ai k1 (p:=⟨w.heap.size,0,none⟩) (aC _) a0) (p:=⟨w.heap.size,1,none⟩) (aC _) a1) (p:=⟨w.heap.size,2,none⟩) (aC _) a2) (p:=⟨w.heap.size,3,none⟩) (aC _) a3;obtain⟨b0,b1,b2,b3,g0,g1,g2,g3⟩:=T9 (E3 (w:=(w.alloc (aB #[.slice none 0 0,.slice none 0 0,.slice none 0 0,.slice none 0 0] 78)).drew) (bC w _) z1);refine' ZSE)|(refine' ZJX;refine' Zw;have k1:=Aa ld z1;refine' ZSE)|fail)|fail)
 all_goals first
  |(
  have iu:=aA (fun(a0 a1 a2 a3:Value)=>((((O1.out.outR ⟨w.heap.size,0,none⟩ a0 (by simp)).outR ⟨w.heap.size,1,none⟩ a1 (by simp)).outR ⟨w.heap.size,2,none⟩ a2 (by simp)).outR ⟨w.heap.size,3,none⟩ a3 (by simp)).rd);have K5:=aA k5;clear k1 k5 z1 ld la q0 q1 q2 q3 q4 q5 q6
  refine' ZC;refine(HF.out _ _ (K5.out _ _ _ _) (iu.out _ _ _ _)).mono ?_;refine' gY;have K2:=aA (Aa (K5.out _ _ _ _) z2);clear z2
  exact ZFz)
  |(
  have ot:=aA (fun(o:Obj)=>(O1.out.below ((aF u1.heap.size u1).alloc (aC _) o)).rd);have K5:=aA (fun(o:Obj)=>Ae k1 o);clear k1 z1 ld la q0 q1 q2 q3 q4 q5 q6
  refine' ZC;refine(HF.out _ _ (K5.out _) (ot.out _)).mono ?_;refine' gY;have K2:=aA (Aa (K5.out _) z2);clear z2
  exact ZFz)
def Wb(net:List Ofc)(st c:Y_):List Y_:=(Cs net st c).1.map (Bw net)
def Qb(net:List Ofc)(st:Y_):List Y_:=(n_ net st).map (·++⟨#[42]⟩)
theorem AlC{net st c}(h:Na net st c=true):Di net=true/\Ap c=true/\∃q:Nat,Gq net st=q/\∃hq:q<net.length,net[q].name=st:=by unfold Na at h;refine' ZJ8;obtain⟨q,hq⟩:=aK h2;obtain⟨lS,pW⟩:=AsU hq;exact⟨h1,h3,q,hq,lS,pW⟩
theorem ZDQ{net st c}(h:Na net st c=true):((Cs net st c).2=0\/(Cs net st c).2=1\/(Cs net st c).2=2)/\(Wb net st c).length<=9/\∀p∈Wb net st c,1<=p.size/\p.size<=8:=by
 obtain⟨h1,h3,q,hq,lS,pW⟩:=AlC h;have e1:=AbM h1 (c:=c) (net.length+1) [] q (Ml lS);have e2:=AkQ h1 (c:=c) (net.length+1) [] q (Ml lS);have e3:=(D1.1 h1).1;unfold Wb;rw[Ab0 h1 hq h3];refine⟨?_,?_,fun p hp=>?_⟩
 .show(Fc _ _ _ _ _).2=0\/(Fc _ _ _ _ _).2=1\/(Fc _ _ _ _ _).2=2
  omega
 .refine' ze;show(Fc _ _ _ _ _).1.length<=9;omega
 .obtain⟨i,hi,rfl⟩:=List.mem_map.1 hp
  have pT:=e1.2.2 i hi;rw[Kl pT];exact ZEF ((D1.1 h1).2 i pT).1
theorem ZC4(net st):(Qb net st).length<=100000000/\(∀p∈n_ net st,p.size<=8)/\∀p∈Qb net st,1<=p.size/\p.size<=9:=by
 have hz:∀p∈n_ net st,p.size<=8:=fun p hp=>by
  unfold n_ at hp
  split at hp
  .have:=AaQ net _ 8 ⟨#[]⟩ p hp
   have e:(⟨#[]⟩:Y_).size=0:=rfl;omega
  .simp at hp
 refine⟨by unfold Qb;refine' ze;exact AsS net st,hz,fun p hp=>?_⟩;unfold Qb at hp;refine' Us;have:=hz x hx;refine' zo;show 1<=_+1/\_+1<=9;omega
theorem Lm{ps b n}(hl:ps.length<=n)(h:∀p∈ps,p.size<=b):(Cb ps).size<=n*(b+1)+1:=by
 unfold Cb
 split
 .show 1<=_;omega
 .have:=Dw ps y7 b h
  have h2:ps.length*(b+y7.size)<=n*(b+1):=bY hl (aC _);omega
section
variable{X:World->Prop}
end
theorem AvA(n):1<=(Xa n).size/\(Xa n).size<=4:=by
 unfold Xa
 split
 .decide
 .split<;>decide
theorem Hc{hs}(h:Ee hs=true):hs.length<=30/\∀c∈hs,Ap c=true:=by refine' ZJh;exact h
theorem BaS{r}:(Sx r).size<=4003:=by
 cases h:z_ (Yh r)
 .rw[AmC h];exact zC
 .rw[ZEQ h]
  have h1:=Du r.round;have h2:=Du r.strange;have h3:=Du r.held;have h4:=Du r.stuck;refine' YU;show _+1+_+1+_+1+_<=_;omega
theorem AwI{r}(h:z_ (Yh r)=true):1<=(Sx r).size:=by rw[ZEQ h];refine' YU;show 1<=_+1+_+1+_+1+_;omega
theorem AtO{xss}(h:Vr xss):(Qq xss).size<=1300/\1<=(Qq xss).size:=by
 unfold Qq
 split
 .decide
 .rename_i h0
  have h1:=Dw (xss.map Ih) y7 20 fun p hp=>(M3 h p hp).1
  refine' Ur;have h2:xss.length*(20+y7.size)<=60*21:=bY h.1 (aC _);refine⟨ZA,Uk ZJS fun p hp=>(M3 h p hp).2⟩
theorem BdQ{ps}(hl:ps.length<=30)(h:∀p∈ps,Ap p=true):(Cb ps).size<=241/\1<=(Cb ps).size:=by
 have h1:=Lm (n:=30) hl (b:=7) fun p hp=>eS (Cp (h p hp)).1
 have h2:=Q6 fun p hp=>by have:=(Cp (h p hp)).1;omega
 exact⟨ZA,h2⟩
theorem Be7(g p b w)(hr:rdr w g p)(hp:p<=100000000000)(hb:b.size<=1000):
 Calls Tryz.prog 67 #[.pointer (P_ g),.string b] w fun e w'=>∃(s:Y_) (p':Nat),e=.returned (.string s)/\s.size<=1001/\rdr w' g p'/\p'<=p+8/\w.grownBy w' (some g):=by
 have ab:=hr.lt;go_enter func67,ntmps67
 refine' ZC;refine(Zz 3 g p _ [0,1,0,2,3] _ (hr.alloc _) ZA (a_ 3 (g+1) w [0,1,0,2,3] Zg ZE ZA) ZE).mono ?_;rintro e w1 ⟨n,hn,rfl,ew,ey⟩;refine' ZN5;have lK:0<=n/\n<=3:=Rf
 refine' ZEw;clear hn
 refine' ZC;go_loopw[1,5] (fun t i wr=>∃(k:Nat) (s:Y_) (q:Nat),k<=N/\i=.int .i64 k/\t=.string s/\s.size<=1000/\rdr wr g q/\q+2*k<=p+1+2*N/\Hid (w.grownBy wr (some g))) (fun _ i _=>(intOf i).toNat)
 case atStart=>exact⟨N,b,p+1,aC _,rfl,rfl,hb,ew,ZA,ey⟩
 case round=>
  obtain⟨k,s,q,hk,rfl,rfl,HS,ko,xl,gr⟩:=hrel;refine' zO;clear ew ey;by_cases fp:0<k/\0<s.size
  .obtain⟨fp,hs0⟩:=fp
   refine' ZC;refine(p_ g q s.size _ ko ZA ZS).mono ?_;rintro e w5 ⟨z,rfl,hz,ex,aj⟩;refine' ZHK;obtain⟨m,rfl⟩:=aK z0;have qK:m<s.size:=ZA
   have HG5:=aA (vU gr.out aj);obtain⟨pp,JH⟩:∃pp,q+1=pp:=⟨_,rfl⟩;rw[JH]at ex;have ED:=aA JH;have rF:=aA ex;have nZ:pp<=200000000000:=ZA
   clear hz aj gr ko JH z1 z0;obtain⟨n1,OE⟩:∃n1:Nat,n1=m+1:=⟨_,rfl⟩;have tq:aD.wrap ((m:Int)+1)=(n1:Int):=Z8
   have FS:(n1:Int)<=(s.size:Int):=ZA
   have FU:(0:Int)<=(n1:Int):=ZA
   have FV:(m:Int)<=(s.size:Int):=ZA
   have tV:(0:Int)<=(m:Int):=ZA
   have HN:=aA OE;clear OE
   refine' ZC;have td:=rF.out.lt;have FW:Hid (∀(x:Y_),x.size<=1->∀W,(Op.stringOp .add (s.extract 0 m) x).run Tryz.prog W=.ok (.string (s.extract 0 m++x)) W):=fun x hx W=>jQ (w:=W) _ _ zL ZA
   have FX:Hid (∀(x:Y_),x.size<=1->∀W,(Op.stringOp .add (s.extract 0 m++x) (s.extract n1 s.size)).run Tryz.prog W=.ok (.string (s.extract 0 m++x++s.extract n1 s.size)) W):=fun x hx W=>jQ (w:=W) _ _ ZJr zL
   refine' ZZR;have R1:Hid (∀o:Obj,rdr (w5.alloc o).drew g (pp)):=fun o=>(rF.out.alloc o).below ((aF _ _).drew)
   have G1:Hid (∀o:Obj,w5.grownBy (w5.alloc o).drew (some g)):=fun o=>by{have h:=cQ w5 o (some g);exact ZGL};have O1:Hid (own 9 (g+1) (w5.alloc (aB #[aG ⟨#[124]⟩,aG ⟨#[46]⟩,aG ⟨#[63]⟩] 9)).drew (.slice (P_ w5.heap.size) 3 3) ([⟨#[124]⟩,⟨#[46]⟩,⟨#[63]⟩]:List Y_)):=(X_ 9 (g+1) w5 ([⟨#[124]⟩,⟨#[46]⟩,⟨#[63]⟩]:List Y_) ZTq ZE td).drew;have lm:Hid (∀W v,rdr W g (pp)->w5.grownBy W (some g)->own 9 (g+1) W v ([⟨#[124]⟩,⟨#[46]⟩,⟨#[63]⟩]:List Y_)->Calls Tryz.prog 22 #[.pointer (P_ g),v] W fun e W'=>∃x:Y_,e=.returned (.string x)/\x.size<=1/\rdr W' g ((pp)+1)/\w5.grownBy W' (some g)):=fun W v hr hk hv=>by{refine(Vn 9 g _ v ([⟨#[124]⟩,⟨#[46]⟩,⟨#[63]⟩]:List Y_) W hr ZA hv ZE).mono ?_;rintro e w6 ⟨x,hx,rfl,_,ks,kI⟩;exact⟨x,rfl,by simp at hx;rcases hx with rfl|rfl|rfl<;>decide,ks,vU hk kI⟩};go_region_held3 (fun _=>True) (first|exact trivial|fail) (first|(go_at_call 22;(with_reducible refine(lm.out _ _ (R1.out _) (G1.out _) O1.out).mono ?_);rintro e w6 ⟨x,rfl,ke,ks,g6⟩;have uX:=FW.out x ke;have uj:=FX.out x ke)|fail)
   all_goals
    have HZ:Hid ((s.extract 0 m++x++s.extract n1 s.size).size<=1000):=by{show _<=_;have:=HN.out;exact ZZS};have HG6:=aA (vU HG5.out g6);clear g6 uX uj
    refine' ZC;go_roundw
    case rel=>exact⟨k - 1,_,pp+1,ZA,ZJ,rfl,HZ.out,ks,by have:=ED.out;omega,HG6.out⟩
    case measure=>exact ZK
  .have r8:¬(0:Int)<(k:Int)\/¬(0:Int)<(s.size:Int):=ZA
   rcases Nat.eq_zero_or_pos k with lv|lv
   .exact ZZT
   .have jd:¬(0:Int)<(s.size:Int):=ZA
    exact ZZT
open Go.Sort
def cfL(x y:Ltr):Int:=Lib.compareBytes x.code.data.toList y.code.data.toList
def r_(x y:Ltr×Nat):Int:=cfL x.1 y.1
def Dc(x y:Ltr×Nat):Bool:=ltOf r_ x y||(!ltOf r_ y x&&decide (x.2<y.2))
theorem dN:SWO (ltOf r_):=An3 fun x:Ltr×Nat=>x.1.code
theorem ZDA{x y}:Dc x y=true↔ltOf r_ x y=true\/(ltOf r_ y x=false/\x.2<y.2):=by unfold Dc;simp only[jF,aO,fJ,dZ]
theorem AmK{x y}:Dc x y=false↔ltOf r_ x y=false/\(ltOf r_ y x=true\/¬x.2<y.2):=by rw[<-fC,ZDA];cases ltOf r_ x y<;>cases ltOf r_ y x<;>simp
theorem Zk:SWO Dc where
 irrefl x:=by rw[AmK];exact⟨dN.irrefl x,.inr (Nat.lt_irrefl _)⟩
 trans x y z h1 h2:=by
  rw[ZDA]at *;rcases h1 with h1|⟨h1,t1⟩<;>rcases h2 with h2|⟨h2,t2⟩
  .exact .inl (dN.trans _ _ _ h1 h2)
  .left
   cases hh:ltOf r_ x z with
   |true=>rfl
   |false=>have:=dN.ntrans _ _ _ hh h2;rw[this]at h1;cases h1
  .left
   cases hh:ltOf r_ x z with
   |true=>rfl
   |false=>have:=dN.ntrans _ _ _ h1 hh;rw[this]at h2;cases h2
  .exact .inr ⟨dN.ntrans _ _ _ h2 h1,ZA⟩
 ntrans x y z h1 h2:=by
  rw[AmK]at *;obtain⟨a1,b1⟩:=h1;obtain⟨a2,b2⟩:=h2;refine⟨dN.ntrans _ _ _ a1 a2,?_⟩;cases hh:ltOf r_ z x with
  |true=>exact .inl rfl
  |false=>
   right
   rcases b1 with b1|b1
   .have:=dN.ntrans _ _ _ a2 hh;rw[this]at b1;cases b1
   .rcases b2 with b2|b2
    .have:=dN.ntrans _ _ _ hh a1;rw[this]at b2;cases b2
    .omega
theorem Ay3{x y}(h:x.2<y.2):Dc y x=ltOf r_ y x:=by unfold Dc;rw[aP (show¬y.2<x.2 by omega)];simp
theorem BcW{x y}(h:x.2<y.2):r_ y x<0↔Dc y x=true:=by rw[Ay3 h];unfold ltOf;rw[dZ]
theorem Av1{x y}(h:x.2≠y.2)(hl:Dc y x=false):Dc x y=true:=by
 rw[AmK]at hl;rw[ZDA];cases hh:ltOf r_ x y with
 |true=>exact .inl rfl
 |false=>
  right
  refine⟨hl.1,?_⟩;rcases hl.2 with h2|h2
  .rw[hh]at h2;cases h2
  .omega
theorem ZDH(a):∀(j:Nat) (d:Array (Ltr×Nat)),j<d.size->(∀p,a<=p->p<j->d[p]!.2<d[j]!.2)->insInner (ltOf r_) a j d=insInner Dc a j d
 |0,d,_,_=>by rw[insInner,insInner]
 |j+1,d,hj,h=>by
  rw[insInner,insInner];by_cases hja:a<j+1
  .rw[Ay3 (h j ZA ZA)]
   cases hl:ltOf r_ d[j+1]! d[j]! with
   |false=>simp
   |true=>
    have hc:(decide (j+1 > a)&&true)=true:=ZH
    rw[aQ hc,aQ hc];refine ZDH a j _ (by rw[size_swp];omega) fun p h1 h2=>?_
    rw[swp_other _ _ _ _ ZA ZA,swp_right _ _ _ ZA];exact h p h1 ZA
  .rw[aM ZH,aM ZH]
theorem AwB(a b):∀(n i:Nat) (d:Array (Ltr×Nat)),b - i=n->a<i->i<=b->b<=d.size->SortedIn Dc a i d->(∀q,i<=q->q<b->∀p,a<=p->p<q->d[p]!.2<d[q]!.2)->
 insOuter (ltOf r_) a b i d=insOuter Dc a b i d
 |0,i,d,hn,_,_,_,_,_=>ZVL
 |n+1,i,d,hn,hai,hib,hb,hs,h=>by
  have ab:i<b:=ZA
  rw[insOuter_go _ _ _ _ _ ab,insOuter_go _ _ _ _ _ ab,ZDH a i d ZA (h i (aC _) ab)];have h1:=insInner_spec Zk swp_permIn permIn_refl permIn_trans a (i+1) i ZA i d ZA (aC _) ZA ⟨fun p q qV sI TF _ hq=>hs p q qV sI ZA,fun q h1 h2=>ZA⟩;refine AwB a b n (i+1) _ ZA ZA ZA (by rw[h1.1.1];exact hb) h1.2 fun q BU sF p mG nP=>?_
  rw[h1.1.2.1 q (gT BU)];by_cases hp:i+1<=p
  .rw[h1.1.2.1 p (gT hp)];exact h q ZA sF p mG nP
  .exact permIn_all d _ a (i+1) (fun x=>x.2<d[q]!.2) ZA h1.1 (fun y b1 b2=>h q ZA sF y b1 ZA) p mG ZA
theorem Ad1{a b d}(pX:a<=b)(hb:b<=d.size)(h:∀q,a<=q->q<b->∀p,a<=p->p<q->d[p]!.2<d[q]!.2):
 PermIn a b d (insertionSort (ltOf r_) d a b)/\SortedIn Dc a b (insertionSort (ltOf r_) d a b):=by
 have e:insertionSort (ltOf r_) d a b=insertionSort Dc d a b:=by
  unfold insertionSort;by_cases he:a=b
  .subst he
   exact ZVL
  .exact AwB a b (b - (a+1)) (a+1) d rfl ZA ZA hb (fun i j h1 h2 h3=>ZA) fun q h1 h2 p h3 h4=>h q ZA h2 p h3 h4
 rw[e];exact insertionSort_holds Zk d a b pX hb
def Nw(xs:List Ltr):List (Ltr×Nat):=xs.zipIdx
theorem Oz(xs):(Nw xs).length=xs.length:=by unfold Nw;simp
theorem Ag6(xs):(Nw xs).map Prod.fst=xs:=by unfold Nw;simp
theorem ZC2(xs k)(h:k<(Nw xs).length):(Nw xs)[k]=(xs[k]'(by rw[Oz]at h;exact h),k):=by simp[Nw]
theorem AbO(xs):(Nw xs).Pairwise fun x y=>x.2<y.2:=by refine' ZKc;rw[ZC2,ZC2];exact rg
def Le(xs:List Ltr):Array (Ltr×Nat):=insertionSort (ltOf r_) (Nw xs).toArray 0 xs.length
def E9(xs:List Ltr):List Ltr:=(Le xs).toList.map Prod.fst
theorem AoT:∀{l1 l2:List (Ltr×Nat)},l1.Perm l2->l1.Pairwise (fun x y=>Dc x y=true)->l2.Pairwise (fun x y=>Dc x y=true)->l1=l2
 |[],l2,hp,_,_=>by rw[hp.symm.eq_nil]
 |x::l1,[],hp,_,_=>by simpa using hp.length_eq
 |x::l1,y::l2,hp,h1,h2=>by
  rw[fZ]at h1 h2;have xX:x=y:=by
   refine' ZVK;rcases List.mem_cons.1 m1 with e|m1
   .exact e
   rcases List.mem_cons.1 m2 with e|m2
   .exact e.symm
   have:=Zk.trans _ _ _ (h1.1 y m2) (h2.1 x m1);rw[Zk.irrefl]at this;cases this
  subst xX;rw[AoT (List.perm_cons x |>.1 hp) h1.2 h2.2]
theorem ZDC{n xs d}(hn:n=xs.length)(hp:PermIn 0 n (Nw xs).toArray d)(hs:SortedIn Dc 0 n d):d.toList.Perm (Nw xs)/\d.toList.Pairwise fun x y=>Dc x y=true:=by
 have hz:(Nw xs).toArray.size=n:=by simp[Oz,hn]
 have h1:d.toList.Perm (Nw xs):=by have:=AhI (d:=(Nw xs).toArray) (by rw[hz];exact hp);exact zV
 refine⟨h1,?_⟩;have QZ:(d.toList.map Prod.snd).Nodup:=by
  have h2:((Nw xs).map Prod.snd).Nodup:=by unfold List.Nodup;rw[iK];exact(AbO xs).imp fun h=>ZA
  exact(h1.map Prod.snd).nodup_iff.2 h2
 have tI:d.size=n:=hp.1.trans hz;refine' ZKc;have vP:i<d.size:=Sr
 have vQ:j<d.size:=Qy
 have h3:=hs i j (aN _) rg ZA;rw[fR d i vP,fR d j vQ]at h3;have h4:d.toList[i].2≠d.toList[j].2:=by unfold List.Nodup at QZ;rw[dJ]at QZ;have:=QZ i j Sr Qy rg;exact zV
 exact Av1 h4 h3
theorem ZEA(xs):PermIn 0 xs.length (Nw xs).toArray (Le xs)/\SortedIn Dc 0 xs.length (Le xs):=by
 unfold Le;refine Ad1 (aN _) (by simp[Oz]) fun q _ hq p _ hp=>?_
 have h:=AbO xs;rw[dJ]at h;have hl:=Oz xs;have:=h p q ZA ZA hp;rw[fR _ p ZH,fR _ q ZH];exact zV
theorem ZBZ{xs}{l:List (Ltr×Nat)}(hp:l.Perm (Nw xs))(hs:l.Pairwise fun x y=>Dc x y=true):l.map Prod.fst=E9 xs:=by obtain⟨h1,h2⟩:=ZDC rfl (ZEA xs).1 (ZEA xs).2;unfold E9;rw[AoT (hp.trans h1.symm) hs h2]
theorem AqP{xs d}(hp:PermIn 0 xs.length (Nw xs).toArray d)(hs:SortedIn Dc 0 xs.length d):d.toList.map Prod.fst=E9 xs:=by obtain⟨h1,h2⟩:=ZDC rfl hp hs;exact ZBZ h1 h2
theorem Oe(xs):(E9 xs).Perm xs:=by obtain⟨h1,_⟩:=ZDC rfl (ZEA xs).1 (ZEA xs).2;have:=h1.map Prod.fst;rw[Ag6]at this;exact this
end Go.Proofs.YtfadhdacjpmmeaaGreatDoor
