/- Parts. -/
import Derived.Test.YtfadhdacjpmmeaaGreatDoorQ31
import Derived.Test.YtfadhdacjpmmeaaGreatDoorQ20
set_option linter.unusedVariables false
set_option linter.unusedSimpArgs false
namespace Go.Proofs.YtfadhdacjpmmeaaGreatDoor
set_option maxRecDepth 100000
set_option maxHeartbeats 3200000
open Go.IntKind renaming i64→aI
open Go.Obj renaming cells→aC
open Go.Proofs.Tryz renaming prog→aB
open Go.Value renaming string→aK,int→bC
open Go.RowKit
def Cf:ByteArray:=⟨#[108,101,116,116,101,114,115]⟩
def Df:ByteArray:=⟨#[112,108,97,110]⟩
def Gd:ByteArray:=⟨#[109,111,118,101,100]⟩
def Mf:ByteArray:=⟨#[115,111,114,116]⟩
def Ef:ByteArray:=⟨#[115,101,113,117,101,110,99,101]⟩
def F4:ByteArray:=⟨#[115,101,97,108]⟩
def C8:ByteArray:=⟨#[112,97,115,115]⟩
theorem BcO{B d w s vH}{n:String}{g cs}(hg:aB.globalNamed n=some g)(h:w.var? aB n=some cs)(hD:Bv B w d s vH)(bj:cs.size≠8)(i u):(w.setCell ⟨d,i,none⟩ u).var? aB n=some cs:=by
 obtain⟨vL,vO,vF,vN,os,h0,_⟩:=hD;unfold World.var? at h⊢;rw[hg]at h⊢;simp only[Option.bind_some]at h⊢;have mw:g≠d:=fun e=>by subst e;rw[h0]at h;simp only[Option.bind_some]at h;injection h with h;rw[←h]at bj;exact bj rfl
 rw[bP _ _ _ _ mw];exact h
theorem I4.setD{B d w s vH}(h:I4 w)(hD:Bv B w d s vH)(i u):I4 (w.setCell ⟨d,i,none⟩ u):=
 BcO (g:=4) ZB h hD ZF i u
theorem Bv.setLetters{B d w s vH v' xs}(h:Bv B w d s vH)(hn:own 119 B w v' xs):Bv B (w.setCell ⟨d,0,none⟩ v') d {s with letters:=xs} vH:=by refine' ZBu;refine⟨v',vO,vF,vN,os,?_,D3 hn ho ZF 0,D3 h2 ho ZF 0,D3 h3 ho ZF 0,D3 h4 ho ZF 0,AcP h5 ho ZF ZF 0,h6⟩;have:=cG w d 0 _ _ v' h0;rw[this];rfl
theorem Bv.setBins{B d w s vH}(h:Bv B w d s vH)(n):Bv B (w.setCell ⟨d,1,none⟩ (.int .i64 n)) d {s with day:={s.day with plan:={s.day.plan with bins:=n}}} vH:=by refine' ZBu;refine⟨vL,vO,vF,vN,os,?_,D3 h1 ho ZF 1,D3 h2 ho ZF 1,D3 h3 ho ZF 1,D3 h4 ho ZF 1,AcP h5 ho ZF ZF 1,h6⟩;have:=cG w d 1 _ _ (.int .i64 n) h0;rw[this];rfl
theorem Bv.setPasses{B d w s vH}(h:Bv B w d s vH)(n):Bv B (w.setCell ⟨d,2,none⟩ (.int .i64 n)) d {s with day:={s.day with plan:={s.day.plan with passes:=n}}} vH:=by refine' ZBu;refine⟨vL,vO,vF,vN,os,?_,D3 h1 ho ZF 2,D3 h2 ho ZF 2,D3 h3 ho ZF 2,D3 h4 ho ZF 2,AcP h5 ho ZF ZF 2,h6⟩;have:=cG w d 2 _ _ (.int .i64 n) h0;rw[this];rfl
theorem Bv.setOrder{B d w s vH v' cs}(h:Bv B w d s vH)(hn:own 9 B w v' cs)(ha:apart v' vH):Bv B (w.setCell ⟨d,3,none⟩ v') d {s with day:={s.day with plan:={s.day.plan with order:=cs}}} vH:=by refine' ZBu;refine⟨vL,v',vF,vN,os,?_,D3 h1 ho ZF 3,D3 hn ho ZF 3,D3 h3 ho ZF 3,D3 h4 ho ZF 3,AcP h5 ho ZF ZF 3,ha⟩;have:=cG w d 3 _ _ v' h0;rw[this];rfl
theorem Nz(B d s vH v xs ok w)(hD:Bv B w d s vH)(ho:own 119 B w v xs)(hT:I4 w):
 Calls aB 53 #[.pointer (some ⟨d,0,none⟩),v,.bool ok] w (Bb B d (if ok then{s with letters:=xs}else s) vH (if ok then Co xs else⟨#[]⟩) w):=by
 refine' zC;refine' zZ;have HT:=aA (hT.setD hD 0 v);obtain⟨A,n,c,rfl, -, -, -, -⟩:=ho.rd;obtain⟨_,_,_,_,_,⟨c0,_,_,_,_,_,_,_⟩,hf,_⟩:=Ca hD;have f0:=hf 0;clear hD ho hT hf;cases ok
 ·go_enter Tryz.func53,Tryz.ntmps53
  exact ZCb
 ·have HF:=aA (F7 _ xs _ (D3 (u:=.slice A n c) HO.out HD.out.obj ZF 0).rd HT.out)
  go_enter Tryz.func53,Tryz.ntmps53
  refine' ZBv;have bt:=aA b1;clear b1
  refine' ZI;exact Bb.post ⟨rfl,vH,HD.out.setLetters HO.out,(Kd.of_below (aF _ _)).set 0 _,Nu.refl _ _⟩ bt.out
theorem ArD(B d s vH w)(hD:Bv B w d s vH)(hT:I4 w)(hi:Bj s.day.plan.bins∧Bj s.day.plan.passes)(hm:Bj (F5 s.day.plan s.letters)):
 Calls aB 52 #[.pointer (some ⟨d,0,none⟩),.string Gd] w (Bb B d s vH (G1 (F5 s.day.plan s.letters)) w):=by
 refine' ZIA;have HM:Hid (∀W,Below w.heap.size w W→Calls aB 124 #[.agg #[.int .i64 s.day.plan.bins,.int .i64 s.day.plan.passes,.slice AO nO cO],.slice AL nL cL] W fun e w'=>e=.returned (.int .i64 (F5 s.day.plan s.letters))∧Below W.heap.size W w'):=fun W hW=>Y1 _ _ s.day.plan s.letters W (pM.on hW) (hL.rd.on hW)
 have HN:Hid (∀W,Below w.heap.size w W→Calls aB 120 #[.int .i64 (F5 s.day.plan s.letters)] W fun e w'=>e=.returned (.string (G1 (F5 s.day.plan s.letters)))∧Below W.heap.size W w'):=fun W hW=>Jg _ W hm (hT.on hW)
 refine' ZDo;refine' ZBN;clear hD hT hi hm pM hL hO c0 c1 c2 c3;generalize F5 s.day.plan s.letters=mv at *;refine' ZOk;have d8:(Gd.toList==[115,101,113,117,101,110,99,101])=false:=ZD
 have fd:(Gd.toList==[115,101,97,108])=false:=ZD
 have gq:(Gd.toList==[112,108,97,110])=false:=ZD
 refine' ZOl;refine' ZBw;go_region_held3 (fun W=>Below w.heap.size w W) (first|exact ld|exact k2|exact k1|fail) (first|(go_at_call 124;first|(refine' ZIB;refine' YW;have k1:=Aa ZCc z1)|fail)|(go_at_call 120;first|((with_reducible refine(HN.out _ ZDl).mono ?_);refine' YX;have k2:=Aa ZDl z2)|fail)|fail)
 all_goals
  have K2:=aA k2;clear k1 k2 z1 z2 ld
  exact ZFQ
theorem AuN(B d s vH w)(hD:Bv B w d s vH)(hT:I4 w)(h1:Bj (Gy (okB s.letters) (sL s.letters)))(h2:Bj (Gy (okB s.letters) (osL s.letters)))
 (z1:(G1 (Gy (okB s.letters) (sL s.letters))).size≤100) (z2:(G1 (Gy (okB s.letters) (osL s.letters))).size≤100):
 Calls aB 52 #[.pointer (some ⟨d,0,none⟩),.string F4] w (Bb B d s vH (G1 (Gy (okB s.letters) (sL s.letters))++⟨#[32]⟩++G1 (Gy (okB s.letters) (osL s.letters))) w):=by
 refine' ZOm;have HS:Hid (∀W,Below w.heap.size w W→Calls aB 121 #[.slice AL nL cL] W fun e w'=>e=.returned (.int .i64 (Gy (okB s.letters) (sL s.letters)))∧Below W.heap.size W w'):=fun W hW=>AqE _ s.letters W (hL.rd.on hW)
 have HO:Hid (∀W,Below w.heap.size w W→Calls aB 122 #[.slice AL nL cL] W fun e w'=>e=.returned (.int .i64 (Gy (okB s.letters) (osL s.letters)))∧Below W.heap.size W w'):=fun W hW=>AgW _ s.letters W (hL.rd.on hW)
 have pL:Hid (∀W,Below w.heap.size w W→Calls aB 120 #[.int .i64 (Gy (okB s.letters) (sL s.letters))] W fun e w'=>e=.returned (.string (G1 (Gy (okB s.letters) (sL s.letters))))∧Below W.heap.size W w'):=fun W hW=>Jg _ W h1 (hT.on hW)
 have th:Hid (∀W,Below w.heap.size w W→Calls aB 120 #[.int .i64 (Gy (okB s.letters) (osL s.letters))] W fun e w'=>e=.returned (.string (G1 (Gy (okB s.letters) (osL s.letters))))∧Below W.heap.size W w'):=fun W hW=>Jg _ W h2 (hT.on hW)
 refine' ZOn;refine' ZBN;clear hD hT h1 h2 hL hO c0;generalize G1 (Gy (okB s.letters) (sL s.letters))=T1 at *;generalize G1 (Gy (okB s.letters) (osL s.letters))=T2 at *;generalize Gy (okB s.letters) (sL s.letters)=n1 at *;generalize Gy (okB s.letters) (osL s.letters)=n2 at *;have a1:¬9223372036854775807<T1.size+1:=ZA
 have a2:¬9223372036854775807<T1.size+1+T2.size:=ZA
 refine' ZOo;have d8:(F4.toList==[115,101,113,117,101,110,99,101])=false:=ZD
 have cm:(F4.toList==[115,101,97,108])=true:=ZD
 generalize F4=wd at *;refine' ZBw;go_region_held3 (fun W=>Below w.heap.size w W) (first|exact ld|exact k4|exact k3|exact k2|exact k1|fail) (first|(go_at_call 121;first|((with_reducible refine(HS.out _ ZCc).mono ?_);refine' YW;have k1:=Aa ZCc z1)|fail)|(go_at_call 120;first|((with_reducible refine(pL.out _ ZDl).mono ?_);refine' YX;have k2:=Aa ZDl z2)|((with_reducible refine(th.out _ ZOp).mono ?_);rintro e u4 ⟨rfl,z4⟩;have k4:=Aa ZOp z4)|fail)|(go_at_call 122;first|((with_reducible refine(HO.out _ ZH4).mono ?_);refine' YI;have k3:=Aa ZH4 z3)|fail)|fail)
 all_goals
  have K4:=aA k4;clear k1 k2 k3 k4 ld
  refine' ZI;exact Bb.of_read HD.out rfl K4.out
theorem AiJ(B d s vH w)(hD:Bv B w d s vH)(hB:B≤w.heap.size)(hT:I4 w)(hi:Bj s.day.plan.bins∧Bj s.day.plan.passes)(hr:M4 s.day.plan s.letters=true):
 Calls aB 119 #[.pointer (some ⟨d,0,none⟩)] w (Bb B d {s with letters:=Dr s.day.plan s.letters} vH (Co (Dr s.day.plan s.letters)++⟨#[47]⟩++Co (Ha s.day.plan s.letters)) w):=by
 refine' ZIA;have HR:Hid (∀W,Below w.heap.size w W→Calls aB 201 #[.agg #[.int .i64 s.day.plan.bins,.int .i64 s.day.plan.passes,.slice AO nO cO],.slice AL nL cL] W fun e w'=>∃vR vS,e=.returned (.tuple #[vR,vS,.bool true])∧own 119 W.heap.size w' vR (Dr s.day.plan s.letters)∧own 119 W.heap.size w' vS (Ha s.day.plan s.letters)∧Below W.heap.size W w'):=fun W hW=>by have h:=Y5 _ _ s.day.plan s.letters W (pM.on hW) (hL.rd.on hW);rw[hr]at h;exact h.mono fun e w' ⟨a,b,x1,x2,x3,_,x5⟩=>⟨a,b,x1,x2,x3,x5⟩
 have yq:=aA hT;refine' ZDo;refine' ZBN;clear hD hT hi hr pM hL hO c0 c1 c2 c3;have z1:=Du (Dr s.day.plan s.letters);have z2:=Du (Ha s.day.plan s.letters);generalize Dr s.day.plan s.letters=R at *;generalize Ha s.day.plan s.letters=S at *;have FN:Hid (∀(v:Value) (W:World),rd W W.heap.size v R→I4 W→Calls aB 117 #[v] W fun e w'=>e=.returned (.string (Co R))∧Below W.heap.size W w'):=fun v W h1 h2=>F7 v R W h1 h2
 have HFS:Hid (∀(v:Value) (W:World),rd W W.heap.size v S→I4 W→Calls aB 117 #[v] W fun e w'=>e=.returned (.string (Co S))∧Below W.heap.size W w'):=fun v W h1 h2=>F7 v S W h1 h2
 generalize Co R=F1 at *;generalize Co S=F2 at *;have a1:¬9223372036854775807<F1.size+1:=ZA
 have a2:¬9223372036854775807<F1.size+1+F2.size:=ZA
 go_enter Tryz.func119,Tryz.ntmps119
 refine' ZC;go_region_held3 (fun W=>Below w.heap.size w W) (first|exact ld|exact k1|fail) (first|(go_at_call 201;first|((with_reducible refine(HR.out _ ld).mono ?_);rintro e u1 ⟨vR,vS,rfl,o1,o2,z3⟩;have k1:=Aa ld z3;obtain⟨AR,nR,cR,rfl, -, -, -, -⟩:=o1.rd;obtain⟨AS,nS,cS,rfl, -, -, -, -⟩:=o2.rd;have O1:=aA o1;have O2:=aA o2;clear o1 o2)|fail)|fail)
 all_goals
  have K1:=aA k1;have px:=aA (HD.out.below K1.out);have lu:=aA (O1.out.base_ (show B≤_ from hB));have ja:=aA (O2.out.base_ (show B≤_ from hB));have qu:=aA ((yq.out.on K1.out).setD px.out 0 (.slice AR nR cR));obtain⟨_,_,_,_,_,⟨c0,_,_,_,_,_,_,_⟩,hf,_⟩:=Ca px.out;have f0:=hf 0;have P1:=aA (D3 (u:=.slice AR nR cR) lu.out px.out.obj ZF 0);have P2:=aA (D3 (u:=.slice AR nR cR) ja.out px.out.obj ZF 0);clear k1 z3 ld hf O1 O2
  refine' ZC;refine(FN.out _ _ P1.out.rd qu.out).mono ?_;refine' zK;have B2:=aA b2;clear b2
  refine' ZC;refine(HFS.out _ _ (P2.out.below B2.out).rd (qu.out.on B2.out)).mono ?_;refine' zH;have B3:=aA (Aa B2.out b3);clear b3
  refine' ZI;exact Bb.post ⟨rfl,vH,px.out.setLetters lu.out,(Kd.of_below K1.out).set 0 _,Nu.refl _ _⟩ B3.out
theorem Aj0(B d s' vH a w)(HC:Calls aB 119 #[.pointer (some ⟨d,0,none⟩)] w (Bb B d s' vH a w)):
 Calls aB 52 #[.pointer (some ⟨d,0,none⟩),.string Ef] w (Bb B d s' vH a w):=by
 refine' ZAL;refine' ZOq;refine' ZOr;go_enter Tryz.func52,Tryz.ntmps52
 exact ZBO
theorem AyF(B d s vH f w)(hD:Bv B w d s vH)(hB:B≤w.heap.size)(hT:I4 w)(hz:f.size≤maxLen):
 Calls aB 58 #[.pointer (some ⟨d,0,none⟩),.string C8,.string f] w (Bb B d (if Jo s.letters (Am f)then{s with letters:=spL s.letters (Am f)}else s) vH (if Jo s.letters (Am f)then Co (spL s.letters (Am f))else⟨#[]⟩) w):=by
 refine' ZOm;have HN:=aA (fun W=>Fg f W hz);obtain⟨dg,hdg⟩:∃dg,Am f=dg:=⟨_,rfl⟩;rw[hdg]at HN⊢;clear hdg hz;have HS:Hid (∀W,Below w.heap.size w W→Calls aB 139 #[.slice AL nL cL,.int .i64 dg] W fun e w'=>∃v',e=.returned (.tuple #[v',.bool (Jo s.letters dg)])∧own 119 W.heap.size w' v' (spL s.letters dg)∧Below W.heap.size W w'):=fun W hW=>Aj5 _ s.letters dg W (hL.rd.on hW)
 have HC:Hid (∀(v:Value) (W:World),Below w.heap.size w W→own 119 B W v (spL s.letters dg)→Calls aB 53 #[.pointer (some ⟨d,0,none⟩),v,.bool (Jo s.letters dg)] W (Bb B d (if Jo s.letters dg then{s with letters:=spL s.letters dg}else s) vH (if Jo s.letters dg then Co (spL s.letters dg)else⟨#[]⟩) W)):=fun v W hW ho=>Nz B d s vH v _ _ W (hD.below hW) ho (hT.on hW)
 refine' ZBN;have cd:w.drew.cell? ⟨d,0,none⟩=some (.slice AL nL cL):=c0;clear hD hT hL hO;generalize(if Jo s.letters dg then({s with letters:=spL s.letters dg}:Dsk)else s)=s' at *;generalize(if Jo s.letters dg then Co (spL s.letters dg)else(⟨#[]⟩:ByteArray))=a at *;generalize Jo s.letters dg=ok at *;generalize spL s.letters dg=L at *;have cm:(C8.toList==[112,97,115,115])=true:=ZD
 generalize C8=wd at *;refine' YZ;refine' ZC;go_region_law (first|(go_simp;go_at_call 140;(with_reducible refine(HN.out _).mono ?_);refine' ZP)|(go_simp;go_at_call 139;(with_reducible refine(HS.out _ ld).mono ?_);refine' ZAv;have k1:=Aa ld z1;have lu:=aA (o1.base_ (show B≤_ from hB));refine' ZBx;clear o1)|(go_simp;go_at_call 53;(with_reducible refine(HC.out _ _ k1 lu.out).mono ?_);rintro e u2 h2;have H2:=aA (Bb.pre k1 h2);obtain⟨rfl,_⟩:=h2))
 all_goals
  clear k1 ld z1
  refine' ZI;exact H2.out
theorem AcW{xs ys}(hp:ys.Perm xs)(h:okB xs=true):okB ys=true:=by obtain⟨h1,h2,h3⟩:=Ke.1 h;exact Ke.2 ⟨by rw[hp.length_eq];exact h1,fun x hx=>h2 x (hp.mem_iff.1 hx),(hp.pairwise_iff (fun{a b} ou=>Ne.symm ou)).2 h3⟩
theorem AnF(n:Nat):G1 (n:Int)=Cl n:=by unfold G1;rw[aL ZA,AnD]
theorem Bc6(xs:List Ltr):∀n:Int,0≤n→n<9973→0≤xs.foldl Aa2 n∧xs.foldl Aa2 n<9973:=by
 induction xs with
 |nil=>exact fun n h0 h1=>⟨h0,h1⟩
 |cons x xs ih=>exact fun n h0 h1=>ih _ (by unfold Aa2;omega) (by unfold Aa2;omega)
theorem AzQ(xs:List Ltr):∀n:Int,0≤n→n<9973→0≤xs.foldl Qn n∧xs.foldl Qn n<9973:=by
 induction xs with
 |nil=>exact fun n h0 h1=>⟨h0,h1⟩
 |cons x xs ih=>exact fun n h0 h1=>ih _ (by unfold Qn;omega) (by unfold Qn;omega)
def Bg:ByteArray:=⟨#[102,111,114,119,97,114,100,115]⟩
def Dk:ByteArray:=⟨#[115,105,122,101]⟩
theorem Pc(fs):(C5 fs).size≤600:=by
 cases h:Be fs
 ·rw[Ag2 h];exact ZZ
 ·by_cases h0:fs.length=0
  ·rw[Vp h h0];exact(ZF:(1:Nat)≤600)
  ·rw[Pe h h0]
   have h1:=Dw (fs.map Ek) spT 16 fun p hp=>(Zt h p hp).1
   have h2:=(Ch.1 h).1;rw[bF]at h1;have h3:fs.length*(16+spT.size)≤30*17:=cC h2 (aD _);omega
theorem Bv.setFwds{B d w s vH v' fs}(h:Bv B w d s vH)(hn:own 128 B w v' fs):Bv B (w.setCell ⟨d,4,none⟩ v') d {s with day:={s.day with fwds:=fs}} vH:=by refine' ZBu;refine⟨vL,vO,v',vN,os,?_,D3 h1 ho ZF 4,D3 h2 ho ZF 4,D3 hn ho ZF 4,D3 h4 ho ZF 4,AcP h5 ho ZF ZF 4,h6⟩;have:=cG w d 4 _ _ v' h0;rw[this];rfl
theorem Bv.setSize{B d w s vH}(h:Bv B w d s vH)(n):Bv B (w.setCell ⟨d,6,none⟩ (.int .i64 n)) d {s with day:={s.day with size:=n}} vH:=by refine' ZBu;refine⟨vL,vO,vF,vN,os,?_,D3 h1 ho ZF 6,D3 h2 ho ZF 6,D3 h3 ho ZF 6,D3 h4 ho ZF 6,AcP h5 ho ZF ZF 6,h6⟩;have:=cG w d 6 _ _ (.int .i64 n) h0;rw[this];rfl
def Cy:ByteArray:=⟨#[104,111,108,100]⟩
theorem AuB{α β:Type}[El α][El β]{T1 T2 B1 B2:Nat}{w v1 v2}{xs:List α}{ys:List β}(h1:own T1 B1 w v1 xs)(h2:own T2 B2 w v2 ys)(hT:T1≠T2){k}(e1:v1.ownBlock=some k):some k≠v2.ownBlock:=fun e2=>by obtain⟨c1,o1⟩:=Wo h1 e1;obtain⟨c2,o2⟩:=Wo h2 e2.symm;rw[o1]at o2;injection o2 with o2;injection o2 with _ o2 _;exact hT o2
theorem St{α β:Type}[Flat α][El β]{T1 T2 B1 B2:Nat}{w w' v1 v2}{xs:List α}{ys:List β}(h1:own T1 B1 w v1 xs)(h2:own T2 B2 w v2 ys)(hT:T1≠T2)(hg:w.grownBy w' v2.ownBlock):own T1 B1 w' v1 xs:=
 h1.keepBlk fun k e=>hg.block k (h1.blk k e).2 (AuB h1 h2 hT e)
theorem AxX{B d w s vH}(h:Bv B w d s vH):some d≠vH.ownBlock:=fun e=>by obtain⟨c1,h1⟩:=Wo h.held e.symm;obtain⟨c2,h2⟩:=h.obj;rw[h1]at h2;injection h2 with h2;injection h2 with _ h2 _;exact absurd h2 ZF
theorem Bv.hold{B d w w1 s vH wS hs}(h:Bv B w d s vH)(hg:w.grownBy w1 vH.ownBlock)(iy:own 9 B w1 wS hs)(hN:wS.ownBlock=vH.ownBlock∨∀k,wS.ownBlock=some k→w.heap.size≤k):
 Bv B (w1.setCell ⟨d,5,none⟩ wS) d {s with day:={s.day with held:=hs}} wS∧Kd d vH w (w1.setCell ⟨d,5,none⟩ wS):=by
 have bj:=AxX h;have ab:=h.lt;have hK:Kd d vH w (w1.setCell ⟨d,5,none⟩ wS):=by have h1:Kd d vH w w1:=⟨hg.os,hg.tape,hg.output,hg.size,fun k hk _ h2=>hg.block k hk h2⟩;exact h1.set 5 _
 refine⟨?_,hK⟩;refine' ZIE;have h0':w1.heap[d]? =_:=(hg.block d ab bj).trans h0;have JH:∃bu:Array Value,w1.heap[d]? =some (.cells bu 47 (0,0)):=⟨_,h0'⟩;have g1:=St h1 h4 ZF hg;have g3:=St h3 h4 ZF hg;have g2:own 9 B w1 vO s.day.plan.order:=h2.keepBlk fun k e=>by
  refine hg.block k (h2.blk k e).2 fun e2=>?_
  rcases h6 with h6|h6
  ·rw[e]at h6;cases h6
  ·exact h6 (e.trans e2)
 have g5:isN 45 181 B w1 vN s.net os:=⟨St h5.1 h4 ZF hg,h5.2.1,fun k a b=>⟨(h5.2.2.1 k a b).1,St (h5.2.2.1 k a b).2 h4 ZF hg⟩,h5.2.2.2.1,h5.2.2.2.2⟩;have ha:apart vO wS:=by
  unfold apart at *;cases hv:vO.ownBlock with
  |none=>exact .inl rfl
  |some k=>
   refine' YR;rcases hN with hN|hN
   ·rw[hN]at e
    rcases h6 with h6|h6
    ·rw[hv]at h6;cases h6
    ·exact h6 (hv.trans e)
   ·have z1:=hN k e.symm
    have z2:=(h2.blk k hv).2;omega
 refine⟨vL,vO,vF,vN,os,?_,D3 g1 JH ZF 5,D3 g2 JH ZF 5,D3 g3 JH ZF 5,D3 iy JH ZF 5,AcP g5 JH ZF ZF 5,ha⟩;have:=cG w1 d 5 _ _ wS h0';rw[this];rfl
theorem AuK(B d s vH c w)(hD:Bv B w d s vH)(hB:B≤w.heap.size)(hc:Ap c=true)(hl:s.day.held.length<30)(hz:∀x∈s.day.held,x.size≤1000):
 Calls aB 147 #[.pointer (some ⟨d,0,none⟩),.string c] w (Bb B d {s with day:={s.day with held:=s.day.held++[c]}} vH (Cb (s.day.held++[c])) w):=by
 have h7:=(Cp hc).1;refine' ZNi;refine' zh;obtain⟨AH,nH,cH,rfl,hn, -, -, -⟩:=hD.held.rd;refine' zC;have HO:=aA hD.held;obtain⟨_,_,_,_,_,⟨_,_,_,_,_,c5,_,_⟩,hf,_⟩:=Ca hD;have f5:=hf 5;have qq:=hD.lt;have bj:=AxX hD;have kQ:Hid (∀(v:Value) (W:World),rd W W.heap.size v (s.day.held++[c])→Calls aB 127 #[v] W fun e w'=>e=.returned (.string (Cb (s.day.held++[c])))∧Below W.heap.size W w'):=fun v W h=>Hw v _ W h ZDp fun x hx=>by
  rcases List.mem_append.1 hx with hx|hx
  ·exact hz x hx
  ·rw[List.mem_singleton.1 hx];omega
 have HHN:=aA hn;have MK:nH<30:=ZA
 clear hD hf hc hz hl hn;generalize RA:s.day.held=hs at *;clear RA;go_enter Tryz.func147,Tryz.ntmps147
 refine' ZC;refine' zz;go_wp2_with (at_builtin;refine An (α:=ByteArray) rfl (.tmp 22) (.tmp 24) 28 rfl B 9 i0 _ 16 aW hi ah aw aq rfl ZF (.slice AH nH cH) hs c rfl (HO.out.alloc _) ⟨w.heap.size,0,none⟩ 1 [.string c] rfl ⟨ZN,rfl⟩ (Bz w _ [.string c]) (by have:=HHN.out;exact ZN) (by have:=HHN.out;omega) ZH ?_;intro g cap w7 kz dm xR wH;have c7:w7.cell? ⟨d,5,none⟩=some (.slice AH nH cH):=(dm.cell_far ⟨d,5,none⟩ ZH bj).trans zB;have f7:w7.frozen? ⟨d,5,none⟩=false:=(dm.frozen_far ⟨d,5,none⟩ ZH bj).trans zB)
 have HDW:=HD.out.below ((aF w.heap.size w).alloc (aD _) (aC #[.string c] 9));have SQ:(Value.slice (some ⟨g,0,none⟩) (hs.length+1) cap).ownBlock=(Value.slice AH nH cH).ownBlock∨∀k,(Value.slice (some ⟨g,0,none⟩) (hs.length+1) cap).ownBlock=some k→(w.alloc (aC #[.string c] 9)).heap.size≤k:=by
  rcases xR with h|h
  ·exact .inl (by rw[←h];simp[Value.ownBlock])
  ·refine .inr fun k hk=>?_
   have:g=k:=by simpa [Value.ownBlock]using hk
   omega
 obtain⟨h8,k8⟩:=HDW.hold dm kz SQ;have H8:=aA h8;have K8:=aA ((Kd.of_below ((aF w.heap.size w).alloc (aD _) (aC #[.string c] 9))).trans k8);have N8:Hid (Nu w (.slice AH nH cH) (.slice (some ⟨g,0,none⟩) (hs.length+1) cap)):=by
  rcases SQ with h|h
  ·exact .inl h
  ·exact .inr fun k hk=>by have:=h k hk;simp at this;omega
 clear h8 k8 HDW SQ kz dm xR;refine(kQ.out _ _ H8.out.held.rd).mono ?_;rintro e w9 ⟨rfl,b9⟩;have B9:=aA b9;clear b9
 refine' ZI;exact Bb.post ⟨rfl,_,H8.out,K8.out,N8.out⟩ B9.out
theorem AxJ(B d s' vH f a w)(HC:Calls aB 147 #[.pointer (some ⟨d,0,none⟩),.string f] w (Bb B d s' vH a w)):
 Calls aB 58 #[.pointer (some ⟨d,0,none⟩),.string Cy,.string f] w (Bb B d s' vH a w):=by
 refine' ZAL;have ca:(Cy.toList==[112,97,115,115])=false:=ZD
 have db:(Cy.toList==[99,111,117,110,116])=false:=ZD
 have d8:(Cy.toList==[114,97,110,107])=false:=ZD
 have fd:(Cy.toList==[108,111,97,100,115])=false:=ZD
 have gq:(Cy.toList==[115,116,97,121])=false:=ZD
 have i8:(Cy.toList==[114,101,115,111,108,118,101])=false:=ZD
 have cm:(Cy.toList==[104,111,108,100])=true:=ZD
 generalize Cy=wd at *;refine' YZ;exact ZBO
theorem An1{a b c:World}{row}(h:a.grownBy b row)(k:b.grownBy c row):a.grownBy c row:=
 ⟨k.os.trans h.os,k.tape.trans h.tape,k.output.trans h.output,aG h.size k.size,fun i hi bj=>(k.block i (bU hi h.size) bj).trans (h.block i hi bj)⟩
theorem Aa7{T base g n c:Nat}:∀(ys:List ByteArray) (k:Nat) (w:World) (xs:List ByteArray),(∀y∈ys,y.size≤maxLen)→k+ys.length≤xs.length→own T base w (.slice (some ⟨g,0,none⟩) n c) xs→
 own T base (w.setCells g k (ys.map aK)) (.slice (some ⟨g,0,none⟩) n c) (xs.take k++ys++xs.drop (k+ys.length))∧w.grownBy (w.setCells g k (ys.map aK)) (some g)
 |[],k,w,xs,_,_,h=>ZIF
 |y::ys,k,w,xs,hy,hl,h=>by
  simp only[bZ]at hl;have h1:=Ad6 h (k:=k) ZA y (hy y ZE);obtain⟨h2,h3⟩:=Aa7 ys (k+1) (w.setCell ⟨g,k,none⟩ (.string y)) (xs.set k y) (fun z hz=>hy z (by simp[hz])) ZFR h1;refine⟨?_,An1 (Gc (cU _ _) (.inl rfl) _) h3⟩;have e:(xs.set k y).take (k+1)++ys++(xs.set k y).drop (k+1+ys.length)=xs.take k++y::ys++xs.drop (k+(ys.length+1)):=ZOs
  rw[e]at h2;exact h2
theorem AvQ{T base:Nat}{w v}{xs:List ByteArray}(h:own T base w v xs)(os):own T base (Go.Sort.grow w os) v xs:=
 h.keepBlk fun k hk=>ZOt
def Ir(ps:List ByteArray):List ByteArray:=((ps.map (·.data.toList)).mergeSort fun x y=>decide (x≤y)).map fun l=>⟨l.toArray⟩
theorem AbT(ps):(Ir ps).length=ps.length:=by unfold Ir;rw[bF,List.length_mergeSort,bF]
theorem Al5{ps x}(h:x∈Ir ps):x∈ps:=by
 unfold Ir at h;obtain⟨l,hl,rfl⟩:=List.mem_map.1 h;have h1:=(List.mergeSort_perm (ps.map (·.data.toList)) fun x y=>decide (x≤y)).mem_iff.1 hl
 obtain⟨p,hp,rfl⟩:=List.mem_map.1 h1;exact hp
theorem AuQ:Ir []=[]:=by unfold Ir;simp
theorem Am7(T base:Nat)(v xs w)(hv:own T base w v xs)(hz:∀x∈xs,x.size≤maxLen)(hl:xs.length≤1048576):
 Calls aB 208 #[v] w fun e w'=>e=.returned (.tuple #[])∧own T base w' v (Ir xs)∧w.grownBy w' v.ownBlock:=by
 rcases hv.form with⟨rfl,rfl⟩|⟨g,c,rfl,hg,bv,hc,hm⟩
 ·refine(Tryz.slices_Sort_string_none none 0 w).mono ?_
  refine' zN;exact⟨rfl,by rw[AuQ];exact ze,cU _ _⟩
 ·have hH:Go.Sort.Holds encStr w g 0 (xs.map (·.data.toList)).toArray:=fun j hj=>by
   have tW:j<xs.length:=ZDU
   refine⟨?_,hv.freeAt _⟩;have:=Bx hv j tW;rw[bW,this];simp[tW,encStr]
  have h:=Tryz.slices_Sort_string g 0 c (xs.map (·.data.toList)) w hH bv ZCd
  rw[bF]at h;refine h.mono ?_;rintro e w' ⟨rfl,q,os,rfl⟩;rw[Lib.sorted_world encStr w g 0 q (xs.map (·.data.toList)).toArray ((xs.map (·.data.toList)).mergeSort fun x y=>decide (x≤y)) os hH ZE]
  refine' ZIG;have em:((xs.map (·.data.toList)).mergeSort fun x y=>decide (x≤y)).map encStr=(Ir xs).map aK:=by unfold Ir;rw[gX];rfl
  rw[em];obtain⟨h2,h3⟩:=Aa7 (Ir xs) 0 (w.drewN q) xs (fun y hy=>hz y (Al5 hy)) (by rw[AbT];omega) (hv.below bq);have e:xs.take 0++Ir xs++xs.drop (0+(Ir xs).length)=Ir xs:=by rw[AbT];simp
  rw[e]at h2;refine⟨rfl,AvQ h2 os,?_⟩;have h4:=An1 (Vo (cU w (some g)) bq) h3;exact ZOu
def AvY(fs:List Fwd)(x:Fwd):Bool:= !(Bc fs x.src).2.2
def Ru(fs:List Fwd)(k:Nat):List ByteArray:=((fs.take k).filter (AvY fs)).map Fwd.src
def N2(fs:List Fwd):List ByteArray:=if Be fs then Ir (Ru fs fs.length)else []
theorem AmB{fs}(h:Be fs=false):N2 fs=[]:=by unfold N2;rw[h];rfl
theorem AaL{fs}(h:Be fs=true):N2 fs=Ir (Ru fs fs.length):=by unfold N2;rw[aP h]
theorem Zz(fs k):(Ru fs k).length≤fs.length:=by
 unfold Ru;refine' za;have h1:=bJ (AvY fs) (fs.take k);have h3:(fs.take k).length≤fs.length:=zF
 omega
theorem AnZ{fs k}(hk:k<fs.length)(h:(Bc fs fs[k].src).2.2=false):Ru fs (k+1)=Ru fs k++[fs[k].src]:=by
 unfold Ru;have hp:AvY fs fs[k]=true:=by unfold AvY;rw[h];rfl
 refine' ZFS;simp[hp]
theorem AkR{fs k}(hk:k<fs.length)(h:(Bc fs fs[k].src).2.2=true):Ru fs (k+1)=Ru fs k:=by
 unfold Ru;have hp:AvY fs fs[k]=false:=by unfold AvY;rw[h];rfl
 refine' ZFS;simp[hp]
theorem AoE{fs}(h:Be fs=true)(k):∀x∈Ru fs k,Ap x=true:=fun x hx=>by unfold Ru at hx;obtain⟨y,hy,rfl⟩:=List.mem_map.1 hx;have h1:=dY (List.mem_filter.1 hy).1;obtain⟨i,hi,rfl⟩:=bO h1;exact((Ch.1 h).2 i hi).1
theorem Aa0(fs):∀x∈N2 fs,Ap x=true:=fun x hx=>by
 cases h:Be fs
 ·rw[AmB h]at hx;simp at hx
 ·rw[AaL h]at hx
  exact AoE h _ x (Al5 hx)
theorem AhE{fs}:(N2 fs).length≤fs.length:=by
 cases h:Be fs
 ·rw[AmB h];exact ZZ
 ·rw[AaL h,AbT];exact Zz fs _
theorem AaO(v fs w)(hv:rd w w.heap.size v fs):
 Calls aB 128 #[v] w fun e w'=>∃v',e=.returned v'∧own 9 w.heap.size w' v' (N2 fs)∧Below w.heap.size w w':=by
 refine' ZAc;refine' zh;go_enter Tryz.func128,Tryz.ntmps128
 refine' ZC;refine(Dj _ fs _ HV.out).mono ?_;cases ag:Be fs
 ·refine' ZT;have HE:=aA (AmB ag);refine' ZAe;clear ag b1
  refine' ZI;exact⟨.slice none 0 0,rfl,by rw[HE.out];exact ze,ik.out⟩
 refine' ZT;have HE:=aA (AaL ag);have qW:=(Ch.1 ag).1;have HC:Hid (∀k (h:k<fs.length),fs[k].src.size=7):=fun k h=>(Cp ((Ch.1 ag).2 k h).1).1
 have wG:=aA (AoE ag);clear ag;have gh:=b1.size;refine' ZAe;clear b1;have l1:=aF w1.heap.size w1
 refine' ZC;go_loopw[3,14] (fun t i wr=>∃k:Nat,k≤fs.length∧i=.int .i64 k∧Below w1.heap.size w1 wr∧own 9 w1.heap.size wr t (Ru fs k)) (fun _ i _=>fs.length - (intOf i).toNat)
 case atStart=>exact⟨0,aM _,rfl,l1,own.nil_ _ _ _⟩
 case round=>
  refine' ZBj;refine' zl;clear l1;refine' zZ;obtain⟨Av,m,cp,rfl,ly,_,_,_⟩:=ho.rd;have iu:=lr.size;clear ho ly;by_cases ab:k<fs.length
  ·refine' ZDb;have y1:=y1 w2 (ik.out.trans (lr.mono gh));have y2:=y2 w2 (ik.out.trans (lr.mono gh));have h7:=HC.out k ab;have HY:=aA (AnZ ab);have HS:=aA (AkR ab);have qU:Hid (∀W,Below w2.heap.size w2 W→rd W W.heap.size (.slice (some ⟨b,o,none⟩) fs.length c) fs):=fun W hW=>HV.out.on ((ik.out.trans (lr.mono gh)).trans (hW.mono (aG gh iu)))
   have pD:=aA (fun W hW=>Hj (.slice (some ⟨b,o,none⟩) fs.length c) fs fs[k].src W (qU.out W hW) ZN ZA);refine' YU;obtain⟨p,q⟩:=x;simp only at h7 y1 y2 HY HS pD;refine' ZOv;refine' ZAo;refine' zO;have hlm:(Ru fs k).length≤30:=aG (Zz fs k) qW;obtain⟨wl,cz⟩:∃wl:World,wl=w2.alloc (aC #[.string p,.string q] 128):=⟨_,rfl⟩;have xQ:=(Aw cz).1;have x0:=Af cz 0 (.string p) rfl;have LO:=aA (HO.out.below xQ);have LM:=xQ.size;have DP:=aA xQ;have vJ:=aA cz;clear cz xQ
   refine' ZC;rw[←vJ.out];refine(pD.out _ DP.out).mono ?_;refine' zH;have l3:=Aa (Aa lr DP.out) b3;have xy:=x0 w3 b3;have fg:=aA (LO.out.below b3);have oN:=b3.size;clear b3;cases f3
   ·generalize DL:Ru fs k=gs at *
    clear DL
    go_wp2_with (at_builtin;refine An (α:=ByteArray) rfl (.tmp 28) (.tmp 31) 28 rfl w1.heap.size 9 i0 _ 16 aW hi ah aw aq rfl ZF (.slice Av m cp) gs p rfl (fg.out.alloc _) ⟨w3.heap.size,0,none⟩ 1 [.string p] rfl ⟨ZN,rfl⟩ (Bz w3 _ [.string p]) ZN ZA ZH ?_;intro g cap w7 kz dm xR wH)
    have hb7:Below w1.heap.size w1 w7:=(l3.alloc l3.size (aC #[.string p] 9)).grown dm ZH fun r e=>(fg.out.blk r e).1
    have oq:=aA kz;clear kz dm xR
    go_roundw
    case rel=>exact⟨k+1,ZA,ZJ,hb7,by rw[HY.out (by trivial)];exact oq.out⟩
    case measure=>exact ZK
   ·refine' ZC;go_roundw
    case rel=>exact⟨k+1,ZA,ZJ,l3,by rw[HS.out (by trivial)];exact fg.out⟩
    case measure=>exact ZK
  ·have rT:k=fs.length:=ZA
   have uU:Hid (own 9 w1.heap.size w2 (.slice Av m cp) (Ru fs fs.length)):=by
    show own _ _ _ _ _;have:=HO.out
    rwa [rT]at this
   have fe:=aA (Am7 9 w1.heap.size (.slice Av m cp) (Ru fs fs.length) w2 uU.out (fun x hx=>by have:=(Cp (wG.out _ x hx)).1;exact ZN) (by have:=Zz fs fs.length;omega));have LR:=aA lr;clear rT lr
   refine' ZC;refine fe.out.mono ?_;rintro e w3 ⟨rfl,o3,g3⟩;have O3:=aA o3;have L3:Hid (Below w1.heap.size w1 w3):=LR.out.grown g3 LR.out.size fun r e=>(uU.out.blk r e).1
   clear o3 g3
   refine' ZI;exact⟨_,rfl,by rw[HE.out];exact O3.out.base_ gh,ik.out.trans (L3.out.mono gh)⟩
theorem Ax9{xss:List (List Ltr)}{k}(hk:k<xss.length):(xss.take (k+1)).flatten.length=(xss.take k).flatten.length+xss[k].length∧(xss.take (k+1)).flatten.length≤xss.flatten.length:=by
 refine⟨?_,?_⟩
 ·rw[aH hk,bT,aS];simp
 ·exact ZOw
theorem Ab3(v xss s w)(hv:rd w w.heap.size v xss)(hs:Fp s=true)(hn:xss.length≤60)(ht:∀t∈xss,1≤t.length∧(t.length:Int)≤s)(hb:okB xss.flatten=true):
 Calls aB 214 #[v,.int .i64 s] w fun e w'=>e=.returned (.bool true)∧Below w.heap.size w w':=by
 have hl6:=Cq hb;refine' zQ;refine' ZGn;have HS:=aA hs;have HT:=aA ht;refine' ZAa;clear hs ht hb;refine' YF;go_enter Tryz.func214,Tryz.ntmps214
 refine' ZC;refine(Me s _).mono ?_;rw[HS.out];refine' ZW;refine' ZC;go_loopw[5,18] (fun t i wr=>∃k:Nat,k≤xss.length∧i=.int .i64 k∧t=.int .i64 ((xss.take k).flatten.length:Nat)∧Below w.heap.size w wr) (fun _ i _=>xss.length - (intOf i).toNat)
 case atStart=>exact ZDq
 case round=>
  refine' ZDr;refine' zR;clear l0;by_cases ab:k<xss.length
  ·refine' ZCD;obtain⟨r1,r2⟩:=Ax9 ab;obtain⟨t1,t2⟩:=HT.out _ (aU ab);have rJ:Hid ((xss.take (k+1)).flatten.length=(xss.take k).flatten.length+xss[k].length):=r1;generalize(xss.take k).flatten.length=N at *;refine' ZES;subst nI;clear kq;refine' ZDF;have EC:aI.wrap ((N:Int)+(ys.length:Int))=(N:Int)+ys.length:=bI _ ZA;have mr:¬(ys.length:Int)<1:=ZA
   have sK:¬s<(ys.length:Int):=ZA
   have hy3:¬60<(N:Int)+(ys.length:Int):=ZA
   refine' ZC;go_roundw
   case rel=>exact⟨k+1,ZA,ZJ,by rw[rJ.out];simp,lr⟩
   case measure=>exact ZK
  ·refine' ZC;refine(Qz _ xss _ (HV.out.on lr) ZA).mono ?_;rintro e w2 ⟨v',rfl,o2,b2⟩;have l2:=Aa lr b2;have OJ:=aA o2;clear o2
   refine' ZC;refine(Cn _ xss.flatten _ OJ.out.rd).mono ?_;rw[HB.out];refine' zH;refine' YC;refine' ZI;exact⟨rfl,l3⟩
def AaU(xs:List Ltr):ByteArray:=(xs.getD 0 ⟨0,⟨#[]⟩⟩).code++⟨#[45]⟩++(xs.getD (xs.length - 1) ⟨0,⟨#[]⟩⟩).code
theorem AbY{xs}(h0:xs.length≠0)(h:okB xs=true):(AaU xs).size=15:=by unfold AaU;have h1:=(Ep.1 h).2 0 ZA;have h2:=(Ep.1 h).2 (xs.length - 1) ZA;refine' ZOx;simp only[gP,bG,(Cp h1.2.2.1).1,(Cp h2.2.2.1).1];rfl
theorem AcI(v xs w)(hv:rd w w.heap.size v xs)(h0:xs.length≠0)(ag:okB xs=true):
 Calls aB 215 #[v] w fun e w'=>e=.returned (.string (AaU xs))∧Below w.heap.size w w':=by
 refine' ZOy;refine' ZOz;go_enter Tryz.func215,Tryz.ntmps215
 go_wp2_with (go_at_call 194;refine(Cn _ xs _ HV.out).mono ?_;rw[HO.out];refine' ZT)
 have q1:=fun W (hW:Below w1.heap.size w1 W)=>tg.out W (Aa b1 hW)
 have q2:=fun W (hW:Below w1.heap.size w1 W)=>kw.out W (Aa b1 hW)
 simp only[fD,dA]at q1;refine' ZFM;refine' ZAe;clear b1
 go_region_held3 (fun W=>Below w1.heap.size w1 W) (first|exact ld|fail) (fail)
 all_goals
  have lM:=aA ld;clear ld q1 q2
  refine' ZI;exact⟨B8 HL.out.symm,Aa ik.out lM.out⟩
def Ih(t:List Ltr):ByteArray:=AaU t++⟨#[58]⟩++Cl t.length
def Qq(xss:List (List Ltr)):ByteArray:=if xss.length=0 then⟨#[45]⟩else Cg (xss.map Ih) spT
def Vr(xss:List (List Ltr)):Prop:=xss.length≤60∧(∀t∈xss,1≤t.length∧t.length≤20)∧okB xss.flatten=true
theorem Vr.each{xss}(h:Vr xss):∀t∈xss,t.length≠0∧t.length≤20∧okB t=true:=fun t ht=>
 ⟨by have:=(h.2.1 t ht).1;omega,(h.2.1 t ht).2,Qd h.2.2 (List.sublist_flatten_of_mem ht)⟩
theorem M3{xss}(h:Vr xss):∀p∈xss.map Ih,p.size≤20∧1≤p.size:=fun p hp=>by obtain⟨t,ht,rfl⟩:=List.mem_map.1 hp;obtain⟨h1,h2,h3⟩:=h.each t ht;have s1:=AbY h1 h3;have s2:=(C9 (n:=t.length) ZA).1;unfold Ih;refine' YY;show _+1+_≤20∧1≤_+1+_;omega
theorem Vf(v xss w)(hv:rd w w.heap.size v xss)(hk:Vr xss)(hT:I4 w):
 Calls aB 132 #[v] w fun e w'=>e=.returned (.string (Qq xss))∧Below w.heap.size w w':=by
 refine' zQ;have RQ:=aA (Ab3 v xss 20 w hv ZF hk.1 (fun t ht=>by have:=hk.2.1 t ht;omega) hk.2.2);have kl:=hk.1;refine' ZAd;clear hk;refine' ZBy;have HT:=aA hT;clear hT;refine' zh;go_enter Tryz.func132,Tryz.ntmps132
 refine' ZC;refine RQ.out.mono ?_;rintro e w1 ⟨rfl,l1⟩;by_cases h0:xss.length=0
 ·have HF:Hid (Qq xss=⟨#[45]⟩):=by show _=_;unfold Qq;rw[aP h0]
  have jS:((xss.length:Int)==0)=true:=ZDY
  clear h0
  exact ZBC
 have HF:Hid (Qq xss=Cg (xss.map Ih) spT):=by show _=_;unfold Qq;rw[aL h0]
 have jS:((xss.length:Int)==0)=false:=beq_eq_false_iff_ne.2 ZA;have pO:0<xss.length:=ZA
 clear h0;have ez:=Ed (P:=aB) 28 9 i0 _ aW hi ah xss.length zf ZA
 refine' ZC;have kF:Ck 9 (w1.alloc (aC (madeCells #[.string ⟨#[]⟩] xss.length) 9)) w1.heap.size xss.length 0 (xss.map Ih):=Ck.made w1 _ _ _ ZAK _;have bg:Below w1.heap.size w1 (w1.alloc (aC (madeCells #[.string ⟨#[]⟩] xss.length) 9)):=(aF _ _).alloc (aD _) _;generalize w1.alloc (aC (madeCells #[.string ⟨#[]⟩] xss.length) 9)=w0 at *;clear ez;have cg:Hid ((xss.map Ih).length=xss.length):=ZBD
 go_loopw[17] (fun i wr=>∃k:Nat,k≤xss.length∧i=.int .i64 k∧Below w1.heap.size w1 wr∧Ck 9 wr w1.heap.size xss.length k (xss.map Ih)) (fun i _=>xss.length - (intOf i).toNat)
 case atStart=>exact ZBE
 case round=>
  refine' ZBm;by_cases ab:k<xss.length
  ·refine' ZCD;have c1:=c1 w2 (Aa l1 au);obtain⟨t1,t2,t3⟩:=HK.out.each _ (aU ab);have lN:(xss.map Ih)[k]' zY=Ih xss[k]:=ZE
   have kT:=aA (M3 HK.out (Ih xss[k]) (List.mem_map.2 ⟨_,aU ab,rfl⟩));have fe:=aA (fun(W:World) (hF:Ck 9 W w1.heap.size xss.length k (xss.map Ih))=>hF.step zY ZAs (ecs:=[.string (Ih xss[k])]) ZEn);clear lN;have jY:Hid (Ih xss[k]=AaU xss[k]++⟨#[58]⟩++Cl xss[k].length):=rfl;have lF:=aA (fun W (hW:Below w.heap.size w W)=>AcI u xss[k] W (hu.on hW) t1 t3);have sl:=AbY t1 t3;have sd:=(C9 (n:=xss[k].length) ZA).1;have vI:=aA (fun W (hW:Below w.heap.size w W)=>Jn xss[k].length W ZA (HT.out.on hW));obtain⟨Au,nu,cu,rfl,RS,_,_,_⟩:=hu;subst RS;generalize AaU xss[k]=lb at *;generalize Cl xss[k].length=dl at *;generalize hP:Ih xss[k]=pt at *;generalize xss[k].length=tl at *;clear hP;refine' ZDF;refine' zO;refine' ZEq;have LW2:=aA (Aa l1 au);have s8:=aA hf;have RV:=aA au;clear hf au hb
   refine' ZC;refine(lF.out _ LW2.out).mono ?_;refine' zH;have B3:=aA b3;clear b3
   refine' ZC;refine(vI.out _ (Aa LW2.out B3.out)).mono ?_;refine' ZAX;have B4:=aA (Aa B3.out b4);have MD:=s8.out.below B4.out;obtain⟨u0,g0⟩:=MD.cell (j:=k) ZCP;have f0:=MD.free k;have HF4:=aA MD;clear MD b4
   refine' ZC;go_roundw
   case rel=> have:=fe.out _ HF4.out;refine' ZIH;have kO:=(Aa RV.out B4.out).trans (I6 [.string (lb++⟨#[58]⟩++dl)] _ k _ (aD _));exact⟨k+1,ZA,ZJ,kO,this⟩
   case measure=>exact ZK
  ·refine' ZDH;have HO:=aA ((HE.out▸hf:Ck _ _ _ _ xss.length _).own cg.out.symm (aD _) ZN);clear hf;have l2:=Aa l1 au;have lU:=Dw (xss.map Ih) spT 20 fun p hp=>(M3 HK.out p hp).1
   rw[cg.out]at lU;have mG:xss.length*(20+spT.size)≤60*21:=cC kl (aD _);exact ZEo
def G3:ByteArray:=⟨#[100,97,121]⟩
def Dq:ByteArray:=⟨#[116,114,97,121,115]⟩
def Db:ByteArray:=⟨#[101,110,100,108,101,115,115]⟩
def Pb(s:Int)(L:List (List Ltr))(xs:List Ltr):Prop:=
 L.flatten=xs∧(L=[]∨∃F r,L=F++[r]∧(∀t∈F,(t.length:Int)=s)∧1≤r.length∧(r.length:Int)≤s)
theorem AyJ{α:Type}(F)(r:List α):(F++[r]).getD ((F++[r]).length - 1) []=r:=by rw[bL];simp
theorem Ba6{α:Type}(F)(r q:List α):(F++[r]).set ((F++[r]).length - 1) q=F++[q]:=ZE
theorem AlE{s}(hs:1≤s){L xs}(x)(h:Pb s L xs):Pb s (W8 s L x) (xs++[x]):=by
 obtain⟨hf,h⟩:=h;rcases h with rfl|⟨F,r,rfl,h1,h2,h3⟩
 ·unfold W8
  rw[aP (.inl rfl)];refine⟨by rw[←hf];rfl,.inr ⟨[],[x],rfl,ZE,ZE,ZH⟩⟩
 ·unfold W8
  rw[AyJ,Ba6]
  split
  ·rename_i hc
   have hr:(r.length:Int)=s:=by
    rcases hc with hc|hc
    ·simp at hc
    ·exact hc
   refine⟨by rw[bT,hf];rfl,.inr ⟨F++[r],[x],rfl,?_,ZE,ZH⟩⟩;intro t ht;rcases List.mem_append.1 ht with ht|ht
   ·exact h1 t ht
   ·rw[List.mem_singleton.1 ht];exact hr
  ·rename_i hc
   refine⟨?_,.inr ⟨F,r++[x],rfl,h1,ZE,?_⟩⟩
   ·rw[←hf];simp
   ·have:¬(r.length:Int)=s:=fun e=>hc (.inr e)
    exact ZH
theorem Xk{s}(hs:1≤s):∀(ys:List Ltr) (L:List (List Ltr)) (xs:List Ltr),Pb s L xs→Pb s (ys.foldl (W8 s) L) (xs++ys)
 |[],L,xs,h=>zG
 |y::ys,L,xs,h=>by have:=Xk hs ys _ _ (AlE hs y h);rw[bY]at this;exact this
theorem AvH{s}(hs:1≤s)(xs):Pb s (Gr s xs) xs:=Xk hs xs [] [] ⟨rfl,.inl rfl⟩
theorem AjX{s}:∀(F:List (List Ltr)),(∀t∈F,(t.length:Int)=s)→(F.flatten.length:Int)=F.length*s
 |[],_=>ZE
 |t::F,h=>by
  have:=AjX F fun u hu=>h u (bK _ hu)
  have ht:=h t fU;rw[cT,aS,bZ,Int.natCast_add,this,ht,Int.natCast_add,Int.add_mul];simp only[Int.natCast_one,Int.one_mul];omega
theorem AlL{s}(hs:1≤s){L xs}(h:Pb s L xs):(L.length:Int)=((xs.length:Int)+s - 1)/s:=by
 obtain⟨hf,h⟩:=h;subst hf;rcases h with rfl|⟨F,r,rfl,h1,h2,h3⟩
 ·simp
  rw[Int.ediv_eq_zero_of_lt ZA ZA]
 ·have e:((F++[r]).flatten.length:Int)=(F.length:Int)*s+r.length:=by rw[bT,aS,Int.natCast_add,AjX F h1];simp
  rw[e,show(F.length:Int)*s+r.length+s - 1=((r.length:Int) - 1)+(F.length+1)*s by rw[Int.add_mul];omega,Int.add_mul_ediv_right _ _ ZA,Int.ediv_eq_zero_of_lt ZA ZA];simp
theorem Ai1{s L xs}(h:Pb s L xs):∀t∈L,1≤t.length∧(t.length:Int)≤s∨s<1:=by
 obtain⟨_,h⟩:=h;rcases h with rfl|⟨F,r,rfl,h1,h2,h3⟩
 ·simp
 ·intro t ht
  rcases List.mem_append.1 ht with ht|ht
  ·have:=h1 t ht
   omega
  ·rw[List.mem_singleton.1 ht]
   exact .inl ⟨h2,h3⟩
theorem AzK{d xs}(h:Tw d xs=true):Ka d xs=true:=by unfold Tw at h;refine' ZAl;exact h.1
theorem AyG{d xs}(h:Tw d xs=true):(Eu d xs).flatten=(Dh d xs).round∧((Eu d xs).length:Int)=(((Dh d xs).round.length:Int)+d.size - 1)/d.size∧(∀t∈Eu d xs,1≤t.length∧(t.length:Int)≤20):=by
 have hr:=AzK h;have hf:Oj d.size (Dh d xs).round=true:=by unfold Tw at h;refine' ZAl;exact h.2
 have hs:=ArL.1 (Rb.1 hr).1.2.2.2;have e:Eu d xs=Gr d.size (Dh d xs).round:=by unfold Eu Iq;rw[aP hr,aP hf]
 have ht:=AvH hs.1 (Dh d xs).round;rw[←e]at ht;refine⟨ht.1,AlL hs.1 ht,fun t h1=>?_⟩;have:=Ai1 ht t h1;omega
theorem Ap3{w:World}{g}{T:TypeId}{a b d e}(h:w.heap[g]? =some (.cells #[a,b,d,e] T (0,0))):
 w.cell? ⟨g,0,none⟩=some a∧w.cell? ⟨g,1,none⟩=some b∧w.cell? ⟨g,2,none⟩=some d∧w.cell? ⟨g,3,none⟩=some e∧w.frozen? ⟨g,0,none⟩=false∧w.frozen? ⟨g,1,none⟩=false∧w.frozen? ⟨g,2,none⟩=false∧w.frozen? ⟨g,3,none⟩=false:=
 ⟨ZBH,ZBH,ZBH,ZBH,ZAt,ZAt,ZAt,ZAt⟩
theorem Wq.outR{T base w v r}(h:Wq T base w v r)(p u)(hp:p.block<base):Wq T base (w.setCell p u) v r:=by obtain⟨v0,v1,v2,v3,h1,h2,h3,h4,h5,h6⟩:=h;exact⟨v0,v1,v2,v3,h1,Bd h2 p u hp,Bd h3 p u hp,Bd h4 p u hp,Bd h5 p u hp,h6⟩
theorem Wn{d xs}(h:Ka d xs=true):Tw d xs=true∧Vr (Eu d xs):=by
 have hp:=AbJ h;have hs:=(Rb.1 h).1.2.2.2;have hf:Oj d.size (Dh d xs).round=true:=by unfold Oj;rw[hs,hp.1];rfl
 have hd:Tw d xs=true:=by unfold Tw;rw[h,hf];rfl
 obtain⟨e1,_,e3⟩:=AyG hd;refine⟨hd,(Ag7 d xs).1,fun t ht=>by have:=e3 t ht;omega,?_⟩;rw[e1];exact hp.1
theorem AmF(B d s vH w)(hD:Bv B w d s vH)(hl:s.day.fwds.length≤1000):
 Calls aB 52 #[.pointer (some ⟨d,0,none⟩),.string Db] w (Bb B d s vH (Cb (N2 s.day.fwds)) w):=by
 refine' ZCe;have HE:=aA (AaO vF s.day.fwds w hF.rd);obtain⟨AF,nF,cF,rfl, -, -, -, -⟩:=hF.rd;have kQ:Hid (∀(v:Value) (W:World),rd W W.heap.size v (N2 s.day.fwds)→Calls aB 127 #[v] W fun e w'=>e=.returned (.string (Cb (N2 s.day.fwds)))∧Below W.heap.size W w'):=fun v W h=>Hw v _ W h (by have:=AhE (fs:=s.day.fwds);omega) fun x hx=>by have:=(Cp (Aa0 _ x hx)).1;omega
 clear hD hF hl;refine' ZO0;have d8:(Db.toList==[115,101,113,117,101,110,99,101])=false:=ZD
 have fd:(Db.toList==[115,101,97,108])=false:=ZD
 have gq:(Db.toList==[112,108,97,110])=false:=ZD
 have i8:(Db.toList==[109,111,118,101,100])=false:=ZD
 have jQ:(Db.toList==[102,111,114,119,97,114,100,115])=false:=ZD
 have kJ:(Db.toList==[100,105,114,101,99,116])=false:=ZD
 refine' ZO1;refine' ZBw;refine HE.out.mono ?_;refine' ZAj;have cy:=aA (kQ.out v1 w1 o1.rd);have B1:=aA b1;obtain⟨A1,n1,k1,rfl, -, -, -, -⟩:=o1.rd;clear o1 b1
 refine' ZC;refine cy.out.mono ?_;refine' ZII;refine' ZI;exact Bb.of_read HD.out rfl B2.out
theorem AqH(B d s vH w)(hD:Bv B w d s vH)(hT:I4 w)(hi:Bj s.day.plan.bins∧Bj s.day.plan.passes∧Bj s.day.size)(hk:Ka s.day s.letters=true):
 Calls aB 52 #[.pointer (some ⟨d,0,none⟩),.string Dq] w (Bb B d s vH (Qq (Eu s.day s.letters)) w):=by
 refine' ZO2;obtain⟨k1,k2⟩:=Wn hk;have HR:Hid (∀W,Below w.heap.size w W→Calls aB 131 #[.agg #[.int .i64 s.day.plan.bins,.int .i64 s.day.plan.passes,.slice AO nO cO,.slice AF nF cF,.slice AH nH cH,.int .i64 s.day.size],.slice AL nL cL] W fun e w'=>∃v',e=.returned (.tuple #[v',.bool true])∧Fu 27 119 W.heap.size w' v' (Eu s.day s.letters)∧Below W.heap.size W w'):=fun W hW=>by have h:=Ai5 _ _ s.day s.letters W (ER.on hW) (hL.rd.on hW);rw[k1]at h;exact h
 have HF:Hid (∀(v:Value) (W:World),Below w.heap.size w W→rd W W.heap.size v (Eu s.day s.letters)→Calls aB 132 #[v] W fun e w'=>e=.returned (.string (Qq (Eu s.day s.letters)))∧Below W.heap.size W w'):=fun v W hW h=>Vf v _ W h k2 (hT.on hW)
 refine' ZO3;clear hD hT hi hk ER hL hO hF hH c0 c1 c2 c3 c4 c5 c6 k1 k2;generalize Eu s.day s.letters=rows at *;refine' ZO4;have d8:(Dq.toList==[115,101,113,117,101,110,99,101])=false:=ZD
 have fd:(Dq.toList==[115,101,97,108])=false:=ZD
 have gq:(Dq.toList==[112,108,97,110])=false:=ZD
 have i8:(Dq.toList==[109,111,118,101,100])=false:=ZD
 have jQ:(Dq.toList==[102,111,114,119,97,114,100,115])=false:=ZD
 have kJ:(Dq.toList==[100,105,114,101,99,116])=false:=ZD
 have lP:(Dq.toList==[101,110,100,108,101,115,115])=false:=ZD
 have nK:(Dq.toList==[104,101,108,100])=false:=ZD
 have kK:(Dq.toList==[100,97,121])=false:=ZD
 refine' ZO5;refine' ZBw;go_region_held3 (fun W=>Below w.heap.size w W) (first|exact ld|exact k1|fail) (first|(go_at_call 131;first|((with_reducible refine(HR.out _ ld).mono ?_);refine' ZAv;have k1:=Aa ld z1;have O1:=aA o1.rd;obtain⟨A1,n1,m1,rfl, -, -, -, -⟩:=o1.rd;clear o1)|fail)|fail)
 all_goals
  have K1:=aA k1;clear k1 z1 ld q0 q1 q2 q3 q4 q5 q6
  refine' ZC;refine(HF.out _ _ K1.out O1.out).mono ?_;refine' YX;have K2:=aA (Aa K1.out z2);clear z2
  exact ZFQ
theorem Az1(B d s vH w)(hD:Bv B w d s vH)(hT:I4 w)(hi:Bj s.day.plan.bins∧Bj s.day.plan.passes∧Bj s.day.size)(hk:Ka s.day s.letters=true):
 Calls aB 52 #[.pointer (some ⟨d,0,none⟩),.string G3] w (Bb B d s vH (Sx (Dh s.day s.letters)) w):=by
 refine' ZO2;have HR:Hid (∀W,Below w.heap.size w W→Calls aB 129 #[.agg #[.int .i64 s.day.plan.bins,.int .i64 s.day.plan.passes,.slice AO nO cO,.slice AF nF cF,.slice AH nH cH,.int .i64 s.day.size],.slice AL nL cL] W fun e w'=>∃vR,e=.returned (.tuple #[vR,.bool true])∧Wq 119 W.heap.size w' vR (Dh s.day s.letters)∧Below W.heap.size W w'):=fun W hW=>by have h:=Za _ _ s.day s.letters W (ER.on hW) (hL.rd.on hW);rw[hk]at h;exact h
 have HF:Hid (∀(v:Value) (W:World),Below w.heap.size w W→rdR W W.heap.size v (Dh s.day s.letters)→Calls aB 130 #[v] W fun e w'=>e=.returned (.string (Sx (Dh s.day s.letters)))∧Below W.heap.size W w'):=fun v W hW h=>Aa6 v _ W h (hT.on hW)
 refine' ZO3;clear hD hT hi hk ER hL hO hF hH c0 c1 c2 c3 c4 c5 c6;generalize Dh s.day s.letters=rp at *;refine' ZO6;have d8:(G3.toList==[115,101,113,117,101,110,99,101])=false:=ZD
 have fd:(G3.toList==[115,101,97,108])=false:=ZD
 have gq:(G3.toList==[112,108,97,110])=false:=ZD
 have i8:(G3.toList==[109,111,118,101,100])=false:=ZD
 have jQ:(G3.toList==[102,111,114,119,97,114,100,115])=false:=ZD
 have kJ:(G3.toList==[100,105,114,101,99,116])=false:=ZD
 have lP:(G3.toList==[101,110,100,108,101,115,115])=false:=ZD
 have nK:(G3.toList==[104,101,108,100])=false:=ZD
 have cm:(G3.toList==[100,97,121])=true:=ZD
 generalize G3=wd at *;refine' ZBw;have la:Below w.heap.size w (w.alloc (aC #[.slice none 0 0,.slice none 0 0,.slice none 0 0,.slice none 0 0] 78)).drew:=Ag (Ae (aF _ _) _)
 go_region_held3 (fun W=>Below w.heap.size w W) (first|exact ld|exact la|exact Ae ld _|exact k1|exact Ae k1 _|exact k5 _ _ _ _|fail) (first|(go_at_call 129;first|((with_reducible refine(HR.out _ la).mono ?_);refine' ZAv;have k1:=Aa la z1;have k5:=fun(a0 a1 a2 a3:Value)=>Ai (Ai (Ai (Ai k1 (p:=⟨w.heap.size,0,none⟩) (aD _) a0) (p:=⟨w.heap.size,1,none⟩) (aD _) a1) (p:=⟨w.heap.size,2,none⟩) (aD _) a2) (p:=⟨w.heap.size,3,none⟩) (aD _) a3;obtain⟨b0,b1,b2,b3,g0,g1,g2,g3⟩:=Ap3 (E3 (w:=(w.alloc (aC #[.slice none 0 0,.slice none 0 0,.slice none 0 0,.slice none 0 0] 78)).drew) (bD w _) z1);refine' ZO7)|((with_reducible refine(HR.out _ ld).mono ?_);refine' ZAv;have k1:=Aa ld z1;refine' ZO7)|fail)|fail)
 all_goals first
  |(
  have jT:=aA (fun(a0 a1 a2 a3:Value)=>((((O1.out.outR ⟨w.heap.size,0,none⟩ a0 (by simp)).outR ⟨w.heap.size,1,none⟩ a1 (by simp)).outR ⟨w.heap.size,2,none⟩ a2 (by simp)).outR ⟨w.heap.size,3,none⟩ a3 (by simp)).rd);have K5:=aA k5;clear k1 k5 z1 ld la q0 q1 q2 q3 q4 q5 q6
  refine' ZC;refine(HF.out _ _ (K5.out _ _ _ _) (jT.out _ _ _ _)).mono ?_;refine' YX;have K2:=aA (Aa (K5.out _ _ _ _) z2);clear z2
  exact ZFQ)
  |(
  have pP:=aA (fun(o:Obj)=>(O1.out.below ((aF u1.heap.size u1).alloc (aD _) o)).rd);have K5:=aA (fun(o:Obj)=>Ae k1 o);clear k1 z1 ld la q0 q1 q2 q3 q4 q5 q6
  refine' ZC;refine(HF.out _ _ (K5.out _) (pP.out _)).mono ?_;refine' YX;have K2:=aA (Aa (K5.out _) z2);clear z2
  exact ZFQ)
theorem AsX{hs}(h:Ee hs=true):hs.length≤30∧∀c∈hs,Ap c=true:=by refine' ZIJ;exact h
theorem BaS{r}:(Sx r).size≤4003:=by
 cases h:okB (Yh r)
 ·rw[AmC h];exact ZZ
 ·rw[Y4 h]
  have h1:=Du r.round;have h2:=Du r.strange;have h3:=Du r.held;have h4:=Du r.stuck;refine' YY;show _+1+_+1+_+1+_≤_;omega
theorem AwI{r}(h:okB (Yh r)=true):1≤(Sx r).size:=by rw[Y4 h];refine' YY;show 1≤_+1+_+1+_+1+_;omega
theorem AtO{xss}(h:Vr xss):(Qq xss).size≤1300∧1≤(Qq xss).size:=by
 unfold Qq
 split
 ·decide
 ·rename_i h0
  have h1:=Dw (xss.map Ih) spT 20 fun p hp=>(M3 h p hp).1
  rw[bF]at h1;have h2:xss.length*(20+spT.size)≤60*21:=cC h.1 (aD _);refine⟨ZA,Uk ZH9 fun p hp=>(M3 h p hp).2⟩
theorem Sh{ps}(hl:ps.length≤30)(h:∀p∈ps,Ap p=true):(Cb ps).size≤241∧1≤(Cb ps).size:=by
 have h1:=Lm (n:=30) hl (b:=7) fun p hp=>eJ (Cp (h p hp)).1
 have h2:=Q6 fun p hp=>by have:=(Cp (h p hp)).1;omega
 exact⟨ZA,h2⟩
open Go.RowKit Go.Sort
theorem BaN:UintFacts aB:=⟨fB,iB,gR,fJ⟩
def AqQ(x:Ltr×Nat):List Value:=Ltr.cells x.1
theorem AlG(ts:List (Ltr×Nat)):ts.flatMap AqQ=(ts.map Prod.fst).flatMap Ltr.cells:=by rw[List.flatMap_map];rfl
theorem AsV(d):Sort.flatK AqQ 2 d=Sort.flatK Ltr.cells 2 (d.toList.map Prod.fst).toArray:=by rw[AtI AqQ (fun _=>rfl),AtI Ltr.cells (fun _=>rfl),AlG]
theorem AoV:E9 []=[]:=(Oe []).eq_nil
theorem AyL(T base:Nat)(v xs w)(hv:own T base w v xs)(hl:xs.length≤60):
 Calls aB 270 #[v,.int .i64 xs.length,.func (.func 199) #[] #[]] w fun e w'=>e=.returned (.tuple #[])∧own T base w' v (E9 xs)∧w.grownBy w' v.ownBlock:=by
 rcases hv.form with⟨rfl,rfl⟩|⟨g,c,rfl,hg,bv,hc,hm⟩
 ·have hn:Calls aB 314 #[.slice none 0 0,.int .i64 0,.int .i64 0,.func (.func 199) #[] #[]] w fun e w'=>e=.returned (.tuple #[])∧w'=w:=by
   go_enter Tryz.func314,Tryz.ntmps314;go_wp2;refine' ZAO;refine' zm;go_end0
   exact ZV
  go_enter Tryz.func270,Tryz.ntmps270;go_wp2;refine' ZAO;rw[fQ]
  go_wp2_with (go_at_call 314;refine hn.mono ?_;refine' ZW)
  refine' ZAO;refine' zm;go_end0
  exact⟨rfl,by rw[AoV];exact hv,cU _ _⟩
 ·have eg:∀args w,(callFunc 199 args).run aB w=.ok (.enter 199 args) w:=iC Tryz.func199 ZB rfl
  have hz:(Nw xs).toArray.size=xs.length:=by simp[Oz]
  have hH:Sort.HoldsK AqQ 2 w g 0 (Nw xs).toArray:=by have h:=AfS hv;unfold Sort.HoldsK at h⊢;rw[AsV];rw[show((Nw xs).toArray.toList.map Prod.fst).toArray=xs.toArray by rw[List.toList_toArray,Ag6]];exact h
  have h:=ApQ (P:=aB) Tryz.laysIns BaN Tryz.func368 Tryz.func351 Tryz.func315 Tryz.func270 2 Tryz.isAgg119 Tryz.sizeOf119 AqQ 199 #[] g 0 c xs.length (Nw xs).toArray w eg (fun _ _ _ _ x y=>Bc3 x.1 y.1 _)
   ⟨fun _=>rfl,fun x v hv=>by simp[AqQ,Ltr.cells]at hv;rcases hv with rfl|rfl<;>rfl,hH,bv⟩ hz hl (fun i hi=>by rw[fO _ i (by rw[hz];exact hi)];have:=Y6 xs i (by rw[Oz];exact hi);simpa using aT Prod.snd this)
  refine Calls.mono h ?_;rintro e w' ⟨rfl,d',hp,hs,n,os,rfl⟩;have e1:=AqP hp hs;have e2:sortWorldK AqQ 2 w g 0 n d' os=sortWorldK Ltr.cells 2 w g 0 n (E9 xs).toArray os:=by unfold sortWorldK Sort.putRowK;rw[AsV,e1]
  rw[e2];obtain⟨h1,h2⟩:=Ao4 (q:=n) (os:=os) (d':=(E9 xs).toArray) hv (by simpa using Oe xs);exact⟨rfl,ZBS,h2⟩
theorem Av3(T base:Nat)(v xs w)(hv:own T base w v xs)(hl:xs.length≤60):
 Calls aB 198 #[v,.func (.func 199) #[] #[]] w fun e w'=>e=.returned (.tuple #[])∧own T base w' v (E9 xs)∧w.grownBy w' v.ownBlock:=by
 have hc:=AyL T base v xs w hv hl;obtain⟨A,n,c,rfl,hn,_,_,_⟩:=hv.rd;subst hn;have HC:=aA hc;clear hc hv;go_enter Tryz.func198,Tryz.ntmps198
 go_wp2_with (go_at_call 270;refine' ZBM;rintro e w1 ⟨rfl,hy,hg⟩)
 go_end0
 exact⟨rfl,hy,hg⟩
theorem AdS(v xs w)(hv:rd w w.heap.size v xs)(ag:okB xs=true):
 Calls aB 118 #[v] w fun e w'=>∃v',e=.returned (.tuple #[v',.bool true])∧own 119 w.heap.size w' v' (E9 xs)∧Below w.heap.size w w':=by
 refine' zQ;clear hv;have hl:=Cq ag;refine' ZAN;clear ag;go_enter Tryz.func118,Tryz.ntmps118
 refine' ZC;refine(Cn _ xs _ HV.out).mono ?_;rw[ee.out];refine' ZT;refine' ZC;refine(Sa _ xs _ (HV.out.on b1) ZA).mono ?_;refine' ZAm;have l2:=b1.trans (b2.mono b1.size);have O2:=aA o2;clear o2
 refine' ZC;refine(Av3 _ _ v2 xs _ O2.out hl).mono ?_;rintro e w3 ⟨rfl,o3,g3⟩;have l3:Below w.heap.size w w3:=l2.grown g3 l2.size (fun k hk=>by have:=(O2.out.blk k hk).1;have:=b1.size;omega);have O3:=aA (o3.base_ b1.size);clear o3
 refine' ZQ;exact⟨v2,rfl,O3.out,l3⟩
theorem AqO(B d s vH w)(hD:Bv B w d s vH)(hB:B≤w.heap.size)(hT:I4 w)(hk:okB s.letters=true):
 Calls aB 52 #[.pointer (some ⟨d,0,none⟩),.string Mf] w (Bb B d {s with letters:=E9 s.letters} vH (Co (E9 s.letters)) w):=by
 refine' ZI7;have HS:=aA (AdS vL s.letters w hL.rd hk);obtain⟨A0,n0,c0',rfl, -, -, -, -⟩:=hL.rd;have yq:=aA hT;clear hD hT hk hL;refine' ZR3;refine' ZBw;refine HS.out.mono ?_;refine' ZAj;have HC:=aA (Nz B d s vH v1 (E9 s.letters) true w1 (HD.out.below b1) (o1.base_ hB) (yq.out.on b1));refine' ZAe;refine' ZD0;clear o1 b1
 refine' ZC;refine' ZBM;rintro e w2 h2;simp only[if_true]at h2;have H2:=aA h2;obtain⟨rfl,_⟩:=h2
 refine' ZI;exact Bb.pre ik.out H2.out
end Go.Proofs.YtfadhdacjpmmeaaGreatDoor
