/- Parts. -/
import Derived.Test.YtfadhdacjpmmeaaGreatDoorQ29
import Derived.LaidOnce
set_option linter.unusedVariables false
set_option linter.unusedSimpArgs false
namespace Go.Proofs.YtfadhdacjpmmeaaGreatDoor
set_option maxRecDepth 100000
set_option maxHeartbeats 3200000
open Go.IntKind renaming i64→aI
open Go.Obj renaming cells→aC
open Go.Proofs.Tryz renaming prog→aB
open Go.Value renaming string→aK,int→bC
open Go.RowKit
theorem Wo{α:Type}[El α]{T base:Nat}{w v}{xs:List α}(h:own T base w v xs){k}(hk:v.ownBlock=some k):∃bu:Array Value,w.heap[k]? =some (.cells bu T (0,0)):=by
 refine' ZQL
 ·injection hk with hk
  subst hk;exact⟨_,hh⟩
theorem own.keepT{α:Type}[Flat α]{T base:Nat}{w w' v}{xs:List α}(h:own T base w v xs)(hk:∀(k:Nat) (bu:Array Value),w.heap[k]? =some (.cells bu T (0,0))→w'.heap[k]? =w.heap[k]?):own T base w' v xs:=
 h.keepBlk fun k e=>by obtain⟨bu,hc⟩:=Wo h e;exact hk k bu hc
theorem isN.keepT{T1 T2 base:Nat}{w w' v net os}(h:isN T1 T2 base w v net os)(h1:∀(k:Nat) (bu:Array Value),w.heap[k]? =some (.cells bu T1 (0,0))→w'.heap[k]? =w.heap[k]?)
 (h2:∀(k:Nat) (bu:Array Value),w.heap[k]? =some (.cells bu T2 (0,0))→w'.heap[k]? =w.heap[k]?):isN T1 T2 base w' v net os:=
 ⟨h.1.keepT h1,h.2.1,fun k a b=>⟨(h.2.2.1 k a b).1,(h.2.2.1 k a b).2.keepT h2⟩,h.2.2.2.1,h.2.2.2.2⟩
structure Dsk where
 letters:List Ltr
 day:Dy
 net:List Ofc
def Bv(B:Nat)(w:World)(d:Nat)(s:Dsk)(vH:Value):Prop:=
 ∃(vL vO vF vN:Value) (os:List OfV),w.heap[d]? =some (.cells #[vL,.int .i64 s.day.plan.bins,.int .i64 s.day.plan.passes,vO,vF,vH,.int .i64 s.day.size,vN] 47 (0,0))∧
  own 119 B w vL s.letters∧own 9 B w vO s.day.plan.order∧own 128 B w vF s.day.fwds∧own 9 B w vH s.day.held∧isN 45 181 B w vN s.net os∧apart vO vH
theorem Bv.lt{B d w s vH}(h:Bv B w d s vH):d<w.heap.size:=by obtain⟨_,_,_,_,_,h,_⟩:=h;exact(Array.getElem?_eq_some_iff.1 h).1
theorem Bv.obj{B d w s vH}(h:Bv B w d s vH):∃bu:Array Value,w.heap[d]? =some (.cells bu 47 (0,0)):=by obtain⟨_,_,_,_,_,h,_⟩:=h;exact⟨_,h⟩
theorem Bv.held{B d w s vH}(h:Bv B w d s vH):own 9 B w vH s.day.held:=by obtain⟨_,_,_,_,_,_,_,_,_,h,_⟩:=h;exact h
theorem Bv.keep{B d w w' s vH}(h:Bv B w d s vH)(hk:∀(k:Nat) (bu:Array Value) (e:TypeId),w.heap[k]? =some (.cells bu e (0,0))→e≠5→e≠50→w'.heap[k]? =w.heap[k]?):Bv B w' d s vH:=by
 refine' ZIE;exact⟨vL,vO,vF,vN,os,(hk _ _ _ h0 ZF ZF).trans h0,h1.keepT fun k bu hc=>hk k bu _ hc ZF ZF,h2.keepT fun k bu hc=>hk k bu _ hc ZF ZF,h3.keepT fun k bu hc=>hk k bu _ hc ZF ZF,h4.keepT fun k bu hc=>hk k bu _ hc ZF ZF,
  h5.keepT (fun k bu hc=>hk k bu _ hc ZF ZF) fun k bu hc=>hk k bu _ hc ZF ZF,h6⟩
theorem Bv.below{B d w w' s vH}(h:Bv B w d s vH)(hb:Below w.heap.size w w'):Bv B w' d s vH:=
 h.keep fun k bu e hc _ _=>hb.block k (Array.getElem?_eq_some_iff.1 hc).1
structure Kd (d:Nat) (vH:Value) (w w':World):Prop where
 os:w'.os=w.os
 tape:w'.tape=w.tape
 output:w'.output=w.output
 size:w.heap.size≤w'.heap.size
 block:∀k,k<w.heap.size→k≠d→some k≠vH.ownBlock→w'.heap[k]? =w.heap[k]?
theorem Kd.of_below{d vH w w'}(h:Below w.heap.size w w'):Kd d vH w w':=⟨h.os,h.tape,h.output,h.size,fun k hk _ _=>h.block k hk⟩
theorem Kd.trans{d vH a b c}(h:Kd d vH a b)(k:Kd d vH b c):Kd d vH a c:=
 ⟨k.os.trans h.os,k.tape.trans h.tape,k.output.trans h.output,aG h.size k.size,fun i hi h1 h2=>(k.block i (bU hi h.size) h1 h2).trans (h.block i hi h1 h2)⟩
theorem Kd.set{d vH a w}(h:Kd d vH a w)(i u):Kd d vH a (w.setCell ⟨d,i,none⟩ u):=
 ⟨h.os,h.tape,h.output,by have:=h.size;exact zT,fun k hk h1 h2=>(bP _ _ _ _ (fun e=>h1 e)).trans (h.block k hk h1 h2)⟩
theorem Kd.toBelow{d B vH w w'}(h:Kd d vH w w')(hd:B≤d)(qq:d<w.heap.size)(hH:∀k,vH.ownBlock=some k→B≤k):Below B w w':=
 ⟨h.os,h.tape,h.output,h.size,fun k hk=>h.block k ZA ZA fun e=>by have:=hH k e.symm;omega⟩
def Nu(w:World)(vH pj:Value):Prop:=pj.ownBlock=vH.ownBlock∨∀k,pj.ownBlock=some k→w.heap.size≤k
theorem Nu.refl(w vH):Nu w vH vH:=.inl rfl
theorem Z0{T e B b:Nat}{bs w w'}(h:Lib.IsBuilderF T e B b bs w)(hk:∀(k:Nat) (bu:Array Value) (e':TypeId) (fz:Nat×Nat),w.heap[k]? =some (.cells bu e' fz)→(e'=T∨e'=e)→w'.heap[k]? =w.heap[k]?):Lib.IsBuilderF T e B b bs w':=by
 have jm:∀p,Lib.BuilderAtF T e B b p bs w→Lib.BuilderAtF T e B b p bs w':=fun p h=>by
  obtain⟨hB,v,hb,⟨h1,h2⟩,bj⟩:=h;refine⟨hB,v,(hk _ _ _ _ hb (.inl rfl)).trans hb,⟨h1,?_⟩,bj⟩;rcases h2 with h2|⟨g,cap,bu,fz,hv,hg,hh,rest⟩
  ·exact .inl h2
  ·exact .inr ⟨g,cap,bu,fz,hv,hg,(hk _ _ _ _ hh (.inr rfl)).trans hh,rest⟩
 rcases h with h|h
 ·exact .inl (jm _ h)
 ·exact .inr (jm _ h)
theorem AsF{B0 B b d bs w w' s vH}(h:Lib.IsBuilderF 50 5 B b bs w)(hD:Bv B0 w d s vH)(hK:Kd d vH w w'):Lib.IsBuilderF 50 5 B b bs w':=by
 refine Z0 h fun k bu e' fz hc he=>hK.block k (Array.getElem?_eq_some_iff.1 hc).1 (fun e=>?_) fun e=>?_
 ·subst e
  obtain⟨c,h0⟩:=hD.obj;exact ZUY
 ·obtain⟨c,h0⟩:=Wo hD.held e.symm
  exact ZUY
theorem AgN{B b d w w' s vH}(hD:Bv B w d s vH)(hO:Lib.OthersKept 5 (some b) w w')(hb:∃bu fz,w.heap[b]? =some (.cells bu 50 fz)):Bv B w' d s vH:=
 hD.keep fun k bu e hc h1 h2=>ZUZ
def Ax7(X:World→Prop)(ak:ByteArray)(s s':Dsk)(a:ByteArray):Prop:=
 ∀(B d:Nat) (vH:Value) (w:World),X w→B≤w.heap.size→Bv B w d s vH→
  Calls aB 16 #[.pointer (some ⟨d,0,none⟩),.string ak] w fun e w'=>e=.returned (.string a)∧∃pj,Bv B w' d s' pj∧Kd d vH w w'∧Nu w vH pj
def AeC(a:ByteArray):ByteArray:=if sEq a ⟨#[]⟩then⟨#[110,111]⟩else a
def Qr(ans:Nat→ByteArray):Nat→ByteArray→List ByteArray→ByteArray
 |_,o,[]=>o
 |k,o,l::ls=>if sEq l ⟨#[]⟩then Qr ans (k+1) o ls else if 100≤k∨40000<o.size then o++⟨#[102,117,108,108,10]⟩else Qr ans (k+1) (o++(AeC (ans k)++⟨#[10]⟩)) ls
def Sv(ans:Nat→ByteArray)(ls:List ByteArray):Nat→ByteArray
 |0=>⟨#[]⟩
 |k+1=>if sEq (ls.getD k ⟨#[]⟩) ⟨#[]⟩then Sv ans ls k else Sv ans ls k++(AeC (ans k)++⟨#[10]⟩)
theorem Lx{a}:sEq a ⟨#[]⟩=true↔a.size=0:=by
 rw[Ec];constructor
 ·rintro rfl;rfl
 ·intro h;exact ByteArray.ext (Array.eq_empty_of_size_eq_zero h)
theorem Ol{a}(h:a.size≠0):sEq a ⟨#[]⟩=false:=by
 cases hq:sEq a ⟨#[]⟩
 ·rfl
 ·exact absurd (Lx.1 hq) h
theorem AnK{a}(h:1≤a.size):AeC a=a:=by unfold AeC;rw[Ol ZA];rfl
theorem AkC{ans:Nat→ByteArray}{k o l ls}(h:l.size=0):Qr ans k o (l::ls)=Qr ans (k+1) o ls:=by rw[Qr,Lx.2 h,aP rfl]
theorem Wj{ans:Nat→ByteArray}{k o l ls}(h:l.size≠0)(hf:100≤k∨40000<o.size):Qr ans k o (l::ls)=o++⟨#[102,117,108,108,10]⟩:=by rw[Qr,Ol h,aL ZE,aP hf]
theorem Vu{ans:Nat→ByteArray}{k o l ls}(h:l.size≠0)(hk:k<100)(ho:o.size≤40000):Qr ans k o (l::ls)=Qr ans (k+1) (o++(AeC (ans k)++⟨#[10]⟩)) ls:=by rw[Qr,Ol h,aL ZE,aL ZA]
theorem AjE{ans:Nat→ByteArray}{ls k}(h:k<ls.length)(he:ls[k].size=0):Sv ans ls (k+1)=Sv ans ls k:=by rw[Sv,bL,aR h,gP,Lx.2 he,aP rfl]
theorem Al6{ans:Nat→ByteArray}{ls k}(h:k<ls.length)(he:ls[k].size≠0):Sv ans ls (k+1)=Sv ans ls k++(AeC (ans k)++⟨#[10]⟩):=by rw[Sv,bL,aR h,gP,Ol he,aL ZE]
theorem AtT{c p}(h:c∉p.data.toList):Aj c p=[p]:=by unfold Aj;rw[V0 h];rfl
theorem Cp{c}(h:Ap c=true):c.size=7∧∀b∈c.data.toList,48≤b.toNat∧b.toNat≤57:=by unfold Ap at h;rw[aN,dE]at h;exact⟨h.1,Iw h.2⟩
def Cb(ps:List ByteArray):ByteArray:=if ps.length=0 then⟨#[45]⟩else Cg ps spT
theorem Uk{ps sep}(h0:ps.length≠0)(h:∀p∈ps,1≤p.size):1≤(Cg ps sep).size:=by
 obtain⟨k,hk⟩:∃k,ps.length=k+1:=⟨ps.length - 1,ZA⟩;have e:ps=ps.take k++[ps[k]]:=by
  conv=>lhs;rw[←dW k ps,cZ ZA]
  rw[dK ZA]
 have hp:=h ps[k] (aU _);rw[e];by_cases hn:ps.take k=[]
 ·rw[hn,bV,Kp];exact hp
 ·rw[G5 _ _ _ hn,bG];omega
theorem Q6{ps}(h:∀p∈ps,1≤p.size):1≤(Cb ps).size:=by
 unfold Cb
 split
 ·decide
 ·rename_i h0
  exact Uk h0 h
def Es:ByteArray:=⟨#[110,101,116]⟩
def Fl:ByteArray:=⟨#[112,97,116,104]⟩
def B5:ByteArray:=⟨#[102,97,117,108,116,115]⟩
def okW:ByteArray:=⟨#[111,107]⟩
def Ar9(n:Int):ByteArray:=if n=0 then⟨#[104,111,109,101]⟩else if n=1 then⟨#[108,111,115,116]⟩else⟨#[108,111,111,112]⟩
def Fe(l:List UInt8):Nat:=l.foldl (fun n b=>10*n+(b.toNat - 48)) 0
theorem Il(l b):Fe (l++[b])=10*Fe l+(b.toNat - 48):=by unfold Fe;exact ZBo
theorem F3{l}(h:Ea l=true)(k):Ea (l.take k)=true:=by unfold Ea at *;exact List.all_eq_true.2 fun b hb=>List.all_eq_true.1 h b (dY hb)
theorem Rm{l}(h:Ea l=true)(k):Ea (l.drop k)=true:=by unfold Ea at *;exact List.all_eq_true.2 fun b hb=>List.all_eq_true.1 h b (List.mem_of_mem_drop hb)
theorem Jc:∀(k:Nat) (l:List UInt8),Ea l=true→l.length=k→Fe l<10^k
 |0,l,_,hl=>ZNd
 |k+1,l,h,hl=>by refine' ZHY;have ih:=Jc k (l.take k) (F3 h k) zF;refine' ZHZ;rw[e,Il,Nat.pow_succ];omega
theorem Jv(s w)(hd:Ea s.data.toList=true)(hz:s.size≤17):
 Calls aB 221 #[.string s] w fun e w'=>e=.returned (.int .i64 (Fe s.data.toList:Int))∧w=w':=by
 have HD:=aA hd;clear hd;go_enter Tryz.func221,Tryz.ntmps221
 refine' ZNe
 ·refine' ZBp;by_cases ab:k<s.size
  ·refine' ZNf;refine' ZHa;refine' ZNg;have w4:aI.wrap (10*(n:Int)+((b.toNat:Int) - 48))=10*(n:Int)+((b.toNat:Int) - 48):=bI _ ZA;exact ZEu
  exact ZEv
def G0(c:ByteArray):Plc:=⟨(Fe (c.extract 0 3).data.toList:Int),(Fe (c.extract 3 5).data.toList:Int),(Fe (c.extract 5 c.size).data.toList:Int)⟩
theorem Tryz.sizePlc:(aB.info? 147).map (·.size)=some 3:=ZB
theorem Ac1(c w)(hc:Ap c=true):
 Calls aB 292 #[.string c] w fun e w'=>e=.returned (.tuple #[.agg #[.int .i64 (G0 c).area,.int .i64 (G0 c).walk,.int .i64 (G0 c).point],.bool true])∧Below w.heap.size w w':=by
 refine' ZNh;have H0:Hid (∀W:World,Calls aB 221 #[.string (c.extract 0 3)] W fun e w'=>e=.returned (.int .i64 (G0 c).area)∧W=w'):=fun W=>Jv _ W (hx 0 3 ZA) zc
 have H1:Hid (∀W:World,Calls aB 221 #[.string (c.extract 3 5)] W fun e w'=>e=.returned (.int .i64 (G0 c).walk)∧W=w'):=fun W=>Jv _ W (hx 3 5 ZA) zc
 have H2:Hid (∀W:World,Calls aB 221 #[.string (c.extract 5 c.size)] W fun e w'=>e=.returned (.int .i64 (G0 c).point)∧W=w'):=fun W=>Jv _ W (hx 5 c.size ZA) zc
 refine' ZNi;refine' ZNj;go_enter Tryz.func292,Tryz.ntmps292
 refine' ZC;refine' zz;refine' ZC;go_region_held3 (fun _=>True) (first|trivial|fail) (first|(go_at_call 221;refine' ZNk)|fail)
 all_goals exact ZNl
def F8(l:List UInt8):Nat:=l.foldl (fun n b=>n+(b.toNat - 48)) 0
theorem Qi(l b):F8 (l++[b])=F8 l+(b.toNat - 48):=by unfold F8;exact ZBo
theorem Ow:∀(k:Nat) (l:List UInt8),Ea l=true→l.length=k→F8 l≤9*k
 |0,l,_,hl=>ZNd
 |k+1,l,h,hl=>by refine' ZHY;have ih:=Ow k (l.take k) (F3 h k) zF;refine' ZHZ;rw[e,Qi];omega
theorem AiD(s w)(hd:Ea s.data.toList=true)(hz:s.size≤20):
 Calls aB 296 #[.string s] w fun e w'=>e=.returned (.int .i64 (F8 s.data.toList:Int))∧w=w':=by
 have HD:=aA hd;clear hd;go_enter Tryz.func296,Tryz.ntmps296
 refine' ZNm
 ·refine' ZBp;by_cases ab:k<s.size
  ·refine' ZNn;have sv:n≤180:=ZA
   clear jk hn;refine' ZHb;refine' ZHa;have w4:aI.wrap ((n:Int)+((b.toNat:Int) - 48))=(n:Int)+((b.toNat:Int) - 48):=bI _ ZA;exact ZEu
  exact ZEv
theorem T9(s w)(hd:Ea s.data.toList=true)(hz:s.size≤20):
 Calls aB 295 #[.string s] w fun e w'=>e=.returned (.bool true)∧w=w':=by
 have HA:Hid (∀W:World,Calls aB 220 #[.string s] W fun e w'=>e=.returned (.bool true)∧W=w'):=fun W=>by have:=Mk s W ZN;rw[hd]at this;exact this
 clear hd;have LF:(s.size:Int)≤20:=ZA
 go_enter Tryz.func295,Tryz.ntmps295
 go_wp2_with (go_at_call 220;refine(HA.out _).mono ?_;refine' zN)
 go_ret;exact ZV
def Kv(l:List UInt8):Nat:=(10 - F8 l%10)%10
theorem Rn(l):Kv l<10:=Nat.mod_lt _ ZF
theorem Wu(s w)(hd:Ea s.data.toList=true)(hz:s.size≤20):
 Calls aB 239 #[.string s] w fun e w'=>e=.returned (.int .i64 (Kv s.data.toList:Int))∧w=w':=by
 have HA:=aA (fun W=>T9 s W hd hz);have HB:=aA (fun W=>AiD s W hd hz);refine' ZNo;go_enter Tryz.func239,Tryz.ntmps239
 refine' ZC;refine' ZDd;go_wp2_with (go_at_call 296;refine(HB.out _).mono ?_;refine' ZP)
 go_ret;refine⟨Bo ?_,rfl⟩;have:=HE.out;omega
theorem B7{w:World}{g}{T:TypeId}{a b d}(h:w.heap[g]? =some (.cells #[a,b,d] T (0,0))):
 w.cell? ⟨g,0,none⟩=some a∧w.cell? ⟨g,1,none⟩=some b∧w.cell? ⟨g,2,none⟩=some d∧w.frozen? ⟨g,0,none⟩=false∧w.frozen? ⟨g,1,none⟩=false∧w.frozen? ⟨g,2,none⟩=false:=
 ⟨ZBH,ZBH,ZBH,ZAt,ZAt,ZAt⟩
theorem W9(t c:ByteArray)(w:World)(hz:t.size=9)(h3:(t[3]' ZA).toNat=45)(h6:(t[6]' ZA).toNat=45)
 (hc:t.extract 0 3++t.extract 4 6++t.extract 7 9=c) (f8:Ap c=true):
 Calls aB 236 #[.string t] w fun e w'=>e=.returned (.tuple #[.agg #[.int .i64 (G0 c).area,.int .i64 (G0 c).walk,.int .i64 (G0 c).point],.bool true])∧Below w.heap.size w w':=by have HP:=aA (fun W=>Ac1 c W f8);clear f8;generalize G0 c=p at *;subst hc;refine' ZHc;refine' ZCT;exact ZNp
theorem Wt(t p w)
 (HP:Hid (∀W:World,Calls aB 236 #[.string t] W fun e w'=>e=.returned (.tuple #[.agg #[.int .i64 p.area,.int .i64 p.walk,.int .i64 p.point],.bool true])∧Below W.heap.size W w'))
 (hp:Jk p=true):
 Calls aB 151 #[.string t] w fun e w'=>e=.returned (.string (Hf p))∧Below w.heap.size w w':=by
 have HC:=aA (fun W=>AdQ p W hp);clear hp;go_enter Tryz.func151,Tryz.ntmps151
 go_wp2_with (first|(go_at_call 236;refine' ZHd)|(go_at_call 237;(with_reducible refine' ZBq);refine' zH))
 go_ret;exact⟨rfl,Aa (Ae b1 _) b3⟩
def J6:List ByteArray:=[⟨#[124,124,46,46,46]⟩,⟨#[46,46,46,124,124]⟩,⟨#[46,46,124,46,124]⟩,⟨#[46,46,124,124,46]⟩,⟨#[46,124,46,46,124]⟩,⟨#[46,124,46,124,46]⟩,⟨#[46,124,124,46,46]⟩,⟨#[124,46,46,46,124]⟩,⟨#[124,46,46,124,46]⟩,⟨#[124,46,124,46,46]⟩]
def G6(k:Nat):ByteArray:=J6.getD k ⟨#[]⟩
theorem AoS:∀j,j<10→∀k,k<10→G6 j=G6 k→j=k:=ZF
theorem Ot:∀j,j<10→(G6 j).size=5:=ZF
def N9(w:World):Prop:=w.var? aB "loop.example/sortingoffice/impl.digitBars" =some (J6.map fun b=>aK b).toArray
theorem Tryz.gBars:aB.globalNamed "loop.example/sortingoffice/impl.digitBars" =some 1:=ZB
theorem N9.cell{w}(h:N9 w)(i)(hi:i<10):w.cell? ⟨1,i,none⟩=some (.string (G6 i)):=by have h1:=World.var?_cell Tryz.gBars h i;rw[h1];have hl:i<J6.length:=hi;simp[G6,List.getD,hl]
theorem N9.on{w w'}(h:N9 w)(hb:Below w.heap.size w w'):N9 w':=
 Go.Joins.var_stays Tryz.gBars h hb (aD _)
theorem Ud(d:Nat)(w)(hd:d<10)(hw:N9 w):
 Calls aB 238 #[.int .i64 (d:Int)] w fun e w'=>e=.returned (.string (G6 d))∧w=w':=by
 have hc:=hw.cell d hd;have h0:¬((d:Int)<0):=ZA
 clear hw;go_enter Tryz.func238,Tryz.ntmps238
 refine' ZI;exact ZV
theorem AjS(a b:ByteArray):(a.toList==b.toList)=true↔a=b:=by
 rw[dE,bR,bR];constructor
 ·intro h
  obtain⟨⟨a⟩⟩:=a;obtain⟨⟨b⟩⟩:=b;simp only at h;rw[h]
 ·intro h;rw[h]
def AtK(b:ByteArray)(d:Int):Prop:=(∃k:Nat,k<10∧d=k∧G6 k=b)∨(d= -1∧∀k,k<10→G6 k≠b)
theorem AfF(b w)(hw:N9 w):
 Calls aB 297 #[.string b] w fun e w'=>∃d:Int,e=.returned (.int .i64 d)∧Hid (AtK b d)∧w=w':=by
 have HB:=aA hw;clear hw;go_enter Tryz.func297,Tryz.ntmps297
 refine' ZC;go_loop[3] (fun i=>∃k:Nat,k≤10∧i=.int .i64 k∧Hid (∀j,j<k→G6 j≠b)) (fun i=>10 - (intOf i).toNat)
 case atStart=>exact⟨0,aM _,rfl,fun j hj=>absurd hj (aX _)⟩
 case round=>
  obtain⟨k,hk,rfl,HN⟩:=hrel;by_cases ab:k<10
  ·have hc:=HB.out.cell k ab
   have bc:(k:Int)<10:=ZA
   by_cases he:G6 k=b
   ·have HE:=aA he
    have hq:((G6 k).toList==b.toList)=true:=(AjS _ _).2 he;clear he
    refine' ZI;exact⟨(k:Int),rfl,aZ ⟨k,ab,rfl,HE.out⟩,rfl⟩
   ·have HE:=aA he
    have hq:((G6 k).toList==b.toList)=false:=Bool.eq_false_iff.2 fun h=>he ((AjS _ _).1 h)
    clear he
    refine' ZC;go_round
    case rel=>exact⟨k+1,ZA,ZJ,fun j hj=>by
     rcases Nat.lt_succ_iff_lt_or_eq.1 hj with h|rfl
     ·exact HN.out j h
     ·exact HE.out⟩
    case measure=>exact ZK
  ·obtain rfl:k=10:=ZA
   refine' ZI;exact⟨-1,rfl,gQ ⟨rfl,HN.out⟩,rfl⟩
theorem Tt(b)(k:Nat)(w)(hz:b.size=42)(hk:k<8)(hw:N9 w):
 Calls aB 240 #[.string b,.int .i64 (k:Int)] w fun e w'=>∃d:Int,e=.returned (.int .i64 d)∧Hid (AtK (b.extract (1+5*k) (6+5*k)) d)∧w=w':=by
 have HB:=aA (fun s:ByteArray=>AfF s w hw);clear hw;obtain⟨f,hf⟩:∃f:Nat,f=1+5*k:=⟨_,rfl⟩;have w1:aI.wrap ((k:Int)*5)=(k:Int)*5:=bI _ ZA;have w2:aI.wrap (1+(k:Int)*5)=(f:Int):=ZCU
 have w3:aI.wrap ((f:Int)+5)=((f+5:Nat):Int):=ZCU
 have hE:Hid (b.extract (1+5*k) (6+5*k)=b.extract f (f+5)):=by show _=_;rw[hf,show 6+5*k=1+5*k+5 by omega]
 have vg:f+5≤b.size:=ZA
 clear hf hk;go_enter Tryz.func240,Tryz.ntmps240
 go_wp2_with (go_at_call 297;refine(HB.out _).mono ?_;rintro e _ ⟨d,rfl,hd,rfl⟩)
 go_ret;exact⟨d,rfl,by rw[hE.out];exact hd,rfl⟩
def Ni(l:List UInt8):ByteArray:=l.foldl (fun a b=>a++G6 (b.toNat - 48)) ⟨#[124]⟩
theorem Yo(l b):Ni (l++[b])=Ni l++G6 (b.toNat - 48):=by unfold Ni;exact ZBo
theorem M9:∀(k:Nat) (l:List UInt8),Ea l=true→l.length=k→(Ni l).size=1+5*k
 |0,l,_,hl=>by rw[bQ hl];rfl
 |k+1,l,h,hl=>by refine' ZHY;have ih:=M9 k (l.take k) (F3 h k) zF;refine' ZHZ;rw[e,Yo,bG,ih,Ot _ ZA];omega
def Sj(l:List UInt8):ByteArray:=Ni l++G6 (Kv l)++⟨#[124]⟩
theorem Ae7(s w)(hc:Ap s=true)(hw:N9 w):
 Calls aB 152 #[.string s] w fun e w'=>e=.returned (.tuple #[.string (Sj s.data.toList),.bool true])∧w=w':=by
 obtain⟨h7,_⟩:=Cp hc;have ig:Ea s.data.toList=true:=ZHe
 have iz:Hid (∀W:World,Calls aB 231 #[.string s] W fun e w'=>e=.returned (.bool true)∧W=w'):=fun W=>by have:=Cw s W ZN;exact ZBI
 have yi:=aA (fun W=>Wu s W ig ZA);have HB:=aA (fun(d:Nat) (hd:d<10) (W:World) (hW:w=W)=>by subst hW;exact Ud d w hd hw:∀(d:Nat) (_:d<10) (W:World) (_:w=W),Calls aB 238 #[.int .i64 (d:Int)] W fun e w'=>e=.returned (.string (G6 d))∧W=w');refine' ZNq;clear hc hw ig hq;go_enter Tryz.func152,Tryz.ntmps152
 go_wp2_with (go_at_call 231;refine' zz)
 go_loop[4,5] (fun t i=>∃k:Nat,k≤s.size∧i=.int .i64 k∧t=.string (Ni (s.data.toList.take k))) (fun _ i=>s.size - (intOf i).toNat)
 case atStart=>exact ZCV
 case round=>
  refine' ZBp;by_cases ab:k<s.size
  ·refine' ZNr;clear yj;have w1:IntKind.wrap .u8 ((b.toNat:Int) - 48)=(d:Int):=ZCR
   have w2:aI.wrap (d:Int)=(d:Int):=bI _ ZA;clear bt dj hd
   go_wp2_with (go_at_call 238;refine(HB.out d tf _ rfl).mono ?_;refine' ZP)
   go_round
   case rel=>exact⟨k+1,ZA,ZJ,by rw[HS.out]⟩
   case measure=>exact ZK
  ·refine' ZNs;clear yj
   go_wp2_with (first|(go_at_call 239;refine(yi.out _).mono ?_;refine' ZP)|(go_at_call 238;refine(HB.out q sH _ rfl).mono ?_;refine' ZP))
   go_ret2;exact⟨by rw[HE.out];rfl,rfl⟩
def Mw(ds:Nat→Nat)(u:Nat):Nat→Nat
 |0=>0
 |k+1=>Mw ds u k+if k=u then 0 else ds k
theorem AlI{ds:Nat→Nat}(h:∀k,k<8→ds k<10)(u):∀k,k≤8→Mw ds u k≤9*k
 |0,_=>aD _
 |k+1,hk=>by
  have h1:=AlI h u k ZA;have h2:=h k ZA;unfold Mw
  split<;>omega
def AiY(ds:Nat→Nat):ByteArray:=⟨((List.range 7).map fun j=>b8 (48+(ds j:Int))).toArray⟩
structure Bars (b:ByteArray) (ds:Nat→Nat) (u:Nat):Prop where
 size:b.size=42
 ten:∀k,k<8→ds k<10
 read:∀k,k<8→k≠u→G6 (ds k)=b.extract (1+5*k) (6+5*k)
 not:u<8→∀j,j<10→G6 j≠b.extract (1+5*u) (6+5*u)
 sum:(Mw ds 8 8)%10=0
theorem Zm(ds:Nat→Nat)(u):∀k,Mw ds 8 k=Mw ds u k+(if u<k∧u≠8 then ds u else 0)∨8<k
 |0=>aZ (by simp[Mw])
 |k+1=>by
  rcases Zm ds u k with h|h
  ·by_cases h8:k=8
   ·exact gQ ZA
   ·left
    unfold Mw;rw[h,aL h8];by_cases hk:k=u
    ·subst hk
     simp[h8]
    ·rw[aL hk]
     by_cases h2:u<k∧u≠8
     ·rw[aP h2,aP ZA];omega
     ·rw[aL h2,aL ZA];omega
  ·exact gQ ZA
theorem Bars.last{b}{ds:Nat→Nat}{u}(h:Bars b ds u)(hu:u<8):(10 - Mw ds u 8%10)%10=ds u:=by
 have h1:=h.sum;have h2:=h.ten u hu;rcases Zm ds u 8 with h3|h3
 ·rw[aP ZA]at h3;omega
 ·omega
theorem Bars.all{b}{ds:Nat→Nat}{u}(h:Bars b ds u)(hu:u=8):Mw ds u 8%10=0:=by subst hu;exact h.sum
theorem Bars.is{b}{ds:Nat→Nat}{u k d}(h:Bars b ds u)(hk:k<8)(hd:AtK (b.extract (1+5*k) (6+5*k)) d):d=if k=u then -1 else(ds k:Int):=by
 by_cases hu:k=u
 ·subst hu
  rw[aP rfl];rcases hd with⟨j,hj,_,h2⟩|⟨h1,_⟩
  ·exact absurd h2 (h.not hk j hj)
  ·exact h1
 ·rw[aL hu]
  rcases hd with⟨j,hj,h1,h2⟩|⟨_,h2⟩
  ·have:=AoS _ hj _ (h.ten k hk) (h2.trans (h.read k hk hu).symm)
   rw[h1,this]
  ·exact absurd (h.read k hk hu) (h2 _ (h.ten k hk))
theorem At2{ds:Nat→Nat}{l:List UInt8}(hl:l.length=8)(h:∀j,j<7→l[j]? =some (b8 (48+(ds j:Int)))):(⟨(l.take 7).toArray⟩:ByteArray)=AiY ds:=by
 unfold AiY
 congr 2
 apply iZ;intro i;rw[iX];by_cases hi:i<7
 ·rw[aP hi,h i hi,iF,List.getElem?_range hi];rfl
 ·rw[aL hi,eX (by rw[bF,List.length_range];omega)]
theorem Ab7(b)(ds:Nat→Nat)(u w)(hB:Bars b ds u)(hu8:u≤8)(hw:N9 w):
 Calls aB 153 #[.string b] w fun e w'=>e=.returned (.tuple #[.string (AiY ds),.bool true])∧Below w.heap.size w w':=by
 have jV:=aA hB;have HG:Hid (∀(k:Nat) (_:k<8) (W:World),Below w.heap.size w W→Calls aB 240 #[.string b,.int .i64 (k:Int)] W fun e w'=>e=.returned (.int .i64 (if k=u then -1 else(ds k:Int)))∧W=w'):=fun k hk W hW=>by refine(Tt b k W hB.size hk (hw.on hW)).mono ?_;rintro e _ ⟨d,rfl,hd,rfl⟩;exact⟨by rw[hB.is hk hd.out],rfl⟩
 have hz:(b.size:Int)=42:=by have:=hB.size;omega
 refine' ZNt;clear t7;clear hB hw;refine' ZNu;go_loopw[5,6,7] (fun t m i wr=>∃(k:Nat) (l:List UInt8),k≤8∧i=.int .i64 k∧t=.int .i64 (Mw ds u k:Nat)∧m=.int .i64 (if u<k then(u:Int)else -1)∧Hid (E8 wr w.heap.size l)∧Hid (l.length=8)∧Hid (∀j,j<k→j≠u→l[j]? =some (b8 (48+(ds j:Int))))∧Below w.heap.size w wr) (fun _ _ i _=>(8 - intOf i).toNat)
 case atStart=>exact⟨0,List.replicate 8 0,ZA,rfl,rfl,by rw[aL (aX _)],LL.out,ZDN,fun j hj=>absurd hj (aX _),lz⟩
 case round=>
  obtain⟨k,l,hk,rfl,rfl,rfl,HR,HL,HJ,au⟩:=hrel;refine' zR;by_cases ab:k<8
  ·have bc:(k:Int)<8:=ZA
   have HC:=aA (HG.out k ab w1 au);have LM:=AlI jV.out.ten u k hk;have hd:=jV.out.ten k ab;have hlk:k<l.length:=YT
   by_cases hu:k=u
   ·subst hu
    have kw:Hid (Calls aB 240 #[.string b,.int .i64 (k:Int)] w1 fun e w'=>e=.returned (.int .i64 (-1))∧w1=w'):=by have:=HC.out;rw[aP rfl]at this;exact this
    have HS:Hid (Mw ds k (k+1)=Mw ds k k):=by show _=_;rw[Mw,aP rfl];rfl
    rw[aL (Nat.lt_irrefl k)];clear HC;generalize Mw ds k k=sm at *
    refine' ZDe;go_roundw
    case rel=>exact⟨k+1,l,ZA,ZJ,by rw[HS.out],by rw[aP (fS k)],HR,HL,fun j hj DO=>HJ.out j ZA DO,au⟩
    case measure=>exact ZK
   ·have kw:Hid (Calls aB 240 #[.string b,.int .i64 (k:Int)] w1 fun e w'=>e=.returned (.int .i64 (ds k:Int))∧w1=w'):=by have:=HC.out;rw[aL hu]at this;exact this
    have HS:Hid (Mw ds u (k+1)=Mw ds u k+ds k):=by show _=_;rw[Mw,aL hu]
    have HM:Hid ((if u<k+1 then(u:Int)else -1)=if u<k then(u:Int)else -1):=by
     show _=_;by_cases h:u<k
     ·rw[aP h,aP ZA]
     ·rw[aL h,aL ZA]
    have nW:Hid (E8 (w1.setCell ⟨w.heap.size,k,none⟩ (.int .u8 (48+(ds k:Int)))) w.heap.size (l.set k (b8 (48+(ds k:Int))))):=by have h1:=HR.out.set k (b8 (48+(ds k:Int)));refine' ZEt;exact h1
    have HJ2:Hid (∀j,j<k+1→j≠u→(l.set k (b8 (48+(ds k:Int))))[j]? =some (b8 (48+(ds j:Int)))):=fun j hj DO=>by
     by_cases di:j=k
     ·subst di;rw[List.getElem?_set_self hlk]
     ·rw[List.getElem?_set_ne ZA];exact HJ.out j ZA DO
    have gi:Hid ((l.set k (b8 (48+(ds k:Int)))).length=8):=ZNv
    have hc:=HR.out.cell k hlk;have hf:=HR.out.free k;clear HC;generalize(if u<k then(u:Int)else -1)=m at *;generalize Mw ds u k=sm at *;generalize l[k]=QG at *;obtain⟨d,ig⟩:∃d,ds k=d:=⟨_,rfl⟩;rw[ig]at kw HS nW HJ2 gi hd;clear ig;refine' ZEw;refine' ZDe;go_roundw
    case rel=>exact⟨k+1,_,ZA,ZJ,by rw[HS.out];rfl,by rw[HM.out],nW,gi,HJ2,Ai au (p:=⟨w.heap.size,k,none⟩) (aD _) _⟩
    case measure=>exact ZK
  ·obtain rfl:k=8:=ZA
   have LM:=AlI jV.out.ten u 8 (aD _);by_cases hu:u<8
   ·have hE0:=jV.out.last hu
    have hd:=jV.out.ten u hu;have hlk:u<l.length:=YT
    have nW:Hid (E8 (w1.setCell ⟨w.heap.size,u,none⟩ (.int .u8 (48+(ds u:Int)))) w.heap.size (l.set u (b8 (48+(ds u:Int))))):=by have h1:=HR.out.set u (b8 (48+(ds u:Int)));refine' ZEt;exact h1
    have HC:Hid ((⟨((l.set u (b8 (48+(ds u:Int)))).take 7).toArray⟩:ByteArray)=AiY ds):=At2 (by rw[eT];exact HL.out) fun j hj=>by
     by_cases DO:j=u
     ·subst DO;rw[List.getElem?_set_self hlk]
     ·rw[List.getElem?_set_ne ZA];exact HJ.out j ZA DO
    have wF:=nW.out.str (c:=8) (m:=7) (by rw[eT];exact YT);rw[HC.out]at wF;have hc:=HR.out.cell u hlk;have hf:=HR.out.free u;rw[aP hu];generalize Mw ds u 8=sm at *;generalize l[u]=QG at *;refine' ZNw;obtain⟨d,ig⟩:∃d,ds u=d:=⟨_,rfl⟩;rw[ig]at hE0 hd wF nW;clear ig HC;have hE:(10 - (sm:Int)%10)%10=(d:Int):=ZA
    refine' ZEw;have GU:(u:Int)<8:=ZA
    have hu0:(0:Int)≤(u:Int):=ZA
    clear hE0
    refine' ZQ;exact⟨by rw[jz.out];rfl,Ai au (p:=⟨w.heap.size,u,none⟩) (aD _) _⟩
   ·have hS0:=jV.out.all ZA
    have HC:Hid ((⟨(l.take 7).toArray⟩:ByteArray)=AiY ds):=At2 HL.out fun j hj=>HJ.out j ZA ZA
    have wF:=HR.out.str (c:=8) (m:=7) YT;rw[HC.out]at wF;rw[aL hu];generalize Mw ds u 8=sm at *;refine' ZNw;clear HC;have hS1:(sm:Int)%10=0:=ZA
    clear hS0
    refine' ZQ;exact⟨by rw[jz.out];rfl,au⟩
theorem AuP{s}(h:Ea s.data.toList=true)(h7:s.size=7):Ap s=true:=by unfold Ap;rw[h,h7];rfl
theorem AnW(n:Nat):(b8 (48+(n:Int)%10)).toNat=48+n%10:=by have:=Ys (n:=48+(n:Int)%10) ZA ZA;omega
theorem Pl:∀(k n:Nat),Ea (Gm n k)=true
 |0,_=>rfl
 |k+1,n=>by rw[Gm,AgF,Pl k];have:=AnW n;simp[Ea,dig,this];omega
theorem AkS:∀(k n:Nat),n<10^k→Fe (Gm n k)=n
 |0,n,h=>by
  have:n=0:=zG
  subst this;rfl
 |k+1,n,h=>by rw[Gm,Il,AkS k (n/10) (by rw[Nat.pow_succ]at h;omega),AnW];omega
theorem Yr(p):(Hf p).data.toList=Gm p.area.toNat 3++Gm p.walk.toNat 2++Gm p.point.toNat 2:=by unfold Hf;rw[B6,B6];rfl
theorem Se(p):(Hf p).size=7:=by unfold Hf;rw[bG,bG,Jd,Jd,Jd]
theorem AsC(p):Ap (Hf p)=true:=
 AuP (by rw[Yr,AgF,AgF,Pl,Pl,Pl];rfl) (Se p)
theorem AxO(n):∃x y:UInt8,Gm n 2=[x,y]:=⟨_,_,rfl⟩
theorem BbT(n):∃x y z:UInt8,Gm n 3=[x,y,z]:=⟨_,_,_,rfl⟩
theorem Sl(p):∃x y z u v r s:UInt8,Pm p=⟨#[x,y,z,45,u,v,45,r,s]⟩∧Hf p=⟨#[x,y,z,u,v,r,s]⟩:=by
 obtain⟨x,y,z,ha⟩:=BbT p.area.toNat;obtain⟨u,v,hb⟩:=AxO p.walk.toNat;obtain⟨r,s,hc⟩:=AxO p.point.toNat;refine⟨x,y,z,u,v,r,s,?_,?_⟩
 ·apply Cv
  unfold Pm;simp only[B6];show Gm p.area.toNat 3++[45]++Gm p.walk.toNat 2++[45]++Gm p.point.toNat 2=_;rw[ha,hb,hc];rfl
 ·apply Cv
  rw[Yr,ha,hb,hc];rfl
theorem ArE{x y z u v r s:UInt8}(t:ByteArray)(h1:t=⟨#[x,y,z,45,u,v,45,r,s]⟩):∃h:t.size=9,(t[3]' ZA).toNat=45∧(t[6]' ZA).toNat=45∧t.extract 0 3++t.extract 4 6++t.extract 7 9=⟨#[x,y,z,u,v,r,s]⟩:=by subst h1;refine⟨rfl,rfl,rfl,?_⟩;apply Cv;simp only[B6,gT];simp
theorem Au2(p:Plc):∃h:(Pm p).size=9,((Pm p)[3]' ZA).toNat=45∧((Pm p)[6]' ZA).toNat=45∧(Pm p).extract 0 3++(Pm p).extract 4 6++(Pm p).extract 7 9=Hf p:=by obtain⟨x,y,z,u,v,r,s,h1,h2⟩:=Sl p;rw[h2];exact ArE _ h1
theorem Hb(s:ByteArray)(i j):(s.extract i j).data.toList=(s.data.toList.take j).drop i:=by refine' ZBr;simp[List.drop_take]
theorem AtC{A c w ps sep}(h:rd w w.heap.size (.slice A ps.length c) ps)(h0:ps.length≠0)(hN:ps.length≤1000000000)(hs:(Cg ps sep).size≤140737488355328):
 Calls aB 196 #[.slice A ps.length c,.string sep] w fun e w'=>e=.returned (.string (Cg ps sep))∧Below w.heap.size w w':=by obtain⟨A',n',c',hv,rZ,hc,hm,hr⟩:=h;injection hv with e1 e2 e3;subst e1 e2 e3;obtain⟨b,o,rfl,hb,_,_⟩:=hr.str 0 ZA;refine Tryz.strings_Join b o c ps sep w (fun j x hx=>?_) hb ZA hc (by rw[AkJ];exact hs);obtain⟨hj,rfl⟩:=List.getElem?_eq_some_iff.1 hx;obtain⟨b',o',e,_,_,h1⟩:=hr.str j hj;injection e with e;injection e with e1 e2;subst e1 e2;exact h1
theorem Hw(v ps w)(hv:rd w w.heap.size v ps)(hN:ps.length≤1000000000)(hz:∀p∈ps,p.size≤1000):
 Calls aB 127 #[v] w fun e w'=>e=.returned (.string (Cb ps))∧Below w.heap.size w w':=by
 refine' zQ;obtain⟨A,n,c,rfl,hn,hc,hm,_⟩:=hv;refine' ZBk;by_cases h0:ps.length=0
 ·have HL:Hid (Cb ps=⟨#[45]⟩):=by show _=_;unfold Cb;rw[aP h0]
  have jS:((ps.length:Int)==0)=true:=ZDY
  clear h0;go_enter Tryz.func127,Tryz.ntmps127
  refine' ZI;exact⟨B8 HL.out.symm,aF _ _⟩
 ·have HL:Hid (Cb ps=Cg ps spT):=by show _=_;unfold Cb;rw[aL h0]
  have jS:((ps.length:Int)==0)=false:=beq_eq_false_iff_ne.2 ZA;have hj:=Dw ps spT 1000 hz;have AG:ps.length*(1000+spT.size)≤1000000000*1001:=cC hN (aD _);have HJ:=aA (AtC (sep:=spT) HV.out h0 hN ZA);clear h0 hj AG;go_enter Tryz.func127,Tryz.ntmps127
  refine' ZC;refine HJ.out.mono ?_;refine' ZT;refine' ZI;exact⟨B8 HL.out.symm,b1⟩
theorem Ca{B d w s vH}(h:Bv B w d s vH):∃(vL vO vF vN:Value) (os:List OfV),
 (w.cell? ⟨d,0,none⟩=some vL∧w.cell? ⟨d,1,none⟩=some (.int .i64 s.day.plan.bins)∧w.cell? ⟨d,2,none⟩=some (.int .i64 s.day.plan.passes)∧w.cell? ⟨d,3,none⟩=some vO∧w.cell? ⟨d,4,none⟩=some vF∧w.cell? ⟨d,5,none⟩=some vH∧w.cell? ⟨d,6,none⟩=some (.int .i64 s.day.size)∧w.cell? ⟨d,7,none⟩=some vN)∧
 (∀i,w.frozen? ⟨d,i,none⟩=false)∧
 own 119 B w vL s.letters∧own 9 B w vO s.day.plan.order∧own 128 B w vF s.day.fwds∧own 9 B w vH s.day.held∧isN 45 181 B w vN s.net os∧apart vO vH:=by obtain⟨vL,vO,vF,vN,os,h0,h1⟩:=h;refine⟨vL,vO,vF,vN,os,?_,fun i=>frozen_of_row _ _ _ _ _ h0,h1⟩;refine⟨?_,?_,?_,?_,?_,?_,?_,?_⟩<;>(rw[fH _ _ _ _ _ _ h0];rfl)
theorem D3{α:Type}[Flat α]{T base d:Nat}{w v u}{xs:List α}(h:own T base w v xs)(hd:∃bu:Array Value,w.heap[d]? =some (.cells bu 47 (0,0)))(hT:T≠47)(i):own T base (w.setCell ⟨d,i,none⟩ u) v xs:=
 h.keepT fun k bu hc=>bP _ _ _ _ fun e=>by obtain⟨c2,h2⟩:=hd;have e:k=d:=e;subst e;rw[h2]at hc;injection hc with hc;injection hc with _ hc _;exact hT hc.symm
theorem AcP{T1 T2 base d:Nat}{w v u net os}(h:isN T1 T2 base w v net os)(hd:∃bu:Array Value,w.heap[d]? =some (.cells bu 47 (0,0)))(h1:T1≠47)(h2:T2≠47)(i):isN T1 T2 base (w.setCell ⟨d,i,none⟩ u) v net os:=
 ⟨D3 h.1 hd h1 i,h.2.1,fun k a b=>⟨(h.2.2.1 k a b).1,D3 (h.2.2.1 k a b).2 hd h2 i⟩,h.2.2.2.1,h.2.2.2.2⟩
theorem Bv.setNet{B d w s vH MP JS DK}(h:Bv B w d s vH)(hn:isN 45 181 B w MP JS DK):Bv B (w.setCell ⟨d,7,none⟩ MP) d {s with net:=JS} vH:=by refine' ZBu;refine⟨vL,vO,vF,MP,DK,?_,D3 h1 ho ZF 7,D3 h2 ho ZF 7,D3 h3 ho ZF 7,D3 h4 ho ZF 7,AcP hn ho ZF ZF 7,h6⟩;have:=cG w d 7 _ _ MP h0;rw[this];rfl
open Go.RowKit Go.ChangeShapes Go.WideShapes
theorem AfO{H:Type}{enc:TypeId×Value→H}{P w base}{sp:Nat→Bool}{held xf}{t e:TypeId}{n cs}{zs:List ByteArray}{p}
 (ht:P.underlying t=some (.array n e)) (he:P.underlying e=some .string) (UQ:P.cellsOf e=1) (ju:P.cellsOf t=n)
 (h:DataW.trod enc P w base sp held xf t cs=some (.agg (zs.map fun z=>.lit (.string z.data.toList)),p)):cs=zs.map aK:=by
 cases xf with
 |zero=>simp[DataW.trod]at h
 |succ xf=>
  simp only[DataW.trod,ht,UQ,ju,dZ]at h
  split at h
  ·rename_i hl
   obtain⟨xs,hm,hx⟩:=Option.map_eq_some_iff.1 h;have pu:xs.map (·.1)=zs.map fun z=>(DataW.lit (.string z.data.toList):DataW H):=by have:=aT Prod.fst hx;exact zT
   have lG:xs.length=n:=by simpa using Lib.mapM_length hm
   have nC:zs.length=n:=by have:=aT List.length pu;simp at this;omega
   apply iZ;intro i;by_cases hi:i<n
   ·obtain⟨b,hb,hf⟩:=Lib.mapM_at hm i i (by simp[hi])
    obtain⟨z,hc,rfl,_⟩:=DataW.trod_string he hf;have h1:cs[i]? =some (.string z):=by
     have:=aT (·[0]?) hc
     simpa [iX,List.getElem?_drop]using this
    have h2:(xs.map (·.1))[i]? =some (DataW.lit (.string z.data.toList):DataW H):=by simp[hb]
    rw[pu]at h2;simp only[iF,Option.map_eq_some_iff,DataW.lit.injEq,Lit.string.injEq]at h2;obtain⟨z',hz',lQ⟩:=h2;rw[h1,iF,hz',Option.map_some,Cv lQ]
   ·rw[eX ZA,eX ZH]
  ·cases h
theorem Ai3{P W}{name:String}{zs:List ByteArray}{rest g}{t e:TypeId}{n}
 (hg:P.globalNamed name=some g) (hty:(P.globals[g]?).map (·.type)=some t) (ht:P.underlying t=some (.array n e)) (he:P.underlying e=some .string) (UQ:P.cellsOf e=1) (ju:P.cellsOf t=n)
 (h:laidMet P ((name,.agg (zs.map fun z=>.lit (.string z.data.toList)))::rest) W):W.var? P name=some (zs.map aK).toArray:=by obtain⟨ps,⟨g',t',cs,xf,p,q,xe,KH,UR,hd,_,_⟩,_⟩:=h;obtain rfl:=Option.some.inj (hg.symm.trans xe);obtain rfl:=Option.some.inj (hty.symm.trans KH);rw[UR,←AfO ht he UQ ju hd]
attribute [local go_sem] Oper.semAt_some
theorem AaY(o:Ofc)(A c w)(hv:rd w w.heap.size (.slice A o.rules.length c) o.rules)(hl:o.rules.length≤1000):
 Calls aB 176 #[.agg #[.string o.name,.slice A o.rules.length c]] w fun e w'=>∃v',e=.returned (.agg #[.string o.name,v'])∧own 181 w.heap.size w' v' o.rules∧Below w.heap.size w w':=by
 have HR0:=aA hv;clear hv;obtain⟨i0,hi,ah,aw,aq⟩:=eA Tryz.infoRul;obtain⟨W3,uD⟩:∃W3,W3=(((w.alloc (aC #[aK o.name,Value.slice A o.rules.length c] 45)).alloc (aC #[aK ⟨#[]⟩,Value.slice none 0 0] 45)).alloc (aC #[] 181)):=⟨_,rfl⟩;have z3:W3.heap.size=w.heap.size+1+1+1:=by subst uD;simp
 have B3:Below w.heap.size w W3:=by subst uD;go_grown
 have k0:W3.cell? ⟨w.heap.size,0,none⟩=some (.string o.name):=ZB0
 have k1:W3.cell? ⟨w.heap.size,1,none⟩=some (.slice A o.rules.length c):=ZB0
 have j0:W3.cell? ⟨w.heap.size+1,0,none⟩=some (.string ⟨#[]⟩):=ZB0
 have j1:W3.cell? ⟨w.heap.size+1,1,none⟩=some (.slice none 0 0):=ZB0
 have f1:W3.frozen? ⟨w.heap.size,1,none⟩=false:=ZB0
 have g0:W3.frozen? ⟨w.heap.size+1,0,none⟩=false:=ZB0
 have g1:W3.frozen? ⟨w.heap.size+1,1,none⟩=false:=ZB0
 have HE:Hid (own (α:=Fwd) 181 (w.heap.size+1+1) W3 (.slice (some ⟨w.heap.size+1+1,0,none⟩) 0 0) []):=by have h:=own.made0 (α:=Fwd) ((w.alloc (aC #[aK o.name,Value.slice A o.rules.length c] 45)).alloc (aC #[aK ⟨#[]⟩,Value.slice none 0 0] 45)) 181 (aD _);subst uD;exact aA zG
 have HU:=aA (HR0.out.on B3);have ID:Hid (w.heap.size+1+1≤W3.heap.size):=ZA8
 have dz:=aA B3;have HK:=aA (jI k0 (jI k1 (jI j0 (jI j1 (jI f1 (jI g0 g1))))));clear z3 B3 k0 k1 j0 j1 f1 g0 g1;subst uD;go_enter Tryz.func176,Tryz.ntmps176
 go_wp2_with (at_builtin;refine Cu (α:=Fwd) rfl (.tmp 3) (.tmp 5) 43 rfl (w.heap.size+1+1) 181 i0 _ 32 Tryz.underlying43 hi ah aw aq rfl ZF (.slice (some ⟨w.heap.size+1+1,0,none⟩) 0 0) [] rfl HE.out (.slice A o.rules.length c) o.rules rfl _ HU.out ZDG ZH ID.out ?_;intro v4 w4 fj ep _;rw[bV]at fj;have b4:=Ay HE.out ep ID.out;obtain⟨k0,k1,j0,j1,f1,g0,g1⟩:=HK.out;obtain⟨A4,n4,c4,IV,QZ,_⟩:=fj.rd;subst IV QZ;have jq:=aA fj;have br:=aA (dz.out.trans (b4.mono ZA));replace k0:=(b4.cell (p:=⟨w.heap.size,0,none⟩) (show w.heap.size<_ by omega)).trans k0;replace k1:=(b4.cell (p:=⟨w.heap.size,1,none⟩) (show w.heap.size<_ by omega)).trans k1;replace j0:=(b4.cell (p:=⟨w.heap.size+1,0,none⟩) (show w.heap.size+1<_ by omega)).trans j0;replace j1:=(b4.cell (p:=⟨w.heap.size+1,1,none⟩) (show w.heap.size+1<_ by omega)).trans j1;replace f1:=(b4.frozen (p:=⟨w.heap.size,1,none⟩) (show w.heap.size<_ by omega)).trans f1;replace g0:=(b4.frozen (p:=⟨w.heap.size+1,0,none⟩) (show w.heap.size+1<_ by omega)).trans g0;replace g1:=(b4.frozen (p:=⟨w.heap.size+1,1,none⟩) (show w.heap.size+1<_ by omega)).trans g1;clear fj ep b4)
 have O5:=Bd (Bd (Bd jq.out ⟨w.heap.size,1,none⟩ (Value.slice A4 o.rules.length c4) (by show w.heap.size<_;omega)) ⟨w.heap.size+1,0,none⟩ (aK o.name) ZIo) ⟨w.heap.size+1,1,none⟩ (Value.slice A4 o.rules.length c4) ZIo;have jT:=aA O5;clear O5;refine bodyPost_ret (v:=.agg #[.string o.name,.slice A4 o.rules.length c4]) (by simp[results,Tryz.results176,go_sem,j0,j1]) rfl ⟨_,rfl,jT.out.base_ ZA,?_⟩;have B4:=br.out;exact(((B4.setCell ZE _).setCell ZE _).setCell ZE _)
theorem AvC(v net w)(hv:rd w w.heap.size v net)(hl:net.length≤1000)(pw:∀k (h:k<net.length),net[k].rules.length≤1000):
 Calls aB 91 #[v] w fun e w'=>∃v',e=.returned v'∧AoW 45 181 w.heap.size w' v' net∧Below w.heap.size w w':=by
 refine' ZBy;have sN:=aA pw;clear pw;obtain⟨i0,hi,ah,aw,aq⟩:=eA Tryz.infoOfc;go_enter Tryz.func91,Tryz.ntmps91
 refine' ZC;have ox:own (α:=OfV) 45 w.heap.size (w.alloc (aC #[] 45)) (.slice (some ⟨w.heap.size,0,none⟩) 0 0) []:=own.made0 w _ (aD _);have l0:Below w.heap.size w (w.alloc (aC #[] 45)):=(aF _ _).alloc (aD _) _;have sP:=aA (isN.none_ (T2:=181) ox);clear ox;generalize(w.alloc (aC #[] 45))=w0 at *
 go_loopw[3,9] (fun t i wr=>∃(k:Nat) (os:List OfV),k≤net.length∧i=.int .i64 k∧Below w.heap.size w wr∧isN 45 181 w.heap.size wr t (net.take k) os) (fun _ i _=>net.length - (intOf i).toNat)
 case atStart=>exact⟨0,[],aM _,rfl,l0,sP.out⟩
 case round=>
  obtain⟨k,os,hk,rfl,lr,hB⟩:=hrel;refine' zR;have HB:=aA hB;clear l0 sP;by_cases ab:k<net.length
  ·refine' ZGp;have qw:os.length=k:=by rw[hB.2.1,bH];omega
   clear hB;obtain⟨b,o,A2,c2,rfl,hb,uG,hu,y1,y2⟩:=HR.out.ofcU k ab;have HS:Hid (net.take (k+1)=net.take k++[net[k]]):=aH ab;have GX:=sN.out k ab;generalize net[k]=y at *;obtain⟨nm,ys⟩:=y;simp only at GX y1 y2 uG hu;have y1:=y1 w1 lr;have y2:=y2 w1 lr;have HU:=aA hu;clear hu;refine' ZCi;refine' zO;have PQ:os.length≤1000:=ZA
   clear qw;obtain⟨wb,lx⟩:∃u,u=w1.alloc (aC #[.string nm,.slice A2 ys.length c2] 45):=⟨_,rfl⟩;have lb:=(Aw lx).1;have DF:=aA uG;have bp:=aA lx;clear lx uG;have UT:=Aa lr lb;have MU:=aA (HB.out.below lb)
   refine' ZC;rw[←bp.out];refine(AaY ⟨nm,ys⟩ A2 c2 wb (HU.out.on UT) GX).mono ?_;refine' ZAm;obtain⟨A5,m5,c5,rfl,xp,_,_,_⟩:=o2.rd;subst xp;have ja:=aA o2;have tb:=Aa UT b2;have iu:w.heap.size≤w2.heap.size:=tb.size;have yI:=UT.size;have kS:=aA (MU.out.below b2);have p8:Hid (apart (.slice A5 (Ofc.mk nm ys).rules.length c5) (.slice AO os.length cO)):=Dd ja.out MU.out.1 (aD _);have s8:Hid (∀i (h:i<os.length),apart (.slice A5 (Ofc.mk nm ys).rules.length c5) os[i].val):=fun i hi=>Dd ja.out (MU.out.2.2.1 i hi (by have:=MU.out.2.1;omega)).2 (aD _)
   clear o2 b2
   dsimp only at ja p8 s8⊢
   go_wp2_with (at_builtin;refine An (α:=OfV) rfl (.tmp 13) (.tmp 16) 34 rfl w.heap.size 45 i0 _ 40 Tryz.underlying34 hi ah aw aq rfl ZF (.slice AO os.length cO) os ⟨nm,.slice A5 ys.length c5⟩ rfl (kS.out.1.alloc _) ⟨w2.heap.size,0,none⟩ 1 [.string nm,.slice A5 ys.length c5] rfl ⟨rfl,DF.out,rfl⟩ (Bz w2 _ [.string nm,.slice A5 ys.length c5]) ZN ZA ZH ?_;intro g cap w3 nQ sM qD tc)
   have l3:Below w.heap.size w w3:=(Ae tb (aC #[.string nm,.slice A5 ys.length c5] 45)).grown sM ZH fun q hq=>(kS.out.1.blk q hq).1
   have dz:=aA (isN.snoc (kS.out.below (Ae (aF _ _) (aC #[.string nm,.slice A5 ys.length c5] 45))) ((ja.out.base_ yI).alloc (aC #[.string nm,.slice A5 ys.length c5] 45)) p8.out s8.out nQ sM qD);clear nQ sM;exact ZLG
  ·refine' ZDy;refine' ZO;have h:=HB.out;rw[HE.out,aY]at h;exact⟨_,rfl,⟨os,h⟩,lr⟩
theorem P7{c}:∀{l p:List UInt8},p∈spl c l→p.length≤l.length
 |[],p,h=>by simp[spl]at h;subst h;exact YV
 |b::l,p,h=>by
  by_cases hb:b=c
  ·subst hb
   rw[AcG]at h;rcases List.mem_cons.1 h with h|h
   ·subst h;exact ZZ
   ·exact jD (P7 h)
  ·obtain⟨q,qs,hq⟩:=fT (AcF c l)
   rw[Nk hb hq]at h;rcases List.mem_cons.1 h with h|h
   ·subst h
    exact Nat.succ_le_succ (P7 (c:=c) (l:=l) (by rw[hq];simp))
   ·exact jD (P7 (c:=c) (l:=l) (by rw[hq];exact bK _ h))
theorem AqK{c t p}(h:p∈Aj c t):p.size≤t.size:=by unfold Aj at h;obtain⟨l,hl,rfl⟩:=List.mem_map.1 h;have:=P7 hl;show l.toArray.size≤t.data.size;exact zT
section
variable{α:Type}{f:ByteArray→Option α}
theorem AuR{ps:List ByteArray}{k}(hk:k<ps.length)(h:Ik f (ps.take k)=true):Ik f (ps.take (k+1))=(f ps[k]).isSome:=ZQl
theorem AwF{ps:List ByteArray}{k}(hk:k<ps.length)(jl:k≤8)(h:Ik f (ps.take (k+1))=false):Ik f (ps.take 9)=false:=
 Vl (fW ZA) h
end
theorem BcU{ps:List ByteArray}{k}(hk:k≤ps.length)(jl:k≤9)(ge:k=ps.length∨8<k):ps.take 9=ps.take k:=by
 refine' ZFk
 ·rw[show k=9 by omega]
theorem AzV(t):(pnN t).length≤1000∧∀k (h:k<(pnN t).length),(pnN t)[k].rules.length≤1000:=by
 unfold pnN;by_cases h:Kx t=true
 ·rw[aP h]
  unfold Kx at h;refine' ZBR;obtain⟨_,h⟩:=h;obtain⟨h1,h2⟩:=D1.1 h;refine⟨ZA,fun k hk=>?_⟩;have:=(Ev.1 (h2 k hk).2.2.2.1).1;omega
 ·simp only[aL h]
  exact⟨aM _,fun k hk=>absurd hk (aX k)⟩
def snN(t:ByteArray):List Ofc:=if AqF t then Gl Jl ((Aj 59 t).take 9)else []
theorem BcF(t):snN t=pnN t:=by
 obtain⟨h1,h2⟩:=BbI t;unfold snN pnN;rw[h1]
 split
 ·rename_i h;exact h2 h
 ·rfl
theorem So(t w)(ht:t.size≤1000000000000):
 Calls aB 90 #[.string t] w fun e w'=>∃v' os,e=.returned (.tuple #[v',.bool (AqF t)])∧isN 45 181 w.heap.size w' v' (snN t) os∧Below w.heap.size w w':=by
 obtain⟨i0,ji,dp,dq,dr⟩:=eA Tryz.infoOfc;have lA:Below w.heap.size w (w.alloc (aC #[] 45)):=(aF _ _).alloc (aD _) _;have rL:own (α:=OfV) 45 w.heap.size (w.alloc (aC #[] 45)) (.slice (some ⟨w.heap.size,0,none⟩) 0 0) []:=own.made0 w _ (aD _);have LA:=aA lA;have pG:=aA (isN.none_ (T2:=181) rL);clear lA rL;go_enter Tryz.func90,Tryz.ntmps90;have HR:Hid (snN t=if AqF t then Gl Jl ((Aj 59 t).take 9)else []):=rfl;have kV:=aA (Rj 59 t);have sS:=aA (fun p h=>aG (AqK (c:=59) (t:=t) (p:=p) h) ht);have HC:=fun W=>I9 t 59 W ht
 refine' ZC;obtain⟨wA,ug⟩:∃W,w.alloc (aC #[] 45)=W:=⟨_,rfl⟩;refine' ZQm;have pK:=R8 pG.out.1 hp (aD _);refine' ZQn;have dw:Hid (AqF t=(Ik Jl ((Aj 59 t).take 9)&&sEq (Mx (Gl Jl ((Aj 59 t).take 9))) t)):=rfl;obtain⟨ps,d9⟩:∃ps,Aj 59 t=ps:=⟨_,rfl⟩;rw[d9]at hn ic hp HR dw sS;clear d9;subst hn
 refine' ZC;go_loopw[4,6,7,8,9] (fun v i _ _ _ wr=>∃(k:Nat) (os:List OfV),k≤ps.length∧k≤9∧i=.int .i64 k∧Ik Jl (ps.take k)=true∧isN 45 181 w.heap.size wr v (Gl Jl (ps.take k)) os∧own 9 wA.heap.size wr (.slice A ps.length c) ps∧apart v (.slice A ps.length c)∧Below w.heap.size w wr) (fun _ i _ _ _ _=>9 - (intOf i).toNat)
 case atStart=>exact⟨0,[],aM _,ZA,rfl,rfl,iy,hp,pK,uh⟩
 case round=>
  obtain⟨k,os,hk,NQ,rfl,cw,ho,hop,m7,lw⟩:=hrel;refine' ZFl;by_cases ge:k=ps.length∨8<k
  ·have HT:=aA (BcU hk NQ ge)
   refine' ZFm;have HF:=Ph _ _ w2 j8.out.rd;clear ho hm;by_cases fy:k=ps.length
   ·refine' ZFn;exact ZQo
   ·refine' ZAw;have rf:¬((k:Int)≤8):=ZA
    exact ZQo
  ·have fy:k<ps.length:=ZA
   have TW:k≤8:=ZA
   refine' ZAw;have rf:(k:Int)≤8:=ZA
   refine' ZQp;have HY1:=aA y1;have y1:=y1 w2 (aF _ _);cases qi;subst pZ;clear uj hop m7;have rK:=aA (AuR (f:=Jl) fy jg.out);have ma:=aA (AwF (f:=Jl) fy TW);refine' ZQq;have se:=sS.out _ (aU fy);clear ge;generalize ps[k]=x at *;have kZ:=fun W=>Nq x 32 W oa
   by_cases az:Lib.indexByte x.data.toList 32<0
   ·have nz:=aA (Ri az)
    have HB:Hid (AqF t=false):=by show _=_;rw[dw.out,ma.out (by rw[rK.out];unfold Jl;rw[nz.out];rfl)];rfl
    clear ho
    refine' ZBz;generalize Lib.indexByte x.data.toList 32=j at *
    refine' ZQ;exact⟨_,[],G9 HB.out,by rw[HR.out,HB.out];exact isN.none_ (own.made0 _ _ lw.size),lw.alloc lw.size _⟩
   ·obtain⟨i,jt⟩:∃i:Nat,Lib.indexByte x.data.toList 32=(i:Int):=⟨(Lib.indexByte x.data.toList 32).toNat,ZA⟩
    refine' ZIp;have qz:Hid (Jl x=some ⟨x.extract 0 i,prR (x.extract (i+1) x.size)⟩):=by show _=_;unfold Jl;rw[ax];rfl
    have HY:Hid ((x.extract 0 i).size≤maxLen):=aG jf.1 oa;have nJ:Hid (Ik Jl (ps.take (k+1))=true):=ZIq
    have gu:Hid (Gl Jl (ps.take (k+1))=Gl Jl (ps.take k)++[⟨x.extract 0 i,prR (x.extract (i+1) x.size)⟩]):=by show _=_;rw[lY.out];exact AbL qz.out
    have FP:=aA (fun W=>AeD (x.extract (i+1) x.size) W ZA);have bv:os.length=k:=by rw[ho.2.1,Un _ jg.out,bH];omega
    clear jt az iu ax jf;refine' ZIr;obtain⟨Av,m,cp,rfl,hm,_,_,_⟩:=ho.1.rd;rw[bv]at hm;subst hm;clear ho;generalize Gl Jl (ps.take m)=gs at *
    refine' ZBz;refine' ZC;refine(FP.out _).mono ?_;rintro e w3 ⟨vq,rfl,xg,b3⟩;obtain⟨Aq,nq,cq,rfl, -, -, -, -⟩:=xg.rd;have ED:=aA xg;have CV:=aA (j8.out.below b3);have KL:=aA (uZ.out.below b3);have p8:Hid (apart (.slice Aq nq cq) (.slice Av m cp)):=Dd xg j8.out.1 (aD _);have s8:Hid (∀i (h:i<os.length),apart (.slice Aq nq cq) os[i].val):=fun i hi=>Dd ED.out (j8.out.2.2.1 i hi (by have:=j8.out.2.1;omega)).2 (aD _)
    have i6:=Aa lw b3;replace y1:=HY1.out w3 b3;have ft:=i6.size;clear xg b3
    go_wp2_with (at_builtin;refine An (α:=OfV) rfl (.tmp 42) (.tmp 51) 34 rfl w.heap.size 45 i0 _ 40 Tryz.underlying34 ji dp dq dr rfl ZF (.slice Av m cp) os ⟨x.extract 0 i,.slice Aq nq cq⟩ rfl (CV.out.1.alloc _) ⟨w3.heap.size,0,none⟩ 1 [.string (x.extract 0 i),.slice Aq nq cq] rfl ⟨rfl,HY.out,rfl⟩ (Bz w3 _ [.string (x.extract 0 i),.slice Aq nq cq]) ZN ZA ZH ?_;refine' ZAi)
    have fq:Below w3.heap.size w3 (w3.alloc (aC #[aK (x.extract 0 i),.slice Aq nq cq] 45)):=Ae (aF _ _) _;have kB:Below w.heap.size w3 w4:=(fq.mono ft).trans (Ay (CV.out.1.alloc _) ep ZH);have ul:=(KL.out.alloc (aC #[aK (x.extract 0 i),.slice Aq nq cq] 45)).grown ep (Br et.out);have cn:=Dg (n:=os.length+1) (c:=cap) et.out kR (fun j hj=>((KL.out.alloc (aC #[aK (x.extract 0 i),.slice Aq nq cq] 45)).blk j hj).2);have br:=aA (isN.snoc (CV.out.below fq) ((ED.out.base_ aq).below fq) p8.out s8.out fj ep kR);have HL4:=aA (i6.trans kB);have BB:=aA ul;have ny:=aA cn;rw[bv]at br ny;clear fq ep fj kB ul cn;go_roundw
    case rel=>exact⟨m+1,_,ZA,ZA,ZJ,nJ.out,by rw[gu.out];exact br.out,BB.out,ny.out,HL4.out⟩
    case measure=>exact ZK
theorem P0(t w)(ht:t.size≤1000000000000):
 Calls aB 45 #[.string t] w fun e w'=>∃v',e=.returned (.tuple #[v',.bool (Kx t)])∧AoW 45 181 w.heap.size w' v' (pnN t)∧Below w.heap.size w w':=by
 have HL:=aA (AzV t);have CW:=fun W=>So t W ht
 rw[BcF,(BbI t).1]at CW;go_enter Tryz.func45,Tryz.ntmps45
 refine' ZC;refine(CW _).mono ?_;clear CW;rintro e w1 ⟨v1,os,rfl,h1,b1⟩;have il:=aA h1.rd;obtain⟨A,n,c,rfl, -, -, -, -⟩:=h1.rd;clear h1
 refine' ZC;refine(AvC _ (pnN t) w1 il.out HL.out.1 HL.out.2).mono ?_;rintro e w2 ⟨v2,rfl,h2,b2⟩;have ja:=aA h2;obtain⟨A2,n2,c2,rfl, -, -, -, -⟩:=h2.rd;have l2:=Aa b1 b2;have hs:=b1.size;clear h2 b2
 refine' ZQ;obtain⟨os2,h2⟩:=ja.out;exact⟨_,rfl,⟨os2,h2.base_ hs⟩,l2⟩
end Go.Proofs.YtfadhdacjpmmeaaGreatDoor
