/- Parts. -/
import Derived.Test.YtfadhdacjpmmeaaGreatDoorQ16
import Derived.Test.YtfadhdacjpmmeaaGreatDoorQ5
import Derived.Shelf.SlSortCmp.InsertionK
import Derived.Lib.SortBridge
import Derived.Test.YtfadhdacjpmmeaaGreatDoorQ4
set_option linter.unusedVariables false
set_option linter.unusedSimpArgs false
namespace Go.Proofs.YtfadhdacjpmmeaaGreatDoor
set_option maxHeartbeats 800000
open Go.IntKind renaming i64→aI
open Go.Obj renaming cells→aC
open Go.Proofs.Tryz renaming prog→aB
open Go.Value renaming string→aK,int→bC
open Go.RowKit
open Go.RowKit Go.Shelf
attribute [local go_sem] Oper.semAt_some
def E5(c:UInt8)(s:ByteArray):Option (ByteArray×ByteArray):=
 if Lib.indexByte s.data.toList c<0 then none else some (s.extract 0 (Lib.indexByte s.data.toList c).toNat,s.extract ((Lib.indexByte s.data.toList c).toNat+1) s.size)
theorem Ri{c s}(h:Lib.indexByte s.data.toList c<0):E5 c s=none:=by unfold E5;rw[aP h]
theorem Nt{c s}{i:Nat}(h:Lib.indexByte s.data.toList c=(i:Int)):E5 c s=some (s.extract 0 i,s.extract (i+1) s.size):=by unfold E5;rw[aL ZA,h];rfl
theorem AcH(s c w)(hs:s.size≤maxLen):
 Calls aB 116 #[.string s,.string ⟨#[c]⟩] w fun e w'=>Below w.heap.size w w'∧
  ((E5 c s=none∧e=.returned (.tuple #[.string s,.string ⟨#[]⟩,.bool false]))∨∃p q,E5 c s=some (p,q)∧e=.returned (.tuple #[.string p,.string q,.bool true])):=by
 have jt:=Tryz.stringslite_Index_one s c w;have so:=Lib.indexByte_ge s.data.toList c;unfold maxLen at hs;by_cases az:Lib.indexByte s.data.toList c<0
 ·have HC:=aA (Ri az)
  have hd:decide ((0:Int)≤Lib.indexByte s.data.toList c)=false:=aO ZA;generalize Lib.indexByte s.data.toList c=j at *;refine' ZQP;go_ret3
  exact⟨aF _ _,.inl ⟨HC.out,rfl⟩⟩
 ·obtain⟨i,hi⟩:∃i:Nat,Lib.indexByte s.data.toList c=(i:Int):=⟨(Lib.indexByte s.data.toList c).toNat,ZA⟩
  obtain⟨_,iu⟩:=Mr hi;have nZ:i<s.size:=by simpa using iu
  have HC:=aA (Nt hi);rw[hi]at jt;clear az so hi iu;have w2:aI.wrap ((i:Int)+1)=(i:Int)+1:=bI _ ZA;have AJ:(i:Int)≤(s.size:Int):=ZA
  have jO:(i:Int)+1≤(s.size:Int):=ZA
  have kP:((i:Int)+1).toNat=i+1:=ZA
  have uQ:(0:Int)≤(i:Int):=ZA
  have IF:(0:Int)≤(i:Int)+1:=ZA
  have hd:decide ((0:Int)≤(i:Int))=true:=aJ uQ;refine' ZQP;go_quiet (fail)
  go_wp2
  go_ret3
  exact⟨Ba (aF _ _) _,.inr ⟨_,_,HC.out,rfl⟩⟩
theorem Er(s c w)(hs:s.size≤maxLen):
 Calls aB 51 #[.string s,.string ⟨#[c]⟩] w fun e w'=>Below w.heap.size w w'∧
  ((E5 c s=none∧e=.returned (.tuple #[.string s,.string ⟨#[]⟩,.bool false]))∨∃p q,E5 c s=some (p,q)∧e=.returned (.tuple #[.string p,.string q,.bool true])):=by
 have h:=AcH s c w hs;go_enter Tryz.func51,Tryz.ntmps51
 go_wp2_with (go_at_call 116;refine h.mono ?_;rintro e w' ⟨hb,⟨hc,rfl⟩|⟨p,q,hc,rfl⟩⟩)
 all_goals go_ret3
 ·exact⟨hb,.inl ⟨hc,rfl⟩⟩
 ·exact⟨hb,.inr ⟨_,_,hc,rfl⟩⟩
instance:Inhabited Ltr:=⟨⟨0,⟨#[]⟩⟩⟩
instance:Inhabited Fwd:=⟨⟨⟨#[]⟩,⟨#[]⟩⟩⟩
theorem X0:∀a:List UInt8,Lib.compareBytes a a=0
 |[]=>rfl
 |a::p=>by
  unfold Lib.compareBytes;have:¬a<a:=by rw[eI];omega
  rw[aL this,aL this];exact X0 p
theorem AjF:∀a b c:List UInt8,Lib.compareBytes a b<0→Lib.compareBytes b c<0→Lib.compareBytes a c<0
 |[],[],_,h,_=>ZB2
 |[],_::_,[],_,h=>ZB2
 |[],_::_,_::_,_,_=>ZI2
 |_::_,[],_,h,_=>ZB2
 |_::_,_::_,[],_,h=>ZB2
 |a::p,b::q,c::r,h1,h2=>by
  unfold Lib.compareBytes at h1 h2⊢;simp only[eI]at h1 h2⊢
  split at h1
  ·split at h2
   ·rw[aP ZA];omega
   ·split at h2
    ·omega
    ·rw[aP ZA];omega
  ·split at h1
   ·omega
   ·split at h2
    ·rw[aP ZA];omega
    ·split at h2
     ·omega
     ·refine' ZIu;exact AjF p q r h1 h2
theorem AeS:∀a b c:List UInt8,¬Lib.compareBytes a b<0→¬Lib.compareBytes b c<0→¬Lib.compareBytes a c<0
 |[],[],c,_,h=>h
 |[],_::_,_,h,_=>ZB2
 |_::_,[],[],_,_=>ZI2
 |_::_,[],_::_,_,h=>ZB2
 |_::_,_::_,[],_,_=>ZI2
 |a::p,b::q,c::r,h1,h2=>by
  unfold Lib.compareBytes at h1 h2⊢;simp only[eI]at h1 h2⊢
  split at h1
  ·exact absurd ZA h1
  ·split at h2
   ·exact absurd ZA h2
   ·rw[aL ZA]
    split
    ·omega
    ·rw[aL ZA]at h1
     rw[aL ZA]at h2;exact AeS p q r h1 h2
theorem An3{α:Type}(f:α→ByteArray):Sort.SWO (ltOf fun x y:α=>Lib.compareBytes (f x).data.toList (f y).data.toList) where
 irrefl x:=by unfold ltOf;show decide (Lib.compareBytes _ _<0)=false;rw[X0];rfl
 trans x y z h1 h2:=by unfold ltOf at *;exact aJ (AjF _ _ _ (gK h1) (gK h2))
 ntrans x y z h1 h2:=by unfold ltOf at *;exact aO (AeS _ _ _ (iA h1) (iA h2))
theorem AhI{α:Type}[Inhabited α]{d d':Array α}(h:Sort.PermIn 0 d.size d d'):d'.toList.Perm d.toList:=by
 obtain⟨h1,_,h3⟩:=h;have e1:d.extract 0 d.size=d:=Array.extract_size;have e2:d'.extract 0 d.size=d':=by rw[←h1];exact Array.extract_size
 rwa [e1,e2]at h3
theorem AkP{α:Type}[Inhabited α](enc:α→List Value)(hk:∀x,(enc x).length=2):∀(xs:List α) (t:Nat),t<xs.length*2→(xs.flatMap enc)[t]? =(enc (xs.getD (t/2) default))[t%2]?
 |[],t,h=>by simp at h
 |x::xs,0,_=>ZRQ
 |x::xs,1,_=>ZRQ
 |x::xs,t+2,h=>by have hx:=hk x;rw[jA,List.getElem?_append_right ZA,hx,Nat.add_sub_cancel,AkP enc hk xs t (by simp at h;omega)];rw[show(t+2)/2=t/2+1 by omega,show(t+2)%2=t%2 by omega];rfl
theorem Ra{α:Type}(enc:α→List Value)(hk:∀x,(enc x).length=2):∀xs:List α,(xs.flatMap enc).length=xs.length*2
 |[]=>rfl
 |x::xs=>by rw[jA,aS,hk,Ra enc hk xs];exact ZH
theorem AtI{α:Type}[Inhabited α](enc:α→List Value)(hk:∀x,(enc x).length=2)(d):Sort.flatK enc 2 d=(d.toList.flatMap enc).toArray:=by
 apply Array.ext
 ·rw[Sort.size_flatK]
  simp[Ra enc hk]
 ·intro t h1 h2
  rw[Sort.size_flatK]at h1;have h3:=Sort.get_flatK enc 2 d t h1;rw[fO _ t (by rw[Sort.size_flatK];exact h1)]at h3;rw[h3];have h4:=AkP enc hk d.toList t ZBS;have h5:(d.toList.flatMap enc)[t]? =some (d.toList.flatMap enc)[t]:=aR (by rw[Ra enc hk];exact ZBS);rw[h5]at h4;have ab:t/2<d.size:=ZA
  have e:d.toList.getD (t/2) default=d[t/2]! :=by rw[fO d (t/2) ab];simp[ab]
  rw[e]at h4;have h6:t%2<(enc d[t/2]!).length:=by rw[hk];omega
  rw[aR h6]at h4;injection h4 with h4;rw[fO (enc d[t/2]!) (t%2) h6,←h4];simp
theorem Oh{a b c:World}{row}(h:a.grownBy b row)(k:b.grownBy c row):a.grownBy c row:=
 ⟨k.os.trans h.os,k.tape.trans h.tape,k.output.trans h.output,aG h.size k.size,fun i hi bj=>(k.block i (bU hi h.size) bj).trans (h.block i hi bj)⟩
theorem Al4{α:Type}[Flat α]{T base:Nat}{w v}{xs:List α}(h:own T base w v xs)(os):own T base (Go.Sort.grow w os) v xs:=
 h.keepBlk fun k hk=>ZOt
theorem ArP{T base g n c:Nat}{w}{xs:List Fwd}(h:own T base w (.slice (some ⟨g,0,none⟩) n c) xs){k}(hk:k<xs.length)(y)(hy:y.ok):
 own T base ((w.setCell ⟨g,k*2,none⟩ (.string y.src)).setCell ⟨g,k*2+1,none⟩ (.string y.dst)) (.slice (some ⟨g,0,none⟩) n c) (xs.set k y):=by
 have h1:=h.setCell (k:=k) (j:=0) hk ZF (.string y.src) ⟨y.src,xs[k].dst⟩ (fun ecs he=>ZPI)
 have h2:=h1.setCell (k:=k) (j:=1) zM ZF (.string y.dst) y (fun ecs he=>by obtain⟨_,rfl⟩:=he;refine⟨hy,?_⟩;simp[Fwd.cells])
 rw[List.set_set]at h2;exact h2
theorem AsR{α:Type}(xs:List α)(k)(y:α)(ys)(hk:k+(ys.length+1)≤xs.length):(xs.set k y).take (k+1)++ys++(xs.set k y).drop (k+1+ys.length)=xs.take k++y::ys++xs.drop (k+(ys.length+1)):=ZOs
theorem ApC{T base g n c:Nat}:∀(ys:List Ltr) (k:Nat) (w:World) (xs:List Ltr),(∀y∈ys,y.ok)→k+ys.length≤xs.length→own T base w (.slice (some ⟨g,0,none⟩) n c) xs→
 own T base (w.setCells g (k*2) (ys.flatMap Ltr.cells)) (.slice (some ⟨g,0,none⟩) n c) (xs.take k++ys++xs.drop (k+ys.length))∧w.grownBy (w.setCells g (k*2) (ys.flatMap Ltr.cells)) (some g)
 |[],k,w,xs,_,_,h=>ZIF
 |y::ys,k,w,xs,hy,hl,h=>by
  simp only[bZ]at hl;have h1:=Ar6 h (k:=k) ZA y (hy y ZE);obtain⟨h2,h3⟩:=ApC ys (k+1) _ (xs.set k y) (fun z hz=>hy z (by simp[hz])) ZFR h1;rw[AsR xs k y ys hl]at h2;have e:w.setCells g (k*2) ((y::ys).flatMap Ltr.cells)=((w.setCell ⟨g,k*2,none⟩ (.int .i64 y.id)).setCell ⟨g,k*2+1,none⟩ (.string y.code)).setCells g ((k+1)*2) (ys.flatMap Ltr.cells):=ZRR
  exact ZRS
theorem Ap2{T base g n c:Nat}:∀(ys:List Fwd) (k:Nat) (w:World) (xs:List Fwd),(∀y∈ys,y.ok)→k+ys.length≤xs.length→own T base w (.slice (some ⟨g,0,none⟩) n c) xs→
 own T base (w.setCells g (k*2) (ys.flatMap Fwd.cells)) (.slice (some ⟨g,0,none⟩) n c) (xs.take k++ys++xs.drop (k+ys.length))∧w.grownBy (w.setCells g (k*2) (ys.flatMap Fwd.cells)) (some g)
 |[],k,w,xs,_,_,h=>ZIF
 |y::ys,k,w,xs,hy,hl,h=>by
  simp only[bZ]at hl;have h1:=ArP h (k:=k) ZA y (hy y ZE);obtain⟨h2,h3⟩:=Ap2 ys (k+1) _ (xs.set k y) (fun z hz=>hy z (by simp[hz])) ZFR h1;rw[AsR xs k y ys hl]at h2;have e:w.setCells g (k*2) ((y::ys).flatMap Fwd.cells)=((w.setCell ⟨g,k*2,none⟩ (.string y.src)).setCell ⟨g,k*2+1,none⟩ (.string y.dst)).setCells g ((k+1)*2) (ys.flatMap Fwd.cells):=ZRR
  exact ZRS
theorem AfS{T base g n c:Nat}{w xs}(h:own T base w (.slice (some ⟨g,0,none⟩) n c) xs):Sort.HoldsK Ltr.cells 2 w g 0 xs.toArray:=by refine' ZRT;obtain⟨_,c1,c2⟩:=AtM h (t/2) ab;exact ZRU
theorem AqC{T base g n c:Nat}{w}{xs:List Fwd}(h:own T base w (.slice (some ⟨g,0,none⟩) n c) xs)(k)(hk:k<xs.length):xs[k].ok∧w.cell? ⟨g,k*2,none⟩=some (.string xs[k].src)∧w.cell? ⟨g,k*2+1,none⟩=some (.string xs[k].dst):=by obtain⟨A',n',c',hv,_,_,_,hr⟩:=h.rd;injection hv with e1 _ _;subst e1;obtain⟨b,o,hA,_,ag,c1,c2⟩:=hr.fwd k hk;refine' ZAr;rw[bW]at c1 c2;exact⟨ag,c1,c2⟩
theorem Af9{T base g n c:Nat}{w xs}(h:own T base w (.slice (some ⟨g,0,none⟩) n c) xs):Sort.HoldsK Fwd.cells 2 w g 0 xs.toArray:=by refine' ZRT;obtain⟨_,c1,c2⟩:=AqC h (t/2) ab;exact ZRU
theorem Ao4{T base g n c q:Nat}{w xs d' os}(h:own T base w (.slice (some ⟨g,0,none⟩) n c) xs)(hp:d'.toList.Perm xs):
 own T base (sortWorldK Ltr.cells 2 w g 0 q d' os) (.slice (some ⟨g,0,none⟩) n c) d'.toList∧w.grownBy (sortWorldK Ltr.cells 2 w g 0 q d' os) (some g):=by
 have hH:=AfS h;have hl:=hp.length_eq;have e1:sortWorldK Ltr.cells 2 w g 0 q d' os=Sort.grow ((w.drewN q).setCells g 0 (d'.toList.flatMap Ltr.cells)) os:=by unfold sortWorldK Sort.putRowK;rw[AtI Ltr.cells (fun _=>rfl) d',Lib.sorted_world id w g 0 q (Sort.flatK Ltr.cells 2 xs.toArray) (d'.toList.flatMap Ltr.cells) os hH ZRV];simp
 refine' ZIG;have ag:∀y∈d'.toList,y.ok:=fun y hy=>by obtain⟨k,hk,rfl⟩:=bO (hp.mem_iff.1 hy);exact(AtM h k hk).1
 obtain⟨h2,h3⟩:=ApC d'.toList 0 (w.drewN q) xs ag ZA (h.below bq);exact ZRW
theorem ApP{T base g n c q:Nat}{w xs d' os}(h:own T base w (.slice (some ⟨g,0,none⟩) n c) xs)(hp:d'.toList.Perm xs):
 own T base (sortWorldK Fwd.cells 2 w g 0 q d' os) (.slice (some ⟨g,0,none⟩) n c) d'.toList∧w.grownBy (sortWorldK Fwd.cells 2 w g 0 q d' os) (some g):=by
 have hH:=Af9 h;have hl:=hp.length_eq;have e1:sortWorldK Fwd.cells 2 w g 0 q d' os=Sort.grow ((w.drewN q).setCells g 0 (d'.toList.flatMap Fwd.cells)) os:=by unfold sortWorldK Sort.putRowK;rw[AtI Fwd.cells (fun _=>rfl) d',Lib.sorted_world id w g 0 q (Sort.flatK Fwd.cells 2 xs.toArray) (d'.toList.flatMap Fwd.cells) os hH ZRV];simp
 refine' ZIG;have ag:∀y∈d'.toList,y.ok:=fun y hy=>by obtain⟨k,hk,rfl⟩:=bO (hp.mem_iff.1 hy);exact(AqC h k hk).1
 obtain⟨h2,h3⟩:=Ap2 d'.toList 0 (w.drewN q) xs ag ZA (h.below bq);exact ZRW
end Go.Proofs.YtfadhdacjpmmeaaGreatDoor
namespace Go.Proofs
set_option maxHeartbeats 800000
open Go.IntKind renaming i64→aI
open Go.Obj renaming cells→aC
open Go.Proofs.Tryz renaming prog→aB
open Go.Value renaming string→aK,int→bC
open Go.Proofs.YtfadhdacjpmmeaaGreatDoor
open Go.Shelf
def Tryz.laysIns_ren:Go.Shelf.Ren:=⟨fun|20=>314|n=>n,fun|24=>119|22=>27|3=>3|25=>207|4=>4|0=>0|n=>n,fun|n=>n⟩
theorem Tryz.laysIns:Go.Proofs.SlLaysF0.n20 aB Tryz.laysIns_ren:={
 mixed:=ZB
 f20:=⟨Tryz.f314.name,ZF,Tryz.func314.trans (aT some ZB)⟩
 t0:=eN
 a0:=gS
 z0:=gH
 v0:=eW
 t3:=dJ
 a3:=eV
 z3:=eK
 v3:=dM
 t4:=dU
 a4:=gG
 z4:=fN
 v4:=eL
 t22:=aV
 a22:=Tryz.isAgg27
 z22:=Tryz.sizeOf27
 v22:=Tryz.zeroValue27
 t25:=Tryz.underlying207
 a25:=Tryz.isAgg207
 z25:=Tryz.sizeOf207
 v25:=Tryz.zeroValue207}
end Go.Proofs
namespace Go.Proofs.YtfadhdacjpmmeaaGreatDoor
set_option maxHeartbeats 800000
open Go.IntKind renaming i64→aI
open Go.Obj renaming cells→aC
open Go.Proofs.Tryz renaming prog→aB
open Go.Value renaming string→aK,int→bC
open Go.RowKit
theorem Bc3(x y:Ltr)(W):Calls aB 199 #[.agg #[.int .i64 x.id,.string x.code],.agg #[.int .i64 y.id,.string y.code]] W fun e w'=>e=.returned (.int .i64 (Lib.compareBytes x.code.data.toList y.code.data.toList))∧∃q DK,w'=Sort.grow (W.drewN q) DK:=by
 have qK:=fun W'=>Tryz.strings_Compare x.code y.code W'
 change∀W',Calls aB 200 _ _ _ at qK;generalize Lib.compareBytes x.code.data.toList y.code.data.toList=r at qK⊢;go_enter Tryz.func199,Tryz.ntmps199
 exact ZOi
open Go.Sort
def cfL(x y:Ltr):Int:=Lib.compareBytes x.code.data.toList y.code.data.toList
def cfT(x y:Ltr×Nat):Int:=cfL x.1 y.1
def Dc(x y:Ltr×Nat):Bool:=ltOf cfT x y||(!ltOf cfT y x&&decide (x.2<y.2))
theorem AaM:SWO (ltOf cfT):=An3 fun x:Ltr×Nat=>x.1.code
theorem Y8{x y}:Dc x y=true↔ltOf cfT x y=true∨(ltOf cfT y x=false∧x.2<y.2):=by unfold Dc;simp only[iV,aN,fI,dQ]
theorem AmK{x y}:Dc x y=false↔ltOf cfT x y=false∧(ltOf cfT y x=true∨¬x.2<y.2):=by rw[←eY,Y8];cases ltOf cfT x y<;>cases ltOf cfT y x<;>simp
theorem Zk:SWO Dc where
 irrefl x:=by rw[AmK];exact⟨AaM.irrefl x,.inr (Nat.lt_irrefl _)⟩
 trans x y z h1 h2:=by
  rw[Y8]at *;rcases h1 with h1|⟨h1,t1⟩<;>rcases h2 with h2|⟨h2,t2⟩
  ·exact .inl (AaM.trans _ _ _ h1 h2)
  ·left
   cases hh:ltOf cfT x z with
   |true=>rfl
   |false=>have:=AaM.ntrans _ _ _ hh h2;rw[this]at h1;cases h1
  ·left
   cases hh:ltOf cfT x z with
   |true=>rfl
   |false=>have:=AaM.ntrans _ _ _ h1 hh;rw[this]at h2;cases h2
  ·exact .inr ⟨AaM.ntrans _ _ _ h2 h1,ZA⟩
 ntrans x y z h1 h2:=by
  rw[AmK]at *;obtain⟨a1,b1⟩:=h1;obtain⟨a2,b2⟩:=h2;refine⟨AaM.ntrans _ _ _ a1 a2,?_⟩;cases hh:ltOf cfT z x with
  |true=>exact .inl rfl
  |false=>
   right
   rcases b1 with b1|b1
   ·have:=AaM.ntrans _ _ _ a2 hh;rw[this]at b1;cases b1
   ·rcases b2 with b2|b2
    ·have:=AaM.ntrans _ _ _ hh a1;rw[this]at b2;cases b2
    ·omega
theorem Ay3{x y}(h:x.2<y.2):Dc y x=ltOf cfT y x:=by unfold Dc;rw[aO (show¬y.2<x.2 by omega)];simp
theorem BcW{x y}(h:x.2<y.2):cfT y x<0↔Dc y x=true:=by rw[Ay3 h];unfold ltOf;rw[dQ]
theorem Av1{x y}(h:x.2≠y.2)(hl:Dc y x=false):Dc x y=true:=by
 rw[AmK]at hl;rw[Y8];cases hh:ltOf cfT x y with
 |true=>exact .inl rfl
 |false=>
  right
  refine⟨hl.1,?_⟩;rcases hl.2 with h2|h2
  ·rw[hh]at h2;cases h2
  ·omega
theorem Zq(a):∀(j:Nat) (d:Array (Ltr×Nat)),j<d.size→(∀p,a≤p→p<j→d[p]!.2<d[j]!.2)→insInner (ltOf cfT) a j d=insInner Dc a j d
 |0,d,_,_=>by rw[insInner,insInner]
 |j+1,d,hj,h=>by
  rw[insInner,insInner];by_cases hja:a<j+1
  ·rw[Ay3 (h j ZA ZA)]
   cases hl:ltOf cfT d[j+1]! d[j]! with
   |false=>simp
   |true=>
    have hc:(decide (j+1 > a)&&true)=true:=ZH
    rw[aP hc,aP hc];refine Zq a j _ (by rw[size_swp];omega) fun p h1 h2=>?_
    rw[swp_other _ _ _ _ ZA ZA,swp_right _ _ _ ZA];exact h p h1 ZA
  ·rw[aL ZH,aL ZH]
theorem Zj(a b):∀(n i:Nat) (d:Array (Ltr×Nat)),b - i=n→a<i→i≤b→b≤d.size→SortedIn Dc a i d→(∀q,i≤q→q<b→∀p,a≤p→p<q→d[p]!.2<d[q]!.2)→
 insOuter (ltOf cfT) a b i d=insOuter Dc a b i d
 |0,i,d,hn,_,_,_,_,_=>ZRO
 |n+1,i,d,hn,hai,hib,hb,hs,h=>by
  have ab:i<b:=ZA
  rw[insOuter_go _ _ _ _ _ ab,insOuter_go _ _ _ _ _ ab,Zq a i d ZA (h i (aD _) ab)];have h1:=insInner_spec Zk swp_permIn permIn_refl permIn_trans a (i+1) i ZA i d ZA (aD _) ZA ⟨fun p q pK qM MY _ hq=>hs p q pK qM ZA,fun q h1 h2=>ZA⟩;refine Zj a b n (i+1) _ ZA ZA ZA (by rw[h1.1.1];exact hb) h1.2 fun q xI sf p lD mH=>?_
  rw[h1.1.2.1 q (gQ xI)];by_cases hp:i+1≤p
  ·rw[h1.1.2.1 p (gQ hp)];exact h q ZA sf p lD mH
  ·exact permIn_all d _ a (i+1) (fun x=>x.2<d[q]!.2) ZA h1.1 (fun y b1 b2=>h q ZA sf y b1 ZA) p lD ZA
theorem Ad1{a b d}(ou:a≤b)(hb:b≤d.size)(h:∀q,a≤q→q<b→∀p,a≤p→p<q→d[p]!.2<d[q]!.2):
 PermIn a b d (insertionSort (ltOf cfT) d a b)∧SortedIn Dc a b (insertionSort (ltOf cfT) d a b):=by
 have e:insertionSort (ltOf cfT) d a b=insertionSort Dc d a b:=by
  unfold insertionSort;by_cases he:a=b
  ·subst he
   exact ZRO
  ·exact Zj a b (b - (a+1)) (a+1) d rfl ZA ZA hb (fun i j h1 h2 h3=>ZA) fun q h1 h2 p h3 h4=>h q ZA h2 p h3 h4
 rw[e];exact insertionSort_holds Zk d a b ou hb
def Nw(xs:List Ltr):List (Ltr×Nat):=xs.zipIdx
theorem Oz(xs):(Nw xs).length=xs.length:=by unfold Nw;simp
theorem Ag6(xs):(Nw xs).map Prod.fst=xs:=by unfold Nw;simp
theorem Y6(xs k)(h:k<(Nw xs).length):(Nw xs)[k]=(xs[k]'(by rw[Oz]at h;exact h),k):=by simp[Nw]
theorem AbO(xs):(Nw xs).Pairwise fun x y=>x.2<y.2:=by refine' ZI1;rw[Y6,Y6];exact pU
def AeG(xs:List Ltr):Array (Ltr×Nat):=insertionSort (ltOf cfT) (Nw xs).toArray 0 xs.length
def E9(xs:List Ltr):List Ltr:=(AeG xs).toList.map Prod.fst
theorem AoT:∀{l1 l2:List (Ltr×Nat)},l1.Perm l2→l1.Pairwise (fun x y=>Dc x y=true)→l2.Pairwise (fun x y=>Dc x y=true)→l1=l2
 |[],l2,hp,_,_=>by rw[hp.symm.eq_nil]
 |x::l1,[],hp,_,_=>by simpa using hp.length_eq
 |x::l1,y::l2,hp,h1,h2=>by
  rw[fV]at h1 h2;have vz:x=y:=by
   refine' ZRN;rcases List.mem_cons.1 m1 with e|m1
   ·exact e
   rcases List.mem_cons.1 m2 with e|m2
   ·exact e.symm
   have:=Zk.trans _ _ _ (h1.1 y m2) (h2.1 x m1);rw[Zk.irrefl]at this;cases this
  subst vz;rw[AoT (List.perm_cons x |>.1 hp) h1.2 h2.2]
theorem Le{n xs d}(hn:n=xs.length)(hp:PermIn 0 n (Nw xs).toArray d)(hs:SortedIn Dc 0 n d):d.toList.Perm (Nw xs)∧d.toList.Pairwise fun x y=>Dc x y=true:=by
 have hz:(Nw xs).toArray.size=n:=by simp[Oz,hn]
 have h1:d.toList.Perm (Nw xs):=by have:=AhI (d:=(Nw xs).toArray) (by rw[hz];exact hp);exact zT
 refine⟨h1,?_⟩;have LJ:(d.toList.map Prod.snd).Nodup:=by
  have h2:((Nw xs).map Prod.snd).Nodup:=by unfold List.Nodup;rw[gD];exact(AbO xs).imp fun h=>ZA
  exact(h1.map Prod.snd).nodup_iff.2 h2
 have rV:d.size=n:=hp.1.trans hz;refine' ZI1;have tV:i<d.size:=ZDt
 have tW:j<d.size:=ZDU
 have h3:=hs i j (aM _) pU ZA;rw[fO d i tV,fO d j tW]at h3;have h4:d.toList[i].2≠d.toList[j].2:=by unfold List.Nodup at LJ;rw[dG]at LJ;have:=LJ i j ZDt ZDU pU;exact zT
 exact Av1 h4 h3
theorem Ta(xs):PermIn 0 xs.length (Nw xs).toArray (AeG xs)∧SortedIn Dc 0 xs.length (AeG xs):=by
 unfold AeG;refine Ad1 (aM _) (by simp[Oz]) fun q _ hq p _ hp=>?_
 have h:=AbO xs;rw[dG]at h;have hl:=Oz xs;have:=h p q ZA ZA hp;rw[fO _ p ZH,fO _ q ZH];exact zT
theorem Zg{xs}{l:List (Ltr×Nat)}(hp:l.Perm (Nw xs))(hs:l.Pairwise fun x y=>Dc x y=true):l.map Prod.fst=E9 xs:=by obtain⟨h1,h2⟩:=Le rfl (Ta xs).1 (Ta xs).2;unfold E9;rw[AoT (hp.trans h1.symm) hs h2]
theorem AqP{xs d}(hp:PermIn 0 xs.length (Nw xs).toArray d)(hs:SortedIn Dc 0 xs.length d):d.toList.map Prod.fst=E9 xs:=by obtain⟨h1,h2⟩:=Le rfl hp hs;exact Zg h1 h2
theorem Oe(xs):(E9 xs).Perm xs:=by obtain⟨h1,_⟩:=Le rfl (Ta xs).1 (Ta xs).2;have:=h1.map Prod.fst;rw[Ag6]at this;exact this
end Go.Proofs.YtfadhdacjpmmeaaGreatDoor
