/- Parts. -/
import Derived.Test.YtfadhdacjpmmeaaGreatDoorQ30
set_option linter.unusedVariables false
set_option linter.unusedSimpArgs false
namespace Go.Proofs.YtfadhdacjpmmeaaGreatDoor
set_option maxRecDepth 100000
set_option maxHeartbeats 3200000
open Go.IntKind renaming i64→aI
open Go.Obj renaming cells→aC
open Go.Proofs.Tryz renaming prog→aB
open Go.Value renaming string→aK,int→bC
open Go.RowKit
theorem BcI{α:Type}[Flat α]{T base B d:Nat}{w w' v vH}{xs:List α}{s}(h:own T base w v xs)(hD:Bv B w d s vH)(hT:T≠47)(hA:apart vH v)(hK:Kd d vH w w'):own T base w' v xs:=
 h.keepBlk fun k e=>by
  refine hK.block k (h.blk k e).2 (fun e2=>?_) fun e2=>?_
  ·subst e2
   obtain⟨c1,h1⟩:=Wo h e;obtain⟨c2,h2⟩:=hD.obj;rw[h2]at h1;injection h1 with h1;injection h1 with _ h1 _;exact hT h1.symm
  ·unfold apart at hA
   rcases hA with hA|hA
   ·rw[←e2]at hA;cases hA
   ·exact hA (by rw[←e2,e])
theorem AdG{T e B b:Nat}{bs w}(h:Lib.IsBuilderF T e B b bs w):∃(bu:Array Value) (fz:Nat×Nat),w.heap[b]? =some (.cells bu T fz):=by rcases h with⟨_,_,h,_⟩|⟨_,_,h,_⟩<;>exact⟨_,_,h⟩
theorem AhX{α:Type}[Flat α]{T base b:Nat}{w w' v}{xs:List α}(h:own T base w v xs)(hO:Lib.OthersKept 5 (some b) w w')(hb:∃(bu:Array Value) (fz:Nat×Nat),w.heap[b]? =some (.cells bu 50 fz))(h1:T≠5)(h2:T≠50):own T base w' v xs:=
 h.keepT fun k bu hc=>ZUZ
theorem Aq4{α:Type}[El α]{T base:Nat}{w v vH pj}{xs:List α}(hA:apart vH v)(hN:Nu w vH pj)(ho:own T base w v xs):apart pj v:=by
 unfold apart at *;rcases hN with h|h
 ·rw[h];exact hA
 ·cases hv:pj.ownBlock with
  |none=>exact .inl rfl
  |some k=> refine' YR;have h1:=h k hv;have h2:=(ho.blk k e.symm).2;omega
theorem AlK(a b):Lib.strCells (a++b)=Lib.strCells a++Lib.strCells b:=by rw[Lib.strCells_eq,Lib.strCells_eq,Lib.strCells_eq,B6,Lib.byteCells_append]
def bld(B b:Nat)(o:ByteArray)(w:World):Prop:=Lib.IsBuilderF 50 5 B b (Lib.strCells o) w
theorem Wm(B b o p w)(h:bld B b o w)(bn:o.size+p.size≤140737488355328)(EQ:B≤w.heap.size):
 Calls aB 15 #[.pointer (some ⟨b,0,none⟩),.string p] w fun e w'=>e=.returned (.tuple #[.int .i64 p.size,.nilIface])∧bld B b (o++p) w'∧Below B w w'∧Lib.OthersKept 5 (some b) w w':=
 (Any.Builder_WriteString_k (ρ:=Tryz.lays156_ren) {Tryz.lays156 with} Tryz.Builder_Extra_156 B b (Lib.strCells o) p w h (by rw[Lib.strCells_length];exact bn) EQ).mono fun e w' h=>⟨h.1,.inr (by rw[AlK];exact h.2.1),h.2.2.1,h.2.2.2⟩
theorem BaI(B b o w)(h:bld B b o w):
 Calls aB 14 #[.pointer (some ⟨b,0,none⟩)] w fun e w'=>e=.returned (.int .i64 o.size)∧w=w':=
 (Tryz.Builder_Len_f B b (Lib.strCells o) w h).mono fun e w' h=>⟨by rw[h.1,Lib.strCells_length],h.2.symm⟩
theorem Xq(B b o w)(h:bld B b o w)(EQ:B≤w.heap.size):
 Calls aB 17 #[.pointer (some ⟨b,0,none⟩)] w fun e w'=>e=.returned (.string o)∧Below B w w':=
 (Tryz.Builder_String_any_k B b o.data.toList w h EQ).mono fun e w' h=>⟨by rw[h.1],h.2.2.1⟩
def I5:Dsk:=⟨[],⟨⟨4,2,[⟨#[48,48,48,48,48,48,48]⟩]⟩,[],[],10⟩,[⟨⟨#[97]⟩,[]⟩]⟩
theorem Bx{T B g n c:Nat}{w ps}(h:own T B w (.slice (some ⟨g,0,none⟩) n c) ps)(k)(hk:k<ps.length):w.cell? ⟨g,k,none⟩=some (.string ps[k]):=by obtain⟨A,n',c',hv,_,_,_,hr⟩:=h.rd;injection hv with e1 _ _;subst e1;obtain⟨b,o,e,_,_,h1⟩:=hr.str k hk;injection e with e;injection e with e1 e2;subst e1 e2;exact ZBS
theorem Az{w:World}{p u}(h:w.cell? p=some u):p.block<w.heap.size:=World.block_lt_of_cell? _ _ h
theorem L6{x:ByteArray}(h:x.size=0):x.toList.isEmpty=true∧(x.toList==[])=true:=by
 have he:x.toList.isEmpty=true:=ZNF
 exact⟨he,by rw[List.isEmpty_iff.1 he];rfl⟩
theorem G7{x:ByteArray}(h:x.size≠0):x.toList.isEmpty=false∧(x.toList==[])=false:=by
 have he:x.toList.isEmpty=false:=ZNG
 refine⟨he,?_⟩;cases hq:(x.toList==[])
 ·rfl
 ·rw[dE]at hq;rw[hq]at he;cases he
theorem Ar1{a}(h:a.size=0):AeC a=⟨#[110,111]⟩:=by unfold AeC;rw[Lx.2 h,aP rfl]
theorem Ry(a):(AeC a).size≤a.size+2:=by
 unfold AeC
 split
 ·show 2≤_;omega
 ·omega
theorem AlV(w):Below w.heap.size w ((((w.alloc (aC #[.string ⟨#[48,48,48,48,48,48,48]⟩] 9)).alloc (aC #[.string ⟨#[97]⟩,.slice none 0 0] 45)).alloc (aC #[.slice none 0 0,.int .i64 4,.int .i64 2,.slice (some ⟨w.heap.size,0,none⟩) 1 1,.slice none 0 0,.slice none 0 0,.int .i64 10,.slice (some ⟨w.heap.size+1,0,none⟩) 1 1] 47)).alloc (aC #[.pointer none,.slice none 0 0] 50))∧Bv w.heap.size ((((w.alloc (aC #[.string ⟨#[48,48,48,48,48,48,48]⟩] 9)).alloc (aC #[.string ⟨#[97]⟩,.slice none 0 0] 45)).alloc (aC #[.slice none 0 0,.int .i64 4,.int .i64 2,.slice (some ⟨w.heap.size,0,none⟩) 1 1,.slice none 0 0,.slice none 0 0,.int .i64 10,.slice (some ⟨w.heap.size+1,0,none⟩) 1 1] 47)).alloc (aC #[.pointer none,.slice none 0 0] 50)) (w.heap.size+1+1) I5 (.slice none 0 0)∧bld w.heap.size (w.heap.size+1+1+1) ⟨#[]⟩ ((((w.alloc (aC #[.string ⟨#[48,48,48,48,48,48,48]⟩] 9)).alloc (aC #[.string ⟨#[97]⟩,.slice none 0 0] 45)).alloc (aC #[.slice none 0 0,.int .i64 4,.int .i64 2,.slice (some ⟨w.heap.size,0,none⟩) 1 1,.slice none 0 0,.slice none 0 0,.int .i64 10,.slice (some ⟨w.heap.size+1,0,none⟩) 1 1] 47)).alloc (aC #[.pointer none,.slice none 0 0] 50))∧((((w.alloc (aC #[.string ⟨#[48,48,48,48,48,48,48]⟩] 9)).alloc (aC #[.string ⟨#[97]⟩,.slice none 0 0] 45)).alloc (aC #[.slice none 0 0,.int .i64 4,.int .i64 2,.slice (some ⟨w.heap.size,0,none⟩) 1 1,.slice none 0 0,.slice none 0 0,.int .i64 10,.slice (some ⟨w.heap.size+1,0,none⟩) 1 1] 47)).alloc (aC #[.pointer none,.slice none 0 0] 50)).heap.size=w.heap.size+1+1+1+1:=by
 have z1:(w.alloc (aC #[.string ⟨#[48,48,48,48,48,48,48]⟩] 9)).heap.size=w.heap.size+1:=ZE
 have z2:((w.alloc (aC #[.string ⟨#[48,48,48,48,48,48,48]⟩] 9)).alloc (aC #[.string ⟨#[97]⟩,.slice none 0 0] 45)).heap.size=w.heap.size+1+1:=ZE
 have z3:(((w.alloc (aC #[.string ⟨#[48,48,48,48,48,48,48]⟩] 9)).alloc (aC #[.string ⟨#[97]⟩,.slice none 0 0] 45)).alloc (aC #[.slice none 0 0,.int .i64 4,.int .i64 2,.slice (some ⟨w.heap.size,0,none⟩) 1 1,.slice none 0 0,.slice none 0 0,.int .i64 10,.slice (some ⟨w.heap.size+1,0,none⟩) 1 1] 47)).heap.size=w.heap.size+1+1+1:=ZE
 have z4:((((w.alloc (aC #[.string ⟨#[48,48,48,48,48,48,48]⟩] 9)).alloc (aC #[.string ⟨#[97]⟩,.slice none 0 0] 45)).alloc (aC #[.slice none 0 0,.int .i64 4,.int .i64 2,.slice (some ⟨w.heap.size,0,none⟩) 1 1,.slice none 0 0,.slice none 0 0,.int .i64 10,.slice (some ⟨w.heap.size+1,0,none⟩) 1 1] 47)).alloc (aC #[.pointer none,.slice none 0 0] 50)).heap.size=w.heap.size+1+1+1+1:=ZE
 have o1:own (α:=ByteArray) 9 w.heap.size (w.alloc (aC #[.string ⟨#[48,48,48,48,48,48,48]⟩] 9)) (.slice (some ⟨w.heap.size,0,none⟩) 1 1) [⟨#[48,48,48,48,48,48,48]⟩]:=own.made1 w 9 [.string ⟨#[48,48,48,48,48,48,48]⟩] _ ⟨by unfold maxLen;decide,rfl⟩ (aD _);have o2:own (α:=OfV) 45 w.heap.size ((w.alloc (aC #[.string ⟨#[48,48,48,48,48,48,48]⟩] 9)).alloc (aC #[.string ⟨#[97]⟩,.slice none 0 0] 45)) (.slice (some ⟨w.heap.size+1,0,none⟩) 1 1) [⟨⟨#[97]⟩,.slice none 0 0⟩]:=by have h:=own.made1 (α:=OfV) (base:=w.heap.size) (w.alloc (aC #[.string ⟨#[48,48,48,48,48,48,48]⟩] 9)) 45 [.string ⟨#[97]⟩,.slice none 0 0] ⟨⟨#[97]⟩,.slice none 0 0⟩ ⟨rfl,by unfold maxLen;decide,rfl⟩ (by rw[z1];omega);rw[z1]at h;exact h
 have h3:(((w.alloc (aC #[.string ⟨#[48,48,48,48,48,48,48]⟩] 9)).alloc (aC #[.string ⟨#[97]⟩,.slice none 0 0] 45)).alloc (aC #[.slice none 0 0,.int .i64 4,.int .i64 2,.slice (some ⟨w.heap.size,0,none⟩) 1 1,.slice none 0 0,.slice none 0 0,.int .i64 10,.slice (some ⟨w.heap.size+1,0,none⟩) 1 1] 47)).heap[w.heap.size+1+1]? =some (aC #[.slice none 0 0,.int .i64 4,.int .i64 2,.slice (some ⟨w.heap.size,0,none⟩) 1 1,.slice none 0 0,.slice none 0 0,.int .i64 10,.slice (some ⟨w.heap.size+1,0,none⟩) 1 1] 47 (0,0)):=by
  have:=World.alloc_heap_new ((w.alloc (aC #[.string ⟨#[48,48,48,48,48,48,48]⟩] 9)).alloc (aC #[.string ⟨#[97]⟩,.slice none 0 0] 45)) (aC #[.slice none 0 0,.int .i64 4,.int .i64 2,.slice (some ⟨w.heap.size,0,none⟩) 1 1,.slice none 0 0,.slice none 0 0,.int .i64 10,.slice (some ⟨w.heap.size+1,0,none⟩) 1 1] 47)
  rwa [z2]at this
 have h4:((((w.alloc (aC #[.string ⟨#[48,48,48,48,48,48,48]⟩] 9)).alloc (aC #[.string ⟨#[97]⟩,.slice none 0 0] 45)).alloc (aC #[.slice none 0 0,.int .i64 4,.int .i64 2,.slice (some ⟨w.heap.size,0,none⟩) 1 1,.slice none 0 0,.slice none 0 0,.int .i64 10,.slice (some ⟨w.heap.size+1,0,none⟩) 1 1] 47)).alloc (aC #[.pointer none,.slice none 0 0] 50)).heap[w.heap.size+1+1]? =some (aC #[.slice none 0 0,.int .i64 4,.int .i64 2,.slice (some ⟨w.heap.size,0,none⟩) 1 1,.slice none 0 0,.slice none 0 0,.int .i64 10,.slice (some ⟨w.heap.size+1,0,none⟩) 1 1] 47 (0,0)):=(dH _ _ _ (by rw[z3];omega)).trans h3;have h5:((((w.alloc (aC #[.string ⟨#[48,48,48,48,48,48,48]⟩] 9)).alloc (aC #[.string ⟨#[97]⟩,.slice none 0 0] 45)).alloc (aC #[.slice none 0 0,.int .i64 4,.int .i64 2,.slice (some ⟨w.heap.size,0,none⟩) 1 1,.slice none 0 0,.slice none 0 0,.int .i64 10,.slice (some ⟨w.heap.size+1,0,none⟩) 1 1] 47)).alloc (aC #[.pointer none,.slice none 0 0] 50)).heap[w.heap.size+1+1+1]? =some (aC #[.pointer none,.slice none 0 0] 50 (0,0)):=by
  have:=World.alloc_heap_new (((w.alloc (aC #[.string ⟨#[48,48,48,48,48,48,48]⟩] 9)).alloc (aC #[.string ⟨#[97]⟩,.slice none 0 0] 45)).alloc (aC #[.slice none 0 0,.int .i64 4,.int .i64 2,.slice (some ⟨w.heap.size,0,none⟩) 1 1,.slice none 0 0,.slice none 0 0,.int .i64 10,.slice (some ⟨w.heap.size+1,0,none⟩) 1 1] 47)) (aC #[.pointer none,.slice none 0 0] 50)
  rwa [z3]at this
 refine⟨((((aF _ w).alloc (aD _) _).alloc (by rw[z1];omega) _).alloc (by rw[z2];omega) _).alloc (by rw[z3];omega) _,?_,?_,z4⟩
 ·refine⟨.slice none 0 0,.slice (some ⟨w.heap.size,0,none⟩) 1 1,.slice none 0 0,.slice (some ⟨w.heap.size+1,0,none⟩) 1 1,[⟨⟨#[97]⟩,.slice none 0 0⟩],h4,own.nil_ _ _ _,((o1.alloc _).alloc _).alloc _,own.nil_ _ _ _,own.nil_ _ _ _,⟨(o2.alloc _).alloc _,rfl,fun k h h'=>?_,fun j k hj hk bj=>?_,fun k h=>?_⟩,.inr (by simp[Value.ownBlock])⟩
  ·have hk:k=0:=by simp at h;omega
   subst hk;exact⟨rfl,own.nil_ _ _ _⟩
  ·simp at hj hk;omega
  ·have hk:k=0:=by simp at h;omega
   subst hk;exact .inl rfl
 ·exact .inl ⟨ZA,.slice none 0 0,h5,World.ownsRowF_nil _ _ _ _,by simp[Value.ownBlock]⟩
theorem AgV(X:World→Prop)(t w ls)(ds:Nat→Dsk)(ans:Nat→ByteArray)(ht:t.size≤20000)(pR:Aj 10 t=ls)(hX:∀W,Below w.heap.size w W→X W)(h0:ds 0=I5)
 (pS:∀k (h:k<ls.length),ls[k].size≠0→k<100→(Sv ans ls k).size≤40000→Ax7 X ls[k] (ds k) (ds (k+1)) (ans k)∧(ans k).size≤2000000000)
 (pT:∀k (h:k<ls.length),ls[k].size=0→ds (k+1)=ds k):
 Calls aB 6 #[.string t] w fun e w'=>e=.returned (.string (Qr ans 0 ⟨#[]⟩ ls))∧Below w.heap.size w w':=by
 have HX:=aA hX;have H0:=aA h0;have fe:=aA pS;have sJ:=aA pT;clear hX h0 pS pT;refine' ZUP;have kj:Hid (∀W:World,Calls aB 13 #[.string t,.string ⟨#[10]⟩] W fun e w'=>e=.returned (.slice (some ⟨W.heap.size,0,none⟩) ls.length ls.length)∧own 9 W.heap.size w' (.slice (some ⟨W.heap.size,0,none⟩) ls.length ls.length) ls∧Below W.heap.size W w'∧w'.heap.size=W.heap.size+1):=fun W=>by rw[←pR];exact Ij t 10 W ZA
 have DZ:=aA (AlV w);have vM:¬(20000:Int)<(t.size:Int):=ZA
 go_enter Tryz.func6,Tryz.ntmps6
 refine' ZC;obtain⟨W4,hW4⟩:∃W,W=((((w.alloc (aC #[.string ⟨#[48,48,48,48,48,48,48]⟩] 9)).alloc (aC #[.string ⟨#[97]⟩,.slice none 0 0] 45)).alloc (aC #[.slice none 0 0,.int .i64 4,.int .i64 2,.slice (some ⟨w.heap.size,0,none⟩) 1 1,.slice none 0 0,.slice none 0 0,.int .i64 10,.slice (some ⟨w.heap.size+1,0,none⟩) 1 1] 47)).alloc (aC #[.pointer none,.slice none 0 0] 50)):=⟨_,rfl⟩;rw[←hW4]at DZ⊢;clear hW4;obtain⟨l4,d4,u4,z4⟩:=DZ.out;have qT:=kj.out W4;rw[z4]at qT;refine qT.mono ?_;rintro e w5 ⟨rfl,o5,b5,_⟩;have D5:=d4.below (by rw[z4];exact b5);have U5:bld w.heap.size (w.heap.size+1+1+1) ⟨#[]⟩ w5:=Z0 u4 fun k bu e' fz hc _=>b5.block k (by have:=(Array.getElem?_eq_some_iff.1 hc).1;omega)
 have l5:Below w.heap.size w w5:=l4.trans (b5.mono ZA);rw[←H0.out]at D5;have HD5:=aA D5;have HU5:=aA U5;have jT:=aA (o5.base_ (show w.heap.size≤w.heap.size+1+1+1+1 by omega));have DR:=aA l5;have ex:Hid (apart (.slice none 0 0) (.slice (some ⟨w.heap.size+1+1+1+1,0,none⟩) ls.length ls.length)):=.inl rfl;have bn:ls.length≤20001:=by rw[←pR];have:=Lg 10 t;omega
 clear D5 U5 o5 b5 l5 l4 d4 u4 z4 qT kj DZ pR
 refine' ZC;go_loopw[20] (fun i wr=>∃(k:Nat) (vH:Value),k≤ls.length∧i=.int .i64 k∧Hid (Below w.heap.size w wr)∧Hid (Bv w.heap.size wr (w.heap.size+1+1) (ds k) vH)∧Hid (bld w.heap.size (w.heap.size+1+1+1) (Sv ans ls k) wr)∧Hid (own 9 w.heap.size wr (.slice (some ⟨w.heap.size+1+1+1+1,0,none⟩) ls.length ls.length) ls)∧Hid (apart vH (.slice (some ⟨w.heap.size+1+1+1+1,0,none⟩) ls.length ls.length))∧Hid (Qr ans k (Sv ans ls k) (ls.drop k)=FA)∧(Sv ans ls k).size≤40000+2000000003) (fun i _=>ls.length - (intOf i).toNat)
 case atStart=>exact⟨0,.slice none 0 0,aM _,rfl,DR.out,HD5.out,HU5.out,jT.out,ex.out,yQ.out,by show 0≤_;omega⟩
 case round=>
  obtain⟨k,vH,hk,rfl,HL,HD,HU,HO,et,HQ,jj⟩:=hrel;obtain⟨W,rfl⟩:∃W:World,W=wr:=⟨_,rfl⟩;have MS:=HL.out.size;clear DR HD5 HU5 jT ex;by_cases ab:k<ls.length
  ·refine' ZUQ;obtain⟨o,ho⟩:∃o,Sv ans ls k=o:=⟨_,rfl⟩;rw[ho]at HU HQ jj vP vQ qJ;clear ho;generalize ls[k]=x at *;by_cases he:x.size=0
   ·obtain⟨e1,e2⟩:=L6 he
    have HE:=aA he;clear he
    refine' ZC;go_roundw
    case rel=>exact⟨k+1,vH,ZA,ZJ,HL.out,by rw[yS.out HE.out];exact HD.out,by show bld _ _ _ _;rw[vQ.out HE.out];exact HU.out,HO.out,et.out,ZUR,by rw[vQ.out HE.out];exact jj⟩
    case measure=>exact ZK
   obtain⟨e1,e2⟩:=G7 he;by_cases PA:100≤k
   ·have kX:(100:Int)≤(k:Int):=ZA
    exact ZUa
   have kX:¬(100:Int)≤(k:Int):=ZA
   refine' ZC;refine(BaI _ _ o W HU.out).mono ?_;refine' ZP;by_cases fj:40000<o.size
   ·have bz:(40000:Int)<(o.size:Int):=ZA
    exact ZUa
   have bz:¬(40000:Int)<(o.size:Int):=ZA
   obtain⟨FC,FD⟩:=vP.out he ZA ZA;have vr:=aA (FC w.heap.size (w.heap.size+1+1) vH W (HX.out W HL.out) MS HD.out);clear FC
   refine' ZC;refine vr.out.mono ?_;rintro e w1 ⟨rfl,pj,d1,k1,n1⟩;have px:=aA d1;have rI:=aA (AsF HU.out HD.out k1);have lu:=aA (BcI HO.out HD.out ZF et.out k1);have qp:=aA (Aq4 et.out n1 HO.out);have cy:=aA (HL.out.trans (k1.toBelow ZA HD.out.lt fun j hj=>(HD.out.held.blk j hj).1));have gh:w.heap.size≤w1.heap.size:=cy.out.size;clear d1 k1 n1 y1;by_cases ha:(ans k).size=0
   ·obtain⟨a1,a2⟩:=L6 ha
    have HA:=aA (Ar1 ha);exact ZUb
   ·obtain⟨a1,a2⟩:=G7 ha
    have HA:=aA (AnK (show 1≤(ans k).size by omega));have OZ:(ans k).size+(⟨#[10]⟩:ByteArray).size≤9223372036854775807:=ZGZ
    exact ZUb
  ·have HE:Hid (ls.drop k=[]):=dK ZA
   refine' ZC;refine(Xq _ _ _ W HU.out MS).mono ?_;refine' zK;have gi:=aA (HL.out.trans b2);clear b2
   refine' ZI;exact⟨B8 (by rw[←HQ.out,HE.out,Qr]),gi.out⟩
def Bb(B d:Nat)(s':Dsk)(vH:Value)(a:ByteArray)(w:World)(e:Ending)(w':World):Prop:=e=.returned (.string a)∧∃pj,Bv B w' d s' pj∧Kd d vH w w'∧Nu w vH pj
theorem Bb.pre{B d s' vH a w W w' e}(hb:Below w.heap.size w W)(h:Bb B d s' vH a W e w'):Bb B d s' vH a w e w':=by
 obtain⟨h1,pj,h2,h3,h4⟩:=h;refine⟨h1,pj,h2,(Kd.of_below hb).trans h3,?_⟩;rcases h4 with h4|h4
 ·exact .inl h4
 ·exact .inr fun k hk=>aG hb.size (h4 k hk)
theorem Bb.post{B d s' vH a w w1 w' e}(h:Bb B d s' vH a w e w1)(hb:Below w1.heap.size w1 w'):Bb B d s' vH a w e w':=by obtain⟨h1,pj,h2,h3,h4⟩:=h;exact⟨h1,pj,h2.below hb,h3.trans (Kd.of_below hb),h4⟩
theorem Bb.of_read{B d s vH a w w' e}(hD:Bv B w d s vH)(he:e=.returned (.string a))(hb:Below w.heap.size w w'):Bb B d s vH a w e w':=
 ⟨he,vH,hD.below hb,Kd.of_below hb,Nu.refl _ _⟩
theorem Av2(B d s' vH ak a w)(hz:ak.size≤maxLen)(co:E5 32 ak=none)
 (HC:∀W,Below w.heap.size w W→Calls aB 52 #[.pointer (some ⟨d,0,none⟩),.string ak] W (Bb B d s' vH a W)):
 Calls aB 16 #[.pointer (some ⟨d,0,none⟩),.string ak] w (Bb B d s' vH a w):=by
 have HK:Hid (Calls aB 51 #[.string ak,.string ⟨#[32]⟩] w fun e w'=>e=.returned (.tuple #[.string ak,.string ⟨#[]⟩,.bool false])∧Below w.heap.size w w'):=(Er ak 32 w hz).mono fun e w' h=>by
  obtain⟨hb,⟨_,he⟩|⟨p,q,h,_⟩⟩:=h
  ·exact⟨he,hb⟩
  ·rw[co]at h;cases h
 have jz:=aA HC;clear HC co;exact ZFv
theorem AxG(B d s' vH ak rest a w)(hz:ak.size≤maxLen)(co:E5 32 ak=some (Es,rest))
 (HC:∀W,Below w.heap.size w W→Calls aB 57 #[.pointer (some ⟨d,0,none⟩),.string rest] W (Bb B d s' vH a W)):
 Calls aB 16 #[.pointer (some ⟨d,0,none⟩),.string ak] w (Bb B d s' vH a w):=by
 have HK:Hid (Calls aB 51 #[.string ak,.string ⟨#[32]⟩] w fun e w'=>e=.returned (.tuple #[.string Es,.string rest,.bool true])∧Below w.heap.size w w'):=(Er ak 32 w hz).mono fun e w' h=>ZD1
 have jz:=aA HC;clear HC co;refine' ZJ1;exact ZFv
theorem AxN(B d s' vH ak wd rest f a w)(hz:ak.size≤maxLen)(hr:rest.size≤1000000000)(co:E5 32 ak=some (wd,rest))(hp:Aj 32 rest=[f])
 (ca:(wd.toList==[108,101,116,116,101,114,115])=false) (db:(wd.toList==[112,108,97,110])=false) (d8:(wd.toList==[102,111,114,119,97,114,100,115])=false) (fd:(wd.toList==[110,101,116])=false)
 (HC:∀W,Below w.heap.size w W→Calls aB 58 #[.pointer (some ⟨d,0,none⟩),.string wd,.string f] W (Bb B d s' vH a W)):
 Calls aB 16 #[.pointer (some ⟨d,0,none⟩),.string ak] w (Bb B d s' vH a w):=by
 refine' ZF2;have jz:=aA HC;have kj:Hid (∀W:World,Calls aB 13 #[.string rest,.string ⟨#[32]⟩] W fun e w'=>e=.returned (.slice (some ⟨W.heap.size,0,none⟩) 1 1)∧own 9 W.heap.size w' (.slice (some ⟨W.heap.size,0,none⟩) 1 1) [f]∧Below W.heap.size W w'):=fun W=>ZF3
 refine' ZUc;have L2:=aA l2;clear o2 b1 b2 l2
 refine' ZC;refine(jz.out _ L2.out).mono ?_;rintro e w3 ⟨rfl,h3⟩
 refine' ZI;exact Bb.pre L2.out ⟨rfl,h3⟩
theorem AxQ(B d s' vH ak wd rest f g a w)(hz:ak.size≤maxLen)(hr:rest.size≤1000000000)(co:E5 32 ak=some (wd,rest))(hp:Aj 32 rest=[f,g])
 (ca:(wd.toList==[108,101,116,116,101,114,115])=false) (db:(wd.toList==[112,108,97,110])=false) (d8:(wd.toList==[102,111,114,119,97,114,100,115])=false) (fd:(wd.toList==[110,101,116])=false)
 (HC:∀W,Below w.heap.size w W→Calls aB 59 #[.pointer (some ⟨d,0,none⟩),.string wd,.string f,.string g] W (Bb B d s' vH a W)):
 Calls aB 16 #[.pointer (some ⟨d,0,none⟩),.string ak] w (Bb B d s' vH a w):=by
 refine' ZF2;have jz:=aA HC;have kj:Hid (∀W:World,Calls aB 13 #[.string rest,.string ⟨#[32]⟩] W fun e w'=>e=.returned (.slice (some ⟨W.heap.size,0,none⟩) 2 2)∧own 9 W.heap.size w' (.slice (some ⟨W.heap.size,0,none⟩) 2 2) [f,g]∧Below W.heap.size W w'):=fun W=>ZF3
 refine' ZUc;have y1:w2.cell? ⟨w1.heap.size,1,none⟩=some (.string g):=Bx o2 1 ZE;have L2:=aA l2;clear o2 b1 b2 l2;have HQ:Hid (∀W,Below w2.heap.size w2 W→Calls aB 59 #[.pointer (some ⟨d,0,none⟩),.string wd,.string f,.string g] W fun e W'=>e=.returned (.string a)∧Bb B d s' vH a w e W'):=fun W hW=>
  (jz.out W (Aa L2.out hW)).mono fun e W' h=>⟨h.1,Bb.pre (Aa L2.out hW) h⟩
 have z0:=fun W (hW:Below w2.heap.size w2 W)=>(hW.cell (p:=⟨w1.heap.size,0,none⟩) (Az y0)).trans y0
 have z1:=fun W (hW:Below w2.heap.size w2 W)=>(hW.cell (p:=⟨w1.heap.size,1,none⟩) (Az y1)).trans y1
 have ld:=Ag (aF w2.heap.size w2);clear y0 y1
 refine' ZC;go_still_tail 8,ZB
 change wpList _ _ _ _ _ w2.drew;generalize w2.drew=w3 at ld⊢
 refine' ZC;refine(HQ.out _ ld).mono ?_;rintro e w4 ⟨rfl,h4⟩
 refine' ZI;exact h4
def BbM(n:Int):ByteArray:=⟨#[32]⟩++Ar9 n
theorem AuG(B d s vH st c w)(hD:Bv B w d s vH)(hc:c.size≤maxLen)(hn:(Cs s.net st c).2=0∨(Cs s.net st c).2=1∨(Cs s.net st c).2=2)(hl:((Cs s.net st c).1.map (Bw s.net)).length≤1000)(hz:∀p∈(Cs s.net st c).1.map (Bw s.net),p.size≤1000)(ct:(Cb ((Cs s.net st c).1.map (Bw s.net))).size≤10000000):
 Calls aB 156 #[.pointer (some ⟨d,0,none⟩),.string st,.string c] w (Bb B d s vH (Cb ((Cs s.net st c).1.map (Bw s.net))++BbM (Cs s.net st c).2) w):=by
 refine' ZD2;have HR:=aA (Vj vN s.net st c w hN.rd hc);obtain⟨n,jk⟩:∃n,(Cs s.net st c).2=n:=⟨_,rfl⟩;obtain⟨ps,d9⟩:∃ps,(Cs s.net st c).1.map (Bw s.net)=ps:=⟨_,rfl⟩;rw[jk]at HR hn⊢;rw[d9]at HR hl hz ct⊢;have HZ:=aA hz;clear hD jk d9 hN hz;refine' ZRx;refine' ZBx;clear o1;have HL:=aA (Hw _ ps w1 lu.out.rd ZA HZ.out)
 refine' ZC;refine HL.out.mono ?_;refine' zK;have l2:=aA (Aa b1 b2);clear b1 b2;generalize Cb ps=L at *;rcases hn with hn|hn|hn
 all_goals
  subst hn
  refine' ZI;exact Bb.of_read HD.out rfl l2.out
theorem AnH(B d s vH st w)(hD:Bv B w d s vH)(uV:0≤Gq s.net st)(hz:∀p∈fpS s.net st,p.size≤100):
 Calls aB 150 #[.pointer (some ⟨d,0,none⟩),.string st] w (Bb B d s vH (Cb ((fpS s.net st).map (·++⟨#[42]⟩))) w):=by
 refine' ZD2;have HNR:=aA hN.rd;have bn:=AsS s.net st;obtain⟨r,hr⟩:∃r,Gq s.net st=r:=⟨_,rfl⟩;have HO:=aA (Hx vN s.net st w hN.rd);rw[hr]at HO uV;have HF:=aA (fun W h=>Ww vN s.net st W (HNR.out.on h));obtain⟨F,hF⟩:∃F,fpS s.net st=F:=⟨_,rfl⟩;rw[hF]at HF bn hz⊢;have HZ:=aA hz;clear hD hr hF hN hz;have q7:=fun W (h:Below w.heap.size w W)=>(h.cell (p:=⟨d,7,none⟩) (Az c7)).trans c7
 refine' zh;refine' ZRy;refine' ZC;refine(HF.out _ b1).mono ?_;refine' ZAm;have l2:=Aa b1 b2;obtain⟨A2,n2,c2,rfl,qc,kC,nI,kq⟩:=o2.rd;subst qc;have HRF:=aA kq;unfold maxLen at nI;have gi:=aA l2;clear o2 kq b1 b2 q7 c7;have ox:own (α:=ByteArray) 9 w2.heap.size w2 (.slice none 0 0) ((F.take 0).map (·++⟨#[42]⟩)):=own.nil_ _ _ _
 have qP:=aA ox;have l0:=aF w2.heap.size w2;clear ox l2
 refine' ZC;go_loopw[5,22] (fun v i wr=>∃k:Nat,k≤F.length∧i=.int .i64 k∧Below w2.heap.size w2 wr∧own 9 w2.heap.size wr v ((F.take k).map (·++⟨#[42]⟩))) (fun _ i _=>F.length - (intOf i).toNat)
 case atStart=>exact⟨0,aM _,rfl,l0,qP.out⟩
 case round=>
  refine' ZBj;refine' zj;clear l0;have j8:=aA ho;refine' ZF7;have qS:m=k:=by rw[hm,bF,bH];omega
  by_cases ab:k<F.length
  ·obtain⟨b,o,rfl,hb,hx,y1⟩:=rdA.strU HRF.out k ab
   have y1:=y1 w3 lr;have lY:Hid ((F.take (k+1)).map (·++(⟨#[42]⟩:ByteArray))=(F.take k).map (·++(⟨#[42]⟩:ByteArray))++[F[k]++⟨#[42]⟩]):=by show _=_;rw[aH ab,cQ];rfl
   have se:=HZ.out _ (aU ab);have HLG:Hid (((F.take k).map (·++(⟨#[42]⟩:ByteArray))).length=m):=hm.symm
   generalize F[k]=x at *;generalize(F.take k).map (·++(⟨#[42]⟩:ByteArray))=gs at *
   have bc:(k:Int)<(F.length:Int):=ZA
   refine' zO;have ft:=lr.size;have DL:gs.length≤100000000:=by have:=HLG.out;omega
   have hx42:x.size+(⟨#[42]⟩:ByteArray).size≤9223372036854775807:=ZGZ
   have HXS:Hid ((x++(⟨#[42]⟩:ByteArray)).size≤maxLen):=by show _≤_;refine' ZAk;unfold maxLen;exact ZGZ
   clear ho hm qS
   go_wp2_with (at_builtin;refine An (α:=ByteArray) rfl (.tmp 26) (.tmp 29) 28 rfl w2.heap.size 9 i0 _ 16 aW hi ah aw aq rfl ZF (.slice Av m cp) gs (x++⟨#[42]⟩) rfl (j8.out.alloc _) ⟨w3.heap.size,0,none⟩ 1 [.string (x++⟨#[42]⟩)] rfl ⟨HXS.out,rfl⟩ (Bz w3 _ [.string (x++⟨#[42]⟩)]) ZN ZA ZH ?_;refine' ZAi)
   have kB:Below w2.heap.size w2 w4:=lr.trans ((((aF w3.heap.size w3).alloc (aD _) _).mono ft).trans (Ay (j8.out.alloc _) ep ZH));have jq:=aA fj;clear fj ep;go_roundw
   case rel=>exact⟨k+1,ZA,ZJ,kB,by rw[lY.out];exact jq.out⟩
   case measure=>exact ZK
  ·have HE:=aA (show k=F.length by omega)
   have uU:Hid (own 9 w2.heap.size w3 (.slice Av m cp) (F.map (·++(⟨#[42]⟩:ByteArray)))):=by
    show own _ _ _ _ _;have:=j8.out
    rwa [HE.out,aY]at this
   have kQ:=aA (Hw _ _ w3 uU.out.rd ZCd (fun p hp=>by refine' ZCM;have:=HZ.out x hx;exact ZCN))
   clear ho hm qS
   refine' ZC;refine kQ.out.mono ?_;refine' ZAX;have l4:=aA (Aa (Aa gi.out lr) b4)
   refine' ZI;exact Bb.of_read HD.out rfl l4.out
theorem AyT(B d s vH w)(hD:Bv B w d s vH):
 Calls aB 52 #[.pointer (some ⟨d,0,none⟩),.string Es] w (Bb B d s vH (Mx s.net) w):=by
 refine' ZD2;have HF:=aA (Yd vN s.net w hN.rd);clear hD hN;refine' ZJg;have db:(Es.toList==[115,111,114,116])=false:=ZD
 have d8:(Es.toList==[115,101,113,117,101,110,99,101])=false:=ZD
 have fd:(Es.toList==[115,101,97,108])=false:=ZD
 have gq:(Es.toList==[112,108,97,110])=false:=ZD
 have i8:(Es.toList==[109,111,118,101,100])=false:=ZD
 have jQ:(Es.toList==[102,111,114,119,97,114,100,115])=false:=ZD
 have kJ:(Es.toList==[100,105,114,101,99,116])=false:=ZD
 have lP:(Es.toList==[101,110,100,108,101,115,115])=false:=ZD
 have nK:(Es.toList==[104,101,108,100])=false:=ZD
 have kK:(Es.toList==[100,97,121])=false:=ZD
 have mX:(Es.toList==[116,114,97,121,115])=false:=ZD
 refine' ZJh;exact ZD3
theorem ArM(B d s' vH f a w)(HC:Calls aB 150 #[.pointer (some ⟨d,0,none⟩),.string f] w (Bb B d s' vH a w)):
 Calls aB 58 #[.pointer (some ⟨d,0,none⟩),.string B5,.string f] w (Bb B d s' vH a w):=by
 refine' ZAL;have ca:(B5.toList==[112,97,115,115])=false:=ZD
 have db:(B5.toList==[99,111,117,110,116])=false:=ZD
 have d8:(B5.toList==[114,97,110,107])=false:=ZD
 have fd:(B5.toList==[108,111,97,100,115])=false:=ZD
 have gq:(B5.toList==[115,116,97,121])=false:=ZD
 have i8:(B5.toList==[114,101,115,111,108,118,101])=false:=ZD
 have jQ:(B5.toList==[104,111,108,100])=false:=ZD
 have kJ:(B5.toList==[115,105,122,101])=false:=ZD
 have lP:(B5.toList==[102,97,116,101])=false:=ZD
 refine' ZUO;refine' YZ;exact ZBO
theorem AxT(B d s' vH f g a w)(HC:Calls aB 156 #[.pointer (some ⟨d,0,none⟩),.string f,.string g] w (Bb B d s' vH a w)):
 Calls aB 59 #[.pointer (some ⟨d,0,none⟩),.string Fl,.string f,.string g] w (Bb B d s' vH a w):=by
 refine' ZAL;have ca:(Fl.toList==[115,119,97,112])=false:=ZD
 have db:(Fl.toList==[102,111,114,119,97,114,100])=false:=ZD
 refine' ZJv;go_enter Tryz.func59,Tryz.ntmps59
 exact ZBO
def He:ByteArray:=⟨#[99,111,100,101]⟩
def Gn:ByteArray:=⟨#[98,97,114,115]⟩
def Ga:ByteArray:=⟨#[114,101,97,100]⟩
theorem AyA(B d s vH f a w)(hD:Bv B w d s vH)(HC:Calls aB 151 #[.string f] w fun e w'=>e=.returned (.string a)∧Below w.heap.size w w'):
 Calls aB 58 #[.pointer (some ⟨d,0,none⟩),.string He,.string f] w (Bb B d s vH a w):=by
 refine' ZAL;refine' zC;clear hD;have ca:(He.toList==[112,97,115,115])=false:=ZD
 have db:(He.toList==[99,111,117,110,116])=false:=ZD
 have d8:(He.toList==[114,97,110,107])=false:=ZD
 have fd:(He.toList==[108,111,97,100,115])=false:=ZD
 have gq:(He.toList==[115,116,97,121])=false:=ZD
 have i8:(He.toList==[114,101,115,111,108,118,101])=false:=ZD
 have jQ:(He.toList==[104,111,108,100])=false:=ZD
 have kJ:(He.toList==[115,105,122,101])=false:=ZD
 have lP:(He.toList==[102,97,116,101])=false:=ZD
 have nK:(He.toList==[102,97,117,108,116,115])=false:=ZD
 refine' ZHf;exact ZHg
theorem Az6(B d s vH f a o w)(hD:Bv B w d s vH)(HC:Calls aB 152 #[.string f] w fun e w'=>e=.returned (.tuple #[.string a,.bool o])∧Below w.heap.size w w'):
 Calls aB 58 #[.pointer (some ⟨d,0,none⟩),.string Gn,.string f] w (Bb B d s vH a w):=by
 refine' ZAL;refine' zC;clear hD;have ca:(Gn.toList==[112,97,115,115])=false:=ZD
 have db:(Gn.toList==[99,111,117,110,116])=false:=ZD
 have d8:(Gn.toList==[114,97,110,107])=false:=ZD
 have fd:(Gn.toList==[108,111,97,100,115])=false:=ZD
 have gq:(Gn.toList==[115,116,97,121])=false:=ZD
 have i8:(Gn.toList==[114,101,115,111,108,118,101])=false:=ZD
 have jQ:(Gn.toList==[104,111,108,100])=false:=ZD
 have kJ:(Gn.toList==[115,105,122,101])=false:=ZD
 have lP:(Gn.toList==[102,97,116,101])=false:=ZD
 have nK:(Gn.toList==[102,97,117,108,116,115])=false:=ZD
 have kK:(Gn.toList==[99,111,100,101])=false:=ZD
 refine' ZHh;exact ZHg
theorem AwM(B d s vH f a o w)(hD:Bv B w d s vH)(HC:Calls aB 153 #[.string f] w fun e w'=>e=.returned (.tuple #[.string a,.bool o])∧Below w.heap.size w w'):
 Calls aB 58 #[.pointer (some ⟨d,0,none⟩),.string Ga,.string f] w (Bb B d s vH a w):=by
 refine' ZAL;refine' zC;clear hD;have ca:(Ga.toList==[112,97,115,115])=false:=ZD
 have db:(Ga.toList==[99,111,117,110,116])=false:=ZD
 have d8:(Ga.toList==[114,97,110,107])=false:=ZD
 have fd:(Ga.toList==[108,111,97,100,115])=false:=ZD
 have gq:(Ga.toList==[115,116,97,121])=false:=ZD
 have i8:(Ga.toList==[114,101,115,111,108,118,101])=false:=ZD
 have jQ:(Ga.toList==[104,111,108,100])=false:=ZD
 have kJ:(Ga.toList==[115,105,122,101])=false:=ZD
 have lP:(Ga.toList==[102,97,116,101])=false:=ZD
 have nK:(Ga.toList==[102,97,117,108,116,115])=false:=ZD
 have kK:(Ga.toList==[99,111,100,101])=false:=ZD
 have mX:(Ga.toList==[98,97,114,115])=false:=ZD
 have cm:(Ga.toList==[114,101,97,100])=true:=ZD
 generalize Ga=wd at *;exact ZHg
theorem Ae6(p w):
 Calls aB 182 #[.agg #[.int .i64 p.area,.int .i64 p.walk,.int .i64 p.point]] w fun e w'=>e=.returned (.bool (Jk p))∧Below w.heap.size w w':=by
 refine' ZNY;have HE:Hid (Jk p=((decide (0≤p.area)&&decide (p.area≤999))&&((decide (0≤p.walk)&&decide (p.walk≤99))&&(decide (0≤p.point)&&decide (p.point≤99))))):=rfl;have H1:=aA (fun W=>D0 p.area 0 999 W);have H2:=aA (fun W=>D0 p.walk 0 99 W);have H3:=aA (fun W=>D0 p.point 0 99 W);generalize(decide (0≤p.area)&&decide (p.area≤999))=b1 at *;generalize(decide (0≤p.walk)&&decide (p.walk≤99))=b2 at *;generalize(decide (0≤p.point)&&decide (p.point≤99))=b3 at *;generalize Jk p=r at *;obtain⟨a,b,c⟩:=p;go_enter Tryz.func182,Tryz.ntmps182;cases b1
 case false=>
  go_wp2_with (go_at_call 167;first|refine' ZEx|((with_reducible refine(H2.out _).mono ?_);rintro e _ ⟨rfl,rfl⟩)|((with_reducible refine(H3.out _).mono ?_);rintro e _ ⟨rfl,rfl⟩))
  go_ret;exact⟨Al (by rw[HE.out];rfl),HB.out⟩
 cases b2
 case false=>
  go_wp2_with (go_at_call 167;first|refine' ZEx|refine' ZHi|((with_reducible refine(H3.out _).mono ?_);rintro e _ ⟨rfl,rfl⟩))
  go_ret;exact⟨Al (by rw[HE.out];rfl),HB.out⟩
 go_wp2_with (go_at_call 167;first|refine' ZEx|refine' ZHi|((with_reducible refine(H3.out _).mono ?_);refine' ZP))
 go_ret;exact⟨Al (by rw[HE.out];simp),HB.out⟩
theorem Tu(p w)(hp:Jk p=true):
 Calls aB 100 #[.agg #[.int .i64 p.area,.int .i64 p.walk,.int .i64 p.point]] w fun e w'=>e=.returned (.tuple #[.string (Hf p),.bool true])∧Below w.heap.size w w':=by
 refine' ZNZ;have HA:Hid (∀W:World,Calls aB 158 #[.int .i64 (a:Int),.int .i64 3] W fun e w'=>e=.returned (.string (Iy a 3))∧Below W.heap.size W w'):=fun W=>T6 a 3 W ZA ZA
 have HB:Hid (∀W:World,Calls aB 158 #[.int .i64 (b:Int),.int .i64 2] W fun e w'=>e=.returned (.string (Iy b 2))∧Below W.heap.size W w'):=fun W=>T6 b 2 W ZA ZA
 have HC:Hid (∀W:World,Calls aB 158 #[.int .i64 (c:Int),.int .i64 2] W fun e w'=>e=.returned (.string (Iy c 2))∧Below W.heap.size W w'):=fun W=>T6 c 2 W ZA ZA
 refine' ZNa;have lH:=aA (Ae6 ⟨a,b,c⟩ w0);rw[HP.out]at lH;refine' ZCT;go_enter Tryz.func100,Tryz.ntmps100
 refine' ZDc;refine' ZT;have ld:=Ag b1
 refine' ZC;go_region_held3 (fun W=>Below w0.heap.size w0 W) (first|exact ld|exact k3|exact k2|exact k1|fail) (first|(go_at_call 158;refine' ZNb)|fail)
 all_goals exact ZNc
theorem Qp(s w)(hd:Ea s.data.toList=true)(hz:s.size≤17):
 Calls aB 254 #[.string s] w fun e w'=>e=.returned (.int .i64 (Fe s.data.toList:Int))∧w=w':=by
 have HD:=aA hd;clear hd;go_enter Tryz.func254,Tryz.ntmps254
 refine' ZNe
 ·refine' ZBp;by_cases ab:k<s.size
  ·refine' ZNf;refine' ZHj;refine' ZNg;have w4:aI.wrap (10*(n:Int)+(b.toNat:Int))=10*(n:Int)+(b.toNat:Int):=bI _ ZA;have w5:aI.wrap (10*(n:Int)+(b.toNat:Int) - 48)=10*(n:Int)+(b.toNat:Int) - 48:=bI _ ZA;exact ZEu
  exact ZEv
theorem Ac4(c w)(hc:Ap c=true):
 Calls aB 180 #[.string c] w fun e w'=>e=.returned (.tuple #[.agg #[.int .i64 (G0 c).area,.int .i64 (G0 c).walk,.int .i64 (G0 c).point],.bool true])∧Below w.heap.size w w':=by
 refine' ZNh;have H0:Hid (∀W:World,Calls aB 254 #[.string (c.extract 0 3)] W fun e w'=>e=.returned (.int .i64 (G0 c).area)∧W=w'):=fun W=>Qp _ W (hx 0 3 ZA) zc
 have H1:Hid (∀W:World,Calls aB 254 #[.string (c.extract 3 5)] W fun e w'=>e=.returned (.int .i64 (G0 c).walk)∧W=w'):=fun W=>Qp _ W (hx 3 5 ZA) zc
 have H2:Hid (∀W:World,Calls aB 254 #[.string (c.extract 5 c.size)] W fun e w'=>e=.returned (.int .i64 (G0 c).point)∧W=w'):=fun W=>Qp _ W (hx 5 c.size ZA) zc
 have iz:Hid (∀W:World,Calls aB 94 #[.string c] W fun e w'=>e=.returned (.bool true)∧W=w'):=fun W=>by have:=Cm c W ZN;exact ZBI
 refine' ZNj;go_enter Tryz.func180,Tryz.ntmps180
 refine' ZC;refine' zz;refine' ZC;go_region_held3 (fun _=>True) (first|trivial|fail) (first|(go_at_call 254;refine' ZNk)|fail)
 all_goals exact ZNl
def Kn(t:ByteArray):Bool:=Lib.hasPrefix t.data.toList [45]
def Mj(t:ByteArray):ByteArray:=⟨(Lib.trimPrefix t.data.toList [45]).toArray⟩
def Pu(d:ByteArray):Bool:=d.data.toList.head?==some 48
def nOk(d:ByteArray)(ng:Bool):Bool:=(decide (d.size≠0)&&(decide (d.size≤17)&&Ea d.data.toList))&& !(Pu d&&(decide (1<d.size)||ng))
def N5(d:ByteArray)(ng:Bool):Int:=if nOk d ng then(if ng then -(Fe d.data.toList:Int)else(Fe d.data.toList:Int))else 0
def Ic(t:ByteArray):Bool:=nOk (Mj t) (Kn t)
def Hp(t:ByteArray):Int:=N5 (Mj t) (Kn t)
theorem AgG{d}(h:0<d.size):Pu d=(d[0]==48):=by
 have hl:0<d.data.toList.length:=zG
 unfold Pu;obtain⟨b,l,au⟩:∃b l,d.data.toList=b::l:=by
  cases hq:d.data.toList with
  |nil=>rw[hq]at hl;simp at hl
  |cons b l=>exact⟨b,l,rfl⟩
 have e:d[0]=d.data.toList[0]:=rfl;rw[e];simp only[au];simp
theorem I7{d ng}(h:nOk d ng=false):N5 d ng=0:=by unfold N5;rw[h];rfl
theorem Lp{d ng}: -100000000000000000<N5 d ng∧N5 d ng<100000000000000000:=by
 unfold N5
 split
 ·rename_i h
  unfold nOk at h;refine' YS;have h1:=Jc d.data.toList.length d.data.toList h.1.2.2 rfl;have h2:d.data.toList.length≤17:=by have:=h.1.2.1;exact zT
  have h3:10^d.data.toList.length≤10^17:=eM ZF h2
  split<;>omega
 ·omega
theorem Iu(t w)(ht:t.size≤maxLen):
 Calls aB 135 #[.string t] w fun e w'=>e=.returned (.tuple #[.int .i64 (Hp t),.bool (Ic t)])∧w=w':=by
 have HC:Hid (∀W:World,Calls aB 219 #[.string t,.string ⟨#[45]⟩] W fun e w'=>e=.returned (.tuple #[.string (Mj t),.bool (Kn t)])∧W=w'):=fun W=>(Tryz.strings_CutPrefix t ⟨#[45]⟩ W).mono fun e w' h=>⟨h.1,h.2.symm⟩
 have rV:(Mj t).size≤maxLen:=by
  have h1:(Lib.trimPrefix t.data.toList [45]).length≤t.data.toList.length:=by
   unfold Lib.trimPrefix
   split
   ·simp
   ·exact YV
  have h2:t.data.toList.length=t.size:=ZE
  show(Lib.trimPrefix t.data.toList [45]).toArray.size≤_;rw[dP];omega
 unfold Hp Ic;generalize Mj t=d at *;generalize Kn t=ng at *;have HA:=aA (fun W=>Mk d W rV);have HN:=aA (fun W=>Jv d W);unfold maxLen at rV;by_cases h0:d.size=0
 ·have HO:Hid (nOk d ng=false):=by show _=_;unfold nOk;simp[h0]
  refine' ZAM;obtain⟨e1,e2⟩:=L6 h0;rw[HO.out,HV.out];clear h0;refine' ZE0;refine' ZQ;exact ZV
 obtain⟨e1,e2⟩:=G7 h0;by_cases ML:17<d.size
 ·have HO:Hid (nOk d ng=false):=ZHn
  refine' ZAM;rw[HO.out,HV.out];refine' ZE0;refine' ZQ;exact ZV
 cases ig:Ea d.data.toList
 ·have HO:Hid (nOk d ng=false):=by show _=_;unfold nOk;rw[ig];simp
  refine' ZAM;rw[HO.out,HV.out];rw[ig]at HA;clear ig;exact ZHo
 have th:=aA (fun W=>HN.out W ig ZA);have MK:=Jc d.data.toList.length d.data.toList ig rfl;have qB:d.data.toList.length=d.size:=ZE
 have h3:10^d.data.toList.length≤10^17:=eM ZF ZA;have hn:Fe d.data.toList≤100000000000000000:=ZA
 have ah:=AgG (d:=d) ZA;have qP:Hid (nOk d ng= !(Pu d&&(decide (1<d.size)||ng))):=by show _=_;unfold nOk;rw[ig,aJ (show d.size≠0 from h0),aJ (show d.size≤17 by omega)];simp
 have vi:Hid (N5 d ng=if nOk d ng then(if ng then -(Fe d.data.toList:Int)else(Fe d.data.toList:Int))else 0):=rfl;rw[ig]at HA;generalize Fe d.data.toList=n at *;clear ig MK h3 HN;have r9:0<d.size:=ZA
 obtain⟨b,nx⟩:∃b,d[0]=b:=⟨_,rfl⟩;rw[nx]at ah;generalize Pu d=zb at *;generalize nOk d ng=ok at *;generalize N5 d ng=vv at *;have wn:aI.wrap (-(n:Int))= -(n:Int):=bI _ ZA;by_cases hb:b=48
 ·subst hb
  have HZ:Hid (zb=true):=by show _=_;rw[ah];rfl
  clear ah;by_cases h1:1<d.size
  ·have HO:Hid (ok=false):=by show _=_;rw[qP.out,HZ.out,aJ h1];rfl
   have HV:Hid (vv=0):=ZDg
   rw[HO.out,HV.out];exact ZHo
  ·cases ng
   ·have HO:Hid (ok=true):=by show _=_;rw[qP.out,HZ.out,aO h1];rfl
    have HV:Hid (vv=(n:Int)):=ZDg
    exact ZHp
   ·have HO:Hid (ok=false):=by show _=_;rw[qP.out,HZ.out];simp
    have HV:Hid (vv=0):=ZDg
    rw[HO.out,HV.out];exact ZHo
 ·have OG:((b.toNat:Int)==48)=false:=beq_eq_false_iff_ne.2 fun h=>hb (UInt8.toNat_inj.1 (by show b.toNat=48;omega))
  have HZ:Hid (zb=false):=by show _=_;rw[ah];exact beq_eq_false_iff_ne.2 hb
  have HO:Hid (ok=true):=by show _=_;rw[qP.out,HZ.out];rfl
  clear ah hb;cases ng
  ·have HV:Hid (vv=(n:Int)):=ZDg
   exact ZHp
  ·have HV:Hid (vv= -(n:Int)):=ZDg
   exact ZHp
def Am(t:ByteArray):Int:=if Ic t then Hp t else -1
theorem Fg(t w)(ht:t.size≤maxLen):
 Calls aB 140 #[.string t] w fun e w'=>e=.returned (.int .i64 (Am t))∧w=w':=by
 have HN:=aA (fun W=>Iu t W ht);have HF:Hid (Am t=if Ic t then Hp t else -1):=rfl;generalize Hp t=n at *;generalize Am t=r at *;cases h:Ic t
 ·rw[h]at HN HF
  rw[show r= -1 from HF.out];clear h;go_enter Tryz.func140,Tryz.ntmps140
  refine' ZDh;refine' ZI;exact ZV
 ·rw[h]at HN HF
  rw[show r=n from HF.out];clear h;go_enter Tryz.func140,Tryz.ntmps140
  refine' ZDh;refine' ZI;exact ZV
open Go.RowKit Go.Shelf
attribute [local go_sem] Oper.semAt_some
theorem Tryz.infoLt:(aB.info? 119).map (fun i=>(i.zero,i.size,i.bytes))=some (some (.agg #[.int .i64 0,.string ⟨#[]⟩]),2,24):=ZB
def Ll(x:ByteArray):Option Ltr:=match E5 58 x with
 |some (p,q)=>if Ic p then some ⟨Hp p,q⟩else none
 |none=>none
def M1(ps:List ByteArray):Bool:=ps.all fun x=>(Ll x).isSome
def J7(ps:List ByteArray):List Ltr:=ps.filterMap Ll
def Yu(t:ByteArray):Bool:=M1 (Aj 32 t)&&decide ((Aj 32 t).length≤60)
def J5(t:ByteArray):Bool:=Yu t&&sEq (Co (J7 (Aj 32 t))) t
def Mv(t:ByteArray):Bool:=sEq t ⟨#[45]⟩||J5 t
def pbL(t:ByteArray):List Ltr:=if sEq t ⟨#[45]⟩then []else if J5 t then J7 (Aj 32 t)else []
theorem Ao3{x}(h:E5 58 x=none):Ll x=none:=by unfold Ll;rw[h]
theorem Av8{x p q}(h:E5 58 x=some (p,q))(hn:Ic p=false):Ll x=none:=by unfold Ll;rw[h];simp[hn]
theorem AfQ{x p q}(h:E5 58 x=some (p,q))(hn:Ic p=true):Ll x=some ⟨Hp p,q⟩:=by unfold Ll;rw[h];simp[hn]
theorem AjT:∀ps:List ByteArray,M1 ps=true→(J7 ps).length=ps.length
 |[],_=>rfl
 |x::ps,h=>by unfold M1 at h;refine' ZCY;unfold J7;rw[dV,hy];show(J7 ps).length+1=_;rw[AjT ps h.2];rfl
theorem ArK{ps x y}(h:Ll x=some y):J7 (ps++[x])=J7 ps++[y]:=by unfold J7;rw[List.filterMap_append];simp[h]
theorem AeT(ps x):M1 (ps++[x])=(M1 ps&&(Ll x).isSome):=by unfold M1;rw[dS];simp
theorem Al2(ps){x}(h:Ll x=none):M1 (ps++[x])=false:=by rw[AeT,h];simp
theorem AmS{ps qs}(h:ps<+:qs)(hf:M1 ps=false):M1 qs=false:=by obtain⟨r,rfl⟩:=h;unfold M1 at *;rw[dS,hf];rfl
def pbI(h:Nat)(w0:World)(B:Nat)(pre:List ByteArray)(W:World):Prop:=
 (∃v,Boxed W (h+1+1) 27 v∧own 119 B W v (J7 pre))∧B≤W.heap.size∧M1 pre=true∧pre.length≤60∧Boxed W h 27 (.slice none 0 0)∧Boxed W (h+1) 4 (.bool false)∧Below h w0 W
def pbX(h:Nat)(w0:World)(pre:List ByteArray)(W:World):Prop:=
 (M1 pre=false∨60<pre.length)∧Boxed W h 27 (.slice none 0 0)∧Boxed W (h+1) 4 (.bool false)∧Below h w0 W
theorem AuI{h B z w0}(hz:h+1+1<z)(uM:z<B)(hs:h≤w0.heap.size):Pw B z (pbI h w0 B):=ZHq
theorem Au9{h B z w0}(hz:h+1+1<z)(uM:z<B)(hs:h≤w0.heap.size):Pw B z (pbX h w0):=ZE1
theorem Ae5(t w)(ht:t.size≤maxLen)(hX:I4 w):
 Calls aB 54 #[.string t] w fun e w'=>∃v',e=.returned (.tuple #[v',.bool (Mv t)])∧own 119 w.heap.size w' v' (pbL t)∧Below w.heap.size w w':=by
 have xC:=aA hX;clear hX;refine' ZE2;refine callsIn_of_wp_marks Tryz.func54 rfl trivial ?_ rfl;simp only[Tryz.ntmps54,dP,bZ,cK,Nat.reduceAdd,Nat.reduceSub,gA,gB,iH,gM,bV,dB];by_cases ci:sEq t ⟨#[45]⟩=true
 ·refine' ZOA;refine' ZE3;gi_wp2
  refine⟨.tuple #[.slice none 0 0,.bool true],by simp[results,Tryz.results54,go_sem],_,by rw[HO.out],ZDi,?_⟩;exact ZHr
 ·refine' ZE4;have HO:Hid (Mv t=J5 t):=by show _=_;unfold Mv;rw[eY]at ci;rw[ci];rfl
  have HR:Hid (pbL t=if J5 t then J7 (Aj 32 t)else []):=by show _=_;unfold pbL;rw[aL ci]
  clear ci;have HS:=fun W=>Kh t 32 W
  have b0:=((Boxed.new w 27 (.slice none 0 0)).alloc (aC #[.bool false] 4)).alloc (aC #[.slice none 0 0] 27);have b1:=(Boxed.new (w.alloc (aC #[.slice none 0 0] 27)) 4 (.bool false)).alloc (aC #[.slice none 0 0] 27);have b2:=Boxed.new ((w.alloc (aC #[.slice none 0 0] 27)).alloc (aC #[.bool false] 4)) 27 (.slice none 0 0);have l3:Below w.heap.size w (((w.alloc (aC #[.slice none 0 0] 27)).alloc (aC #[.bool false] 4)).alloc (aC #[.slice none 0 0] 27)):=(((aF _ w).alloc (aD _) _).alloc ZE _).alloc ZH _;refine' ZE5;have ft:(((w.alloc (aC #[.slice none 0 0] 27)).alloc (aC #[.bool false] 4)).alloc (aC #[.slice none 0 0] 27)).heap.size=w.heap.size+1+1+1:=ZE
  generalize(((w.alloc (aC #[.slice none 0 0] 27)).alloc (aC #[.bool false] 4)).alloc (aC #[.slice none 0 0] 27))=w3 at *;rw[ft]at ay yU;have x0:Boxed w6 (w.heap.size) 27 (.slice none 0 0):=(mS.block _ ZA).trans B0.out;refine' ZE6;have x2:Boxed w6 (w.heap.size+1+1) 27 (.slice none 0 0):=(mS.block _ ZA).trans B2.out;refine' ZE7;obtain⟨i0,hi,uQ,jO,kP⟩:=eA Tryz.infoLt;refine Pz (F:=Fence.wide) (n:=9) rfl ZA (gf:=286) (lb:=#[.pointer (some ⟨w.heap.size+1+1+1+1,0,none⟩),.pointer (some ⟨w.heap.size+1+1+1,0,none⟩),.pointer (some ⟨w.heap.size+1+1+1+2,0,none⟩)]) rfl trivial (iC Tryz.func286 ZB rfl)
   (Te 8 (w.heap.size+1+1+1) ZA 32 t w6 ay ht) (fun k hk=>zW) ZA (fun _=>rfl)
   (pbI w.heap.size w w6.heap.size) (pbX w.heap.size w) (AuI ZA ZA (aD _)) (Au9 ZA ZA (aD _))
   ⟨⟨_,x2,own.nil_ _ _ _⟩,aD _,rfl,aM _,x0,x1,l6⟩
   (fun x=>{tmps:=#[.string t,undef,.pointer (some ⟨w.heap.size,0,none⟩),.pointer (some ⟨w.heap.size+1,0,none⟩),.pointer (some ⟨w.heap.size+1+1,0,none⟩),.string x,undef,undef,undef,undef,undef,.string t,.bool false,.string t,.func (.func 286) #[] #[.pointer (some ⟨w.heap.size+1+1+1+1,0,none⟩),.pointer (some ⟨w.heap.size+1+1+1,0,none⟩),.pointer (some ⟨w.heap.size+1+1+1+2,0,none⟩)],.string x,undef,undef,undef,undef,undef,undef,undef,undef,undef,undef,undef,undef,undef,undef,undef,undef,undef,undef,undef,undef,undef,undef,undef,undef,undef,undef,undef,undef,undef,undef,undef,undef,undef],defers:=[]}) ?assign ?body ?done ?stop
  case assign=>
   intro l x W K hK
   gi_wp2
   exact hK
  case body=>
   refine' ZOB;have HC:=Er x 58 W hx;refine' ZE8;rcases ij:E5 58 x with _|⟨p,q⟩
   ·have nT:Calls aB 51 #[.string x,.string ⟨#[58]⟩] W fun e w'=>Below W.heap.size W w'∧e=.returned (.tuple #[.string x,.string ⟨#[]⟩,.bool false]):=HC.mono fun e w' h=>ZHs
    have HP:Hid (M1 (pre++[x])=false):=Al2 pre (Ao3 ij);have HN:=aA (fun V=>Iu x V hx);generalize Ic x=nok at *;generalize Hp x=nv at *;clear HC ij y0 y1 hv ho
    gi_wp2_with (first|(refine' ZDj;refine' ZDk)|refine' ZE9)
    exact ZFA
   ·have nT:Calls aB 51 #[.string x,.string ⟨#[58]⟩] W fun e w'=>Below W.heap.size W w'∧e=.returned (.tuple #[.string p,.string q,.bool true]):=HC.mono fun e w' h=>ZHt
    have qM:=Ki ij;have HN:=aA (fun V=>Iu p V ZA);cases k7:Ic p
    ·have HP:Hid (M1 (pre++[x])=false):=Al2 pre (Av8 ij k7)
     rw[k7]at HN;generalize Hp p=nv at *;clear HC ij y0 y1 hv ho k7
     gi_wp2_with (first|(refine' ZDj;refine' ZDk)|refine' ZE9)
     exact ZFA
    ·have tm:=AfQ ij k7
     have hnb:=Lp (d:=Mj p) (ng:=Kn p);rw[show N5 (Mj p) (Kn p)=Hp p from rfl]at hnb;rw[k7]at HN;generalize Hp p=nv at *;have HP:=aA tm;have bv:=AjT pre cw;obtain⟨A,m,cp,rfl,hm,_,_,_⟩:=ho.rd;clear HC ij tm y0 y1 hv ho k7;by_cases qv:m=60
     ·have qN:((m:Int)==60)=true:=by simp[qv]
      have HL:Hid (60<(pre++[x]).length):=by show _<_;refine' ZAY;show 60<pre.length+1;omega
      clear qv hm bv qM
      gi_wp2_with (first|(refine' ZBs;refine' ZFB)|refine' ZE9)
      exact ZFC
     ·have qN:((m:Int)==60)=false:=beq_eq_false_iff_ne.2 ZA
      have FS:(J7 pre).length≤59:=ZA
      have kV:Hid (pre.length≤59):=ZA8
      have HY:Hid (Ltr.ok ⟨nv,q⟩):=⟨by show Bj nv;exact zL,by show q.size≤_;omega⟩;clear qv hm bv qM hnb
      gi_wp2_with (first|refine' ZHu|refine' ZE9|(gi_at_builtin;refine M7 (α:=Ltr) rfl (.tmp 38) (.tmp 42) 27 rfl w6.heap.size 119 i0 _ 24 aV hi uQ jO kP rfl ZF (.slice A m cp) (J7 pre) ⟨nv,q⟩ rfl (o2.alloc _) ⟨W2.heap.size,0,none⟩ 1 (Ltr.cells ⟨nv,q⟩) rfl ⟨HY.out,rfl⟩ (Bz W2 _ (Ltr.cells ⟨nv,q⟩)) ZN ZA ZH ?_;refine' ZHv))
      refine' ZHw;have tN:KeepsOthers W (w5.setCell ⟨w.heap.size+1+1,0,none⟩ (.slice A5 n5 c5)):=(((Cr hb).trans (KeepsOthers.alloc W2 _)).trans (KeepsOthers.of_grownBy ap fun j o ej hj=>by obtain⟨o',h1,h2⟩:=Hn (o2.alloc (aC #[.int .i64 nv,.string q] 119)) ej;exact ZFD)).trans (KeepsOthers.setCell _ _ _)
      refine⟨tN,fun k hk=>oW k zW zW,⟨_,u2.set _,?_⟩,?_,?_,?_,?_,?_,?_⟩
      ·rw[ArK HP.out]
       exact ZHx
      exact ZFE
      ·rw[AeT,cw,HP.out];rfl
      ·have:=kV.out;refine' ZAY;show pre.length+1≤60;omega
      exact ZFF
      ·exact ZFG
      exact ZHy
  case done=>
   refine' ZHz;have ic:J5 t=sEq (Co (J7 (Aj 32 t))) t:=by unfold J5 Yu;rw[cw,aJ bn];rfl
   refine' ZFH;have HV:=F7 (.slice A m cp) (J7 (Aj 32 t)) W ho.rd (xC.out.on hB);have ib:=Du (J7 (Aj 32 t));refine' ZFI;obtain⟨F,IW⟩:∃F,Co (J7 (Aj 32 t))=F:=⟨_,rfl⟩;rw[IW]at HV ic ib;clear IW;cases i7:sEq F t
   ·rw[i7]at ic
    have jp:=aA ic;have hq:(F.toList==t.toList)=false:=by unfold sEq at i7;exact i7
    clear ic i7
    dsimp only
    gi_wp2_with (refine' YH;gi_at_call 117;refine' ZBJ)
    refine' ZFJ;exact ZOC
   ·rw[i7]at ic
    have jp:=aA ic;have hq:(F.toList==t.toList)=true:=by unfold sEq at i7;exact i7
    clear ic i7
    dsimp only
    gi_wp2_with (refine' YH;gi_at_call 117;refine' ZBJ)
    refine' ZH0;refine⟨.tuple #[.slice A m cp,.bool true],ZOD,_,ZCZ,ZH1,mT⟩
  case stop=>
   refine' ZFK;have ic:J5 t=false:=by
    unfold J5 Yu;rcases am with h|h
    ·rw[AmS kL h];rfl
    ·have:=kL.length_le
     exact ZBK
   refine' ZFL;exact ZOC
def E7(p:Pln):ByteArray:=if Bq p=true then Cl p.bins.toNat++⟨#[32]⟩++Cl p.passes.toNat++⟨#[32]⟩++Cg p.order spT else⟨#[]⟩
theorem AhB{p}(h:Bq p=false):E7 p=⟨#[]⟩:=by unfold E7;rw[h];rfl
theorem Ov{p}(h:Bq p=true):E7 p=Cl p.bins.toNat++⟨#[32]⟩++Cl p.passes.toNat++⟨#[32]⟩++Cg p.order spT:=by unfold E7;rw[aP h]
theorem Xx{p}(h:Bq p=true):∀c∈p.order,Ap c=true:=fun c hc=>by obtain⟨k,hk,rfl⟩:=bO hc;have h1:=List.all_eq_true.1 (show(List.range p.order.length).all (Ad9 p.order)=true from(De.1 h).2.2.2) k zM;rw[U9 hk,aN]at h1;exact h1.1
theorem Af6{p}(h:Bq p=true):(Cg p.order spT).size≤480:=by
 have h1:=Dw p.order spT 7 fun c hc=>eJ (Cp (Xx h c hc)).1
 have h2:=(De.1 h).2.1.2;have h3:p.order.length*(7+spT.size)≤60*8:=cC h2 (aD _);omega
theorem N0(v p w)(hv:rdP w w.heap.size v p)(ht:I4 w):
 Calls aB 123 #[v] w fun e w'=>e=.returned (.string (E7 p))∧Below w.heap.size w w':=by
 refine' ZOL;have lH:=aA (Fq _ p w0 (hv.on jS));refine' ZOM;have xC:=aA ht;refine' ZH2;clear jS bg hv ht;go_enter Tryz.func123,Tryz.ntmps123
 refine' ZDc;cases hp:Bq p
 ·refine' ZT;have HF:=aA (AhB hp);exact ZON
 ·refine' ZH3;have HF:=aA (Ov hp);obtain⟨⟨x1,x2,x3,x4⟩,⟨x5,x6⟩,_⟩:=De.1 hp;have lU:=Af6 hp;have HJ:Hid (∀W,Below w1.heap.size w1 W→Calls aB 196 #[.slice A p.order.length c,.string ⟨#[32]⟩] W fun e w'=>e=.returned (.string (Cg p.order spT))∧Below W.heap.size W w'):=fun W hW=>AtC (sep:=spT) (qU.out W (Aa cy.out hW)) ZA ZA ZA
  obtain⟨bi,pa,od⟩:=p;simp only at x1 x2 x3 x4 lU HJ q0 q1 q2 bt fi HF⊢;refine' ZOO;have AQ:Hid (∀W,Below w1.heap.size w1 W→Calls aB 195 #[.int .i64 (bi:Int)] W fun e w'=>e=.returned (.string (Cl bi))∧Below W.heap.size W w'):=fun W hW=>Jn bi W ZA (xC.out.on (Aa cy.out hW))
  have DD:Hid (∀W,Below w1.heap.size w1 W→Calls aB 195 #[.int .i64 (pa:Int)] W fun e w'=>e=.returned (.string (Cl pa))∧Below W.heap.size W w'):=fun W hW=>Jn pa W ZA (xC.out.on (Aa cy.out hW))
  have s1:=(C9 (n:=bi) ZA).1;have s2:=(C9 (n:=pa) ZA).1;have s8:Hid (E7 ⟨(bi:Int),(pa:Int),od⟩=Cl bi++⟨#[32]⟩++Cl pa++⟨#[32]⟩++Cg od spT):=HF.out;clear HF;generalize Cl bi=B1 at *;generalize Cl pa=B2 at *;generalize Cg od spT=J at *;refine' ZOP;have a3:¬9223372036854775807<B1.size+1+B2.size+1:=ZA
  have a4:¬9223372036854775807<B1.size+1+B2.size+1+J.size:=ZA
  refine' ZFM;clear hp b1 q0 q1 q2 x1 x2 x3 x4 x5 x6;refine' ZOQ;go_region_held3 (fun W=>Below w1.heap.size w1 W) (first|exact ld|exact k3|exact k2|exact k1|fail) (first|(go_at_call 195;first|((with_reducible refine(AQ.out _ (by first|exact ld|exact k1|exact k2)).mono ?_);refine' YW;have k1:=Aa ld z1)|((with_reducible refine(DD.out _ ZDl).mono ?_);refine' YX;have k2:=Aa k1 z2)|fail)|(go_at_call 196;first|((with_reducible refine(HJ.out _ ZH4).mono ?_);refine' YI;have k3:=Aa k2 z3)|fail)|fail)
  all_goals
   have K3:=aA (Aa cy.out k3);clear k1 k2 k3 z1 z2 z3 ld
   refine' ZI;exact⟨B8 s8.out.symm,K3.out⟩
theorem Tryz.sizePlK:(aB.info? 30).map (·.size)=some 3:=ZB
def I8(t:ByteArray):Pln:=⟨Hp ((Aj 32 t).getD 0 ⟨#[]⟩),Hp ((Aj 32 t).getD 1 ⟨#[]⟩),(Aj 32 t).drop 2⟩
def Ge(t:ByteArray):Bool:=(decide (3≤(Aj 32 t).length)&&decide ((Aj 32 t).length≤62))&&((Ic ((Aj 32 t).getD 0 ⟨#[]⟩)&&Ic ((Aj 32 t).getD 1 ⟨#[]⟩))&&Bq (I8 t))
def Ey(t:ByteArray):Pln:=if Ge t then I8 t else⟨0,0,[]⟩
theorem Sm{t}(h:Ge t=false):Ey t=⟨0,0,[]⟩:=by unfold Ey;rw[h];rfl
theorem AhP{t}(h:Ge t=true):Ey t=I8 t:=by unfold Ey;rw[aP h]
theorem Ag0(v)(xs:List ByteArray)(w)(hv:rd w w.heap.size v xs)(hl:xs.length≤1048576):
 Calls aB 222 #[v] w fun e w'=>∃v',e=.returned v'∧own 9 w.heap.size w' v' xs∧Below w.heap.size w w':=by
 have ev:=aA hv;refine' ZAh;subst hn;clear hr;refine' zh;refine' ZM8;go_enter Tryz.func222,Tryz.ntmps222
 go_wp2_with (refine T7 (α:=ByteArray) (o:=⟨some 9,_,_,_,_,_⟩) rfl (.tmp 7) (.tmp 8) 28 28 rfl w.heap.size w.heap.size 9 i0 aW hi aw ZF (madeCells #[aK ⟨#[]⟩] xs.length) (.slice A xs.length c) xs _ (ev.out.on ((aF _ _).alloc (aD _) _)) rfl rfl (bD w _) ZAK (aD _) ZN ?_;intro w1 iy QA)
 exact ZLe
theorem AgA(t w)(ht:t.size≤1000000):
 Calls aB 136 #[.string t] w fun e w'=>∃vo,e=.returned (.tuple #[.agg #[.int .i64 (Ey t).bins,.int .i64 (Ey t).passes,vo],.bool (Ge t)])∧own 9 w.heap.size w' vo (Ey t).order∧Below w.heap.size w w':=by
 have bw:Hid (¬(3≤(Aj 32 t).length∧(Aj 32 t).length≤62)∨Ic ((Aj 32 t).getD 0 ⟨#[]⟩)=false∨Ic ((Aj 32 t).getD 1 ⟨#[]⟩)=false∨Bq (I8 t)=false→Ge t=false):=fun h=>by
  unfold Ge;rcases h with h|h|h|h
  ·by_cases h1:3≤(Aj 32 t).length
   ·rw[aO (show¬(Aj 32 t).length≤62 by omega)];simp
   ·rw[aO h1];simp
  ·rw[h];simp
  ·rw[h];simp
  ·rw[h];simp
 have lp:Hid (3≤(Aj 32 t).length→(Aj 32 t).length≤62→Ic ((Aj 32 t).getD 0 ⟨#[]⟩)=true→Ic ((Aj 32 t).getD 1 ⟨#[]⟩)=true→Bq (I8 t)=true→Ge t=true):=fun h1 h2 h3 h4 h5=>by unfold Ge;rw[aJ h1,aJ h2,h3,h4,h5];rfl
 refine' ZOR;have kj:Hid (∀W:World,Calls aB 13 #[.string t,.string ⟨#[32]⟩] W fun e w'=>e=.returned (.slice (some ⟨W.heap.size,0,none⟩) (Aj 32 t).length (Aj 32 t).length)∧own 9 W.heap.size w' (.slice (some ⟨W.heap.size,0,none⟩) (Aj 32 t).length (Aj 32 t).length) (Aj 32 t)∧Below W.heap.size W w'):=fun W=>(Ij t 32 W ZA).mono fun e w' h=>⟨h.1,h.2.1,h.2.2.1⟩
 refine' ZOS;refine' ZOT;go_enter Tryz.func136,Tryz.ntmps136
 refine' ZBL;have qT:=kj.out wA;rw[mn]at qT;refine qT.mono ?_;clear qT;rintro e w1 ⟨rfl,o1,b1⟩;rw[←mn]at b1;refine' ZOU;by_cases h3:3≤ps.length
 case neg=>
  have GE:(ps.length:Int)<3:=ZA
  have HQ:Hid (Ge t=false):=bw.out (.inl fun h=>h3 h.1);refine' ZDm;clear o1
  exact ZDn
 by_cases h62:ps.length≤62
 case neg=>
  have GE:¬(ps.length:Int)<3:=ZA
  have QB:(62:Int)<(ps.length:Int):=ZA
  have HQ:Hid (Ge t=false):=bw.out (.inl fun h=>h62 h.2);refine' ZDm;clear o1
  exact ZDn
 have GE:¬(ps.length:Int)<3:=ZA
 have QB:¬(62:Int)<(ps.length:Int):=ZA
 refine' ZOV;rw[g0,g1]at bw lp pd;refine' ZOW;have qU:=aA (o1.rd.drop (k:=2) ZA);have lu:=aA o1;generalize ps[0]=p0 at *;generalize ps[1]=p1 at *;have rA:=aA (fun W=>Iu p0 W z0);have pL:=aA (fun W=>Iu p1 W z1);refine' ZOX;cases gx:Ic p0
 ·rw[gx]at rA
  refine' ZFN;have HQ:Hid (Ge t=false):=bw.out (.inr (.inl gx));refine' ZDm;clear gx
  exact ZDn
 cases kX:Ic p1
 ·rw[kX]at pL;rw[gx]at rA
  refine' ZFN;have HQ:Hid (Ge t=false):=bw.out (.inr (.inr (.inl kX)));refine' ZDm;clear gx kX
  exact ZDn
 rw[gx]at rA;rw[kX]at pL;have NI:Hid (Bq (I8 t)=true→Ge t=true):=lp.out h3 h62 gx kX;clear lp gx kX
 refine' ZFN;refine' ZFM;have h2c:¬ps.length=2:=ZA
 rw[aL ZA]at qU;have HCT:Hid (∀W,Below w1.heap.size w1 W→Calls aB 222 #[.slice (some ⟨w.heap.size+1,2,none⟩) (ps.length - 2) (ps.length - 2)] W fun e w'=>∃v',e=.returned v'∧own 9 W.heap.size w' v' (ps.drop 2)∧Below W.heap.size W w'):=fun W hW=>Ag0 _ (ps.drop 2) W (qU.out.on hW) (by rw[dO];omega)
 refine' ZC;refine(HCT.out _ (by first|exact aF _ _|exact ld)).mono ?_;rintro e u1 ⟨v2,rfl,o2,z2⟩;have k1:Below w1.heap.size w1 u1:=Aa (by first|exact aF _ _|exact ld) z2;have GG:=(k1.block w.heap.size ZA).trans bt;have QD:=lJ.trans (k1.mono ZA);have hzu:=k1.size;have QE:own 9 w1.heap.size u1 v2 (ps.drop 2):=o2;obtain⟨A2,n2,c2,rfl,qc, -, -, -⟩:=o2.rd;rw[dO]at qc;subst qc;have HP:Hid (rdP (u1.alloc (aC #[.int .i64 v0,.int .i64 v1,.slice A2 (ps.length - 2) c2] 30)) (u1.alloc (aC #[.int .i64 v0,.int .i64 v1,.slice A2 (ps.length - 2) c2] 30)).heap.size (.agg #[.int .i64 v0,.int .i64 v1,.slice A2 (ps.length - 2) c2]) (I8 t)):=by show rdP _ _ _ _;rw[pd.out];exact⟨_,rfl,(show Bj v0 by exact zL),(show Bj v1 by exact zL),(QE.alloc _).rd⟩
 obtain⟨u2,qd⟩:∃u,u=u1.alloc (aC #[.int .i64 v0,.int .i64 v1,.slice A2 (ps.length - 2) c2] 30):=⟨_,rfl⟩;have sf:u2.heap[u1.heap.size]? =some (.cells #[.int .i64 v0,.int .i64 v1,.slice A2 (ps.length - 2) c2] 30 (0,0)):=by rw[qd];exact bD u1 _
 refine' ZOY;have uT:Below w.heap.size w u2:=by rw[qd];exact QD.alloc QD.size _
 have aq:u2.heap.size=u1.heap.size+1:=by rw[qd];simp
 have kG:own 9 w1.heap.size u2 (.slice A2 (ps.length - 2) c2) (ps.drop 2):=by rw[qd];exact QE.alloc _
 rw[←qd]at HP;have ww:=aA qd;clear qd;have lH:=aA (Fq _ _ u2 HP.out);have ja:=aA kG;clear o2 QE GG QD k1 z2 kG bt lJ ld qU;obtain⟨c0,c1,nU,f0,f1,f2⟩:=B7 sf
 refine' ZC;rw[←ww.out];refine lH.out.mono ?_;cases jl:Bq (I8 t)
 ·refine' zH;refine' ZFO;refine' ZFP;clear c0 c1 nU f0 f1 f2;have HQ:Hid (Ge t=false):=bw.out (.inr (.inr (.inr jl)));have HR:Hid (Ey t=⟨0,0,[]⟩):=Sm HQ.out;refine' ZH5;clear jl
  exact ZDn
 ·refine' zH;refine' ZFO;have DJ:=(b3.block u1.heap.size ZA).trans sf;refine' ZFP;have HQ:=aA (NI.out jl);refine' ZOZ;refine⟨.slice A2 (ps.length - 2) c2,by rw[HR.out,HQ.out,pd.out];rfl,?_,Ai (Ai (Ai lK.out (aD _) _) (aD _) _) (aD _) _⟩;rw[HR.out,pd.out];exact(Bd (Bd (Bd fg.out ⟨w.heap.size,0,none⟩ _ ZH6) ⟨w.heap.size,1,none⟩ _ ZH6) ⟨w.heap.size,2,none⟩ _ ZH6).base_ ZA
def Lk(d:Nat)(x:Ltr):Int:=(((x.code.data.toList.getD d 48).toNat - 48:Nat):Int)
def Jo(xs:List Ltr)(dg:Int):Bool:=okB xs&&(decide (0≤dg)&&decide (dg<7))
def Q4(xs:List Ltr)(dg:Int):List (List Ltr):=if Jo xs dg then Bm (Lk dg.toNat) 10 xs else []
theorem AcE{xs dg}(h:Jo xs dg=false):Q4 xs dg=[]:=by unfold Q4;rw[h];rfl
theorem Yc{xs dg}(h:Jo xs dg=true):Q4 xs dg=Bm (Lk dg.toNat) 10 xs:=by unfold Q4;rw[aP h]
theorem Ze{x d}(h:Ap x.code=true)(hd:d<7):∃hz:d<x.code.size,48≤(x.code[d]).toNat∧(x.code[d]).toNat≤57∧Lk d x=(((x.code[d]).toNat - 48:Nat):Int):=by
 obtain⟨h7,hm⟩:=Cp h;have hz:d<x.code.size:=ZA
 have hl:d<x.code.data.toList.length:=by simpa using hz
 have e:x.code[d]=x.code.data.toList[d]:=rfl;have hb:=hm _ (aU hl);refine⟨hz,by rw[e];exact hb.1,by rw[e];exact hb.2,?_⟩;unfold Lk;rw[bL,aR hl,e];rfl
theorem AlP(vb xs dg w)(hb:rd w w.heap.size vb xs):
 Calls aB 224 #[vb,.int .i64 dg] w fun e w'=>∃vB vs,e=.returned (.tuple #[vB,.bool (Jo xs dg)])∧Fi 27 119 w.heap.size w' vB (Q4 xs dg) vs∧Below w.heap.size w w':=by
 have HV:=aA hb;refine' ZBt;subst hn;unfold maxLen at nD;refine' ZAI;have bw:Hid (okB xs=false∨dg<0∨7≤dg→Jo xs dg=false):=fun h=>by
  unfold Jo;rcases h with h|h|h
  ·rw[h];rfl
  ·rw[aO (show¬0≤dg by omega)];simp
  ·rw[aO (show¬dg<7 by omega)];simp
 refine' ZOa;go_enter Tryz.func224,Tryz.ntmps224
 refine' ZC;refine(Cn _ xs _ HV.out).mono ?_;cases ag:okB xs
 ·rintro e w0 ⟨rfl,l0⟩
  have HQ:=aA (bw.out (.inl ag));exact ZH7
 rintro e w0 ⟨rfl,l0⟩;by_cases r9:dg<0
 ·have HQ:=aA (bw.out (.inr (.inl r9)))
  exact ZH7
 by_cases hd7:7≤dg
 ·have HQ:=aA (bw.out (.inr (.inr hd7)))
  exact ZH7
 obtain⟨dd,rfl⟩:=aQ (show 0≤dg by omega);have ig:dd<7:=ZA
 have lp:Hid (Jo xs (dd:Int)=true):=by show _=_;unfold Jo;rw[ag,aJ (show(0:Int)≤(dd:Int) by omega),aJ (show(dd:Int)<7 by omega)];rfl
 have qk:Hid (Q4 xs (dd:Int)=Bm (Lk dd) 10 xs):=Yc lp.out;refine' ZOb;rw[←kA.out]at qk HF;have II:=aF w0.heap.size w0
 refine' ZOc;have j6:=aA l0;clear l0 II
 go_loopw[24] (fun i wr=>∃(k:Nat) (vs:List Value),k≤xs.length∧i=.int .i64 k∧Below w0.heap.size w0 wr∧Fi 27 119 w0.heap.size wr (.slice (some ⟨G,0,none⟩) 10 10) (Bm f 10 (xs.take k)) vs) (fun i _=>xs.length - (intOf i).toNat)
 case atStart=> refine⟨0,ov,aM _,rfl,lz,?_⟩;exact ZDI
 case round=>
  refine' ZGo;clear lz ky hB;have gh:=lr.size;by_cases ab:k<xs.length
  ·refine' ZOd;have oG:=c1 w1 (Aa j6.out lr);have nU:=c2 w1 (Aa j6.out lr);clear c1 c2;refine' ZLb;have x0:=Af cz 0 (.int .i64 x.id) rfl wl (aF _ _);have x1:=Af cz 1 (.string x.code) rfl wl (aF _ _);have xQ:=(Aw cz).1;have ll:=Aa lr xQ;have pw:w1.heap.size<wl.heap.size:=(Aw cz).2;have dz:=aA (HB.out.below xQ);have vJ:=aA cz;clear cz xQ;obtain⟨ey,da,ga⟩:∃ey:d<vs.length,own 119 w0.heap.size wl vs[d] (Bm f 10 (xs.take k))[d]∧apart vs[d] (.slice (some ⟨G,0,none⟩) 10 10):=ZH8
   have jW:wl.cell? ⟨G,d,none⟩=some vs[d]:=Ff dz.out.1 d ey;have r8:wl.frozen? ⟨G,d,none⟩=false:=dz.out.1.freeAt d;refine' ZOe;have jK:G<wl.heap.size:=(dz.out.1.blk G rfl).2;have w1':IntKind.wrap .u8 ((bb.toNat:Int) - 48)=(d:Int):=ZCR
   have IJ:aI.wrap (d:Int)=(d:Int):=bI _ ZA;refine' ZOf;rw[←vJ.out]
   go_region_law (go_loud ((refine Ce (α:=Ltr) ZG (.tmp 39) (.tmp 41) 27 ZG w0.heap.size 119 i1 _ 24 aV ji dp dq dr rfl ZF (.slice Au zs.length cu) zs x ZG ((jc.out.alloc _).drew) ⟨wl.heap.size,0,none⟩ 1 (Ltr.cells x) ZG ⟨⟨fa,ew⟩,rfl⟩ (Ft wl _ (Ltr.cells x)) ZN ZA ZH ?_;refine' ZDL)))
   all_goals have fq:Below wl.heap.size wl (wl.alloc (aC #[bC aI x.id,aK x.code] 119)).drew:=Ag (Ae (aF _ _) _);refine' ZOg;have p4:=Ex (G:=G) (d:=d) (g:=g) (m:=zs.length+1) (cap:=cap) (Ag (Ae ll (aC #[bC aI x.id,aK x.code] 119))) ep (fun j hj=>(jc.out.blk j hj).1) mt;exact ZOh
  ·refine' YD;refine' ZQ;have hB:=HB.out;rw[HE.out,aY]at hB;exact⟨_,vs,by rw[lp.out];rfl,by rw[qk.out];exact hB.base_ j6.out.size,Aa j6.out lr⟩
def spL(xs:List Ltr)(dg:Int):List Ltr:=if Jo xs dg then(Bm (Lk dg.toNat) 10 xs).flatten else []
theorem AxR{xs dg}(h:Jo xs dg=false):spL xs dg=[]:=by unfold spL;rw[h];rfl
theorem AmT{xs dg}(h:Jo xs dg=true):spL xs dg=(Bm (Lk dg.toNat) 10 xs).flatten:=by unfold spL;rw[aP h]
theorem AmM{xs dg}(h:Jo xs dg=true):okB xs=true∧0≤dg∧dg<7:=by unfold Jo at h;refine' YS;exact⟨h.1,h.2.1,h.2.2⟩
theorem AsN{xs dg}(h:Jo xs dg=true):En (Q4 xs dg)=true∧collected (Q4 xs dg)=spL xs dg:=by
 have hc:En (Q4 xs dg)=true:=by unfold En;rw[Yc h,Hz,Lq _ _ (AmM h).1];rfl
 exact⟨hc,by rw[Xd hc,AmT h,Yc h]⟩
theorem BcB{xs dg}(h:Jo xs dg=true):okB (spL xs dg)=true:=by rw[AmT h];exact Lq _ _ (AmM h).1
theorem Aj5(vb xs dg w)(hb:rd w w.heap.size vb xs):
 Calls aB 139 #[vb,.int .i64 dg] w fun e w'=>∃v',e=.returned (.tuple #[v',.bool (Jo xs dg)])∧own 119 w.heap.size w' v' (spL xs dg)∧Below w.heap.size w w':=by
 have HB:=aA (AlP vb xs dg w hb);refine' ZBt;clear hr hn hc nD;go_enter Tryz.func139,Tryz.ntmps139
 refine' ZC;refine HB.out.mono ?_;cases hk:Jo xs dg
 ·rintro e w1 ⟨vB,vs,rfl,hL,b1⟩
  have cy:=aA b1;have HS:=aA (AxR hk);refine' ZAd;clear hL b1 hk
  refine' ZQ;exact⟨.slice none 0 0,by rw[HK.out];rfl,by rw[HS.out];exact ze,cy.out⟩
 ·rintro e w1 ⟨vB,vs,rfl,hL,b1⟩
  have cy:=aA b1;obtain⟨c1,c2⟩:=AsN hk;have HC:=aA (Nb vB (Q4 xs dg) w1 (Fu.rd ⟨_,hL⟩));rw[c1,c2]at HC;refine' ZAd;clear c1 c2 hL b1 hk
  refine' ZC;refine' ZBM;refine' ZAm;have ja:=aA (o2.base_ cy.out.size);have gi:=aA (Aa cy.out b2);obtain⟨A2,n2,c2,rfl, -, -, -, -⟩:=o2.rd;clear o2 b2
  refine' ZQ;exact⟨_,by rw[HK.out];rfl,ja.out,gi.out⟩
def G1(n:Int):ByteArray:=if n= -1 then⟨#[]⟩else⟨(Lib.itoa n).toArray⟩
theorem Ai9(n w)(hn:Bj n)(ht:I4 w):
 Calls aB 195 #[.int .i64 n] w fun e w'=>e=.returned (.string ⟨(Lib.itoa n).toArray⟩)∧Below w.heap.size w w':=by refine(Tryz.strconv_Itoa n hn.1 hn.2 w ht).mono ?_;rintro e w' ⟨rfl,k,os,rfl⟩;exact⟨rfl,AfT w k os⟩
theorem Jg(n w)(hn:Bj n)(ht:I4 w):
 Calls aB 120 #[.int .i64 n] w fun e w'=>e=.returned (.string (G1 n))∧Below w.heap.size w w':=by
 have HI:=aA (fun W h=>Ai9 n W hn (ht.on (w':=W) h));by_cases h1:n= -1
 ·subst h1
  go_enter Tryz.func120,Tryz.ntmps120
  refine' ZI;exact z6
 ·have hq:(n== -1)=false:=beq_eq_false_iff_ne.2 h1
  have HT:Hid (G1 n=⟨(Lib.itoa n).toArray⟩):=by show _=_;unfold G1;rw[aL h1]
  clear h1 hn;go_enter Tryz.func120,Tryz.ntmps120
  refine' ZC;refine(HI.out _ (aF _ _)).mono ?_;refine' ZT;refine' ZI;exact⟨B8 HT.out.symm,b1⟩
theorem Yj:J1 0=[]:=by rw[J1]
theorem Ag5:∀n,0<n→∃(b:UInt8) (l:List UInt8),J1 n=b::l∧49≤b.toNat:=fun n=>by
 induction n using Nat.strongRecOn with
 |_ n ih=>
  intro h;rw[I2 h];by_cases h0:n/10=0
  ·refine⟨_,[],by rw[h0,Yj];rfl,?_⟩
   have:n<10:=ZA
   rw[gZ];omega
  ·obtain⟨b,l,e,hb⟩:=ih (n/10) ZA ZA
   exact⟨b,l++[_],by rw[e];rfl,hb⟩
theorem ArH:∀n,Fe (J1 n)=n:=fun n=>by
 induction n using Nat.strongRecOn with
 |_ n ih=>
  by_cases h:n=0
  ·subst h;rw[Yj];rfl
  ·rw[I2 ZA,Il,ih (n/10) ZA,gZ]
   omega
theorem AzZ{l}(h:∀b∈l,48≤b.toNat∧b.toNat≤57):Ea l=true:=by
 unfold Ea;refine List.all_eq_true.2 fun b hb=>?_
 have:=h b hb;exact ZAg
theorem AfV{n}(h:n≤9999):Ic (Cl n)=true∧Hp (Cl n)=(n:Int):=by
 have hz:=C9 h;have hd:Ea (Cl n).data.toList=true:=AzZ (AoP n);have hN:Fe (Cl n).data.toList=n:=by
  show Fe (Pg n)=n;unfold Pg
  split
  ·rename_i h0;subst h0;rfl
  ·exact ArH n
 have hh:∃(b:UInt8) (l:List UInt8),(Cl n).data.toList=b::l∧48≤b.toNat∧(b.toNat=48→l=[]):=by
  show∃(b:UInt8) (l:List UInt8),Pg n=b::l∧48≤b.toNat∧(b.toNat=48→l=[]);unfold Pg
  split
  ·exact⟨48,[],rfl,ZF,fun _=>rfl⟩
  ·obtain⟨b,l,e,hb⟩:=Ag5 n ZA
   exact⟨b,l,e,ZA,fun h=>ZA⟩
 obtain⟨b,l,e,hb,dj⟩:=hh;have qV:Kn (Cl n)=false:=by
  unfold Kn Lib.hasPrefix;rw[e];have:(45==b)=false:=beq_eq_false_iff_ne.2 fun h=>by rw[←h]at hb;exact absurd hb ZF
  simp[List.isPrefixOf,this]
 have ou:Mj (Cl n)=Cl n:=by unfold Mj Lib.trimPrefix;have h2:Lib.hasPrefix (Cl n).data.toList [45]=false:=qV;rw[aL (by rw[h2];simp)]
 have ag:nOk (Cl n) false=true:=by
  unfold nOk;rw[aJ (show(Cl n).size≠0 by omega),aJ (show(Cl n).size≤17 by omega),hd];have h1:(Pu (Cl n)&&(decide (1<(Cl n).size)||false))=false:=by
   unfold Pu;rw[e];by_cases GV:b=48
   ·have hl:=dj (by rw[GV];rfl)
    have hs:(Cl n).size=1:=by
     have:(Cl n).data.toList.length=(Cl n).size:=ZE
     rw[e,hl]at this;exact this.symm
    exact ZBK
   ·have:((b::l).head?==some 48)=false:=by simpa using GV
    rw[this];rfl
  rw[h1];rfl
 unfold Ic Hp N5;rw[ou,qV,ag];refine⟨rfl,?_⟩;rw[aP rfl,aL ZE,hN]
theorem Y7{n c}(h:c.toNat<48∨57<c.toNat):c∉(Cl n).data.toList:=fun m=>by have:=AoP n c m;omega
theorem Ah1{s c}(hs:Ap s=true)(h:c.toNat<48∨57<c.toNat):c∉s.data.toList:=fun m=>by have:=(Cp hs).2 c m;omega
theorem AuE{x}(h1:1≤x.id)(h2:x.id≤9999):Ll (Ja x)=some x:=by obtain⟨n1,n2⟩:=AfV (n:=x.id.toNat) ZA;have hc:E5 58 (Ja x)=some (Cl x.id.toNat,x.code):=At1 (Y7 ZF);rw[AfQ hc n1,n2];obtain⟨i,c⟩:=x;simp only at h1⊢;rw[iS ZA]
theorem Aq1{x}(h:Ap x.code=true){c}(hc:c=32∨c=10):c∉(Ja x).data.toList:=by
 unfold Ja;rw[B6,B6,eC,eC];rintro((m|m)|m)
 ·exact Y7 (by rcases hc with rfl|rfl<;>decide) m
 ·rcases hc with rfl|rfl<;>exact absurd m ZF
 ·exact Ah1 h (by rcases hc with rfl|rfl<;>decide) m
theorem AeF{xs}(h:okB xs=true):∀x∈xs,1≤x.id∧x.id≤9999∧Ap x.code=true:=fun x hx=>by refine' ZAZ;have:=(Ep.1 h).2 k hk;exact⟨this.1,this.2.1,this.2.2.1⟩
theorem AwG{xs}(h:okB xs=true):J7 (xs.map Ja)=xs∧M1 (xs.map Ja)=true:=by
 have jm:∀l:List Ltr,(∀x∈l,1≤x.id∧x.id≤9999∧Ap x.code=true)→J7 (l.map Ja)=l∧M1 (l.map Ja)=true:=fun l=>by
  induction l with
  |nil=>intro _;exact ZV
  |cons x l ih=>
   intro hl;obtain⟨i1,i2⟩:=ih fun y hy=>hl y (bK _ hy)
   have hx:=hl x ZE;have hp:=AuE hx.1 hx.2.1;refine⟨?_,?_⟩
   ·unfold J7 at *
    rw[cD,dV,hp,i1]
   ·unfold M1 at *
    rw[cD,List.all_cons,hp,i2];rfl
 exact jm xs (AeF h)
theorem AzT{xs}(h:okB xs=true)(h0:xs.length≠0):sEq (Co xs) ⟨#[45]⟩=false:=by
 cases hq:sEq (Co xs) ⟨#[45]⟩
 ·rfl
 ·exfalso
  rw[Ec]at hq;obtain⟨x,l,hx⟩:∃x l,xs=x::l:=by
   cases xs with
   |nil=>exact absurd rfl h0
   |cons x l=>exact⟨x,l,rfl⟩
  have hp:=Si (ps:=xs.map Ja) (by rw[hx];simp) fun p hp=>ZOj
  rw[←Oq h h0,hq]at hp;have h1:Aj 32 (⟨#[45]⟩:ByteArray)=[⟨#[45]⟩]:=AtT ZF;rw[h1,hx]at hp;simp only[cD,List.cons.injEq]at hp;have:=aT ByteArray.size hp.1;have h9:=(AeF h x (by rw[hx];simp)).2.2;have h7:=(Cp h9).1;unfold Ja at this;simp only[bG]at this;have e1:(⟨#[45]⟩:ByteArray).size=1:=rfl;omega
theorem BbW{xs}(h:okB xs=true):Mv (Co xs)=true∧pbL (Co xs)=xs:=by
 by_cases h0:xs.length=0
 ·have hx:xs=[]:=bQ h0
  rw[Pp h h0];unfold Mv pbL;have:sEq (⟨#[45]⟩:ByteArray) ⟨#[45]⟩=true:=Ec.2 rfl;rw[this,aP rfl,hx];exact ZV
 ·have hn:=AzT h h0
  have bj:xs.map Ja≠[]:=fun e=>h0 (by have:=aT List.length e;exact zT)
  have hp:Aj 32 (Co xs)=xs.map Ja:=by rw[Oq h h0];exact Si bj fun p hp=>ZOj
  obtain⟨m1,m2⟩:=AwG h;have hs:J5 (Co xs)=true:=by unfold J5 Yu;rw[hp,m1,m2,bF,aJ (Ep.1 h).1,Ec.2 rfl];rfl
  unfold Mv pbL;rw[hn,aL ZE,aP hs,hp,m1,hs];exact ZV
theorem Ui{xs}(h:okB xs=true):1≤(Co xs).size:=by
 by_cases h0:xs.length=0
 ·rw[Pp h h0];decide
 ·rw[Oq h h0]
  exact Uk ZH9 fun p hp=>(Wk h p hp).2
theorem BaV{p}(h:Bq p=true):Ge (E7 p)=true∧Ey (E7 p)=p:=by
 obtain⟨⟨x1,x2,x3,x4⟩,⟨x5,x6⟩,_⟩:=De.1 h;obtain⟨n1,n2⟩:=AfV (n:=p.bins.toNat) ZA;obtain⟨n3,n4⟩:=AfV (n:=p.passes.toNat) ZA;have bj:p.order≠[]:=fun e=>by rw[e]at x5;simp at x5
 have hp:Aj 32 (E7 p)=Cl p.bins.toNat::Cl p.passes.toNat::p.order:=by
  rw[Ov h];have e:Cl p.bins.toNat++⟨#[32]⟩++Cl p.passes.toNat++⟨#[32]⟩++Cg p.order spT=Cl p.bins.toNat++⟨#[32]⟩++(Cl p.passes.toNat++⟨#[32]⟩++Cg p.order spT):=by apply Cv;simp only[B6,bY]
  rw[e,AjC _ (Y7 ZF),AjC _ (Y7 ZF),Si bj fun c hc=>Ah1 (Xx h c hc) ZF]
 have hg:I8 (E7 p)=p:=by unfold I8;rw[hp];show(⟨Hp (Cl p.bins.toNat),Hp (Cl p.passes.toNat),p.order⟩:Pln)=p;rw[n2,n4,iS ZA,iS ZA]
 have ho:Ge (E7 p)=true:=by unfold Ge;rw[hg,h,hp];show((decide (3≤p.order.length+2)&&decide (p.order.length+2≤62))&&((Ic (Cl p.bins.toNat)&&Ic (Cl p.passes.toNat))&&true))=true;rw[n1,n3,aJ (show 3≤p.order.length+2 by omega),aJ (show p.order.length+2≤62 by omega)];rfl
 exact⟨ho,by rw[AhP ho,hg]⟩
theorem Yg(p):(E7 p).size≤500:=by
 cases h:Bq p
 ·rw[AhB h];exact ZZ
 ·obtain⟨⟨x1,x2,x3,x4⟩,⟨x5,x6⟩,_⟩:=De.1 h
  have h1:=Af6 h;have s1:=(C9 (n:=p.bins.toNat) ZA).1;have s2:=(C9 (n:=p.passes.toNat) ZA).1;rw[Ov h];refine' YY;show _+1+_+1+_≤500;omega
def Wb(net:List Ofc)(st c:ByteArray):List ByteArray:=(Cs net st c).1.map (Bw net)
def Qb(net:List Ofc)(st:ByteArray):List ByteArray:=(fpS net st).map (·++⟨#[42]⟩)
theorem AlC{net st c}(h:Na net st c=true):Di net=true∧Ap c=true∧∃q:Nat,Gq net st=q∧∃hq:q<net.length,net[q].name=st:=by unfold Na at h;refine' YS;obtain⟨⟨h1,h2⟩,h3⟩:=h;obtain⟨q,hq⟩:=aQ h2;obtain⟨kI,ot⟩:=Sf hq;exact⟨h1,h3,q,hq,kI,ot⟩
theorem Ye{net st c}(h:Na net st c=true):((Cs net st c).2=0∨(Cs net st c).2=1∨(Cs net st c).2=2)∧(Wb net st c).length≤9∧∀p∈Wb net st c,1≤p.size∧p.size≤8:=by
 obtain⟨h1,h3,q,hq,kI,ot⟩:=AlC h;have e1:=AbM h1 (c:=c) (net.length+1) [] q (Ml kI);have e2:=AkQ h1 (c:=c) (net.length+1) [] q (Ml kI);have e3:=(D1.1 h1).1;unfold Wb;rw[Ab0 h1 hq h3];refine⟨?_,?_,fun p hp=>?_⟩
 ·show(Fc _ _ _ _ _).2=0∨(Fc _ _ _ _ _).2=1∨(Fc _ _ _ _ _).2=2
  omega
 ·refine' za;show(Fc _ _ _ _ _).1.length≤9;omega
 ·obtain⟨i,hi,rfl⟩:=List.mem_map.1 hp
  have pJ:=e1.2.2 i hi;rw[Kl pJ];exact V2 ((D1.1 h1).2 i pJ).1
theorem Ub(net st):(Qb net st).length≤100000000∧(∀p∈fpS net st,p.size≤8)∧∀p∈Qb net st,1≤p.size∧p.size≤9:=by
 have hz:∀p∈fpS net st,p.size≤8:=fun p hp=>by
  unfold fpS at hp
  split at hp
  ·have:=AaQ net _ 8 ⟨#[]⟩ p hp
   have e:(⟨#[]⟩:ByteArray).size=0:=rfl;omega
  ·simp at hp
 refine⟨by unfold Qb;refine' za;exact AsS net st,hz,fun p hp=>?_⟩;unfold Qb at hp;refine' ZCM;have:=hz x hx;refine' ZAk;show 1≤_+1∧_+1≤9;omega
theorem Lm{ps b n}(hl:ps.length≤n)(h:∀p∈ps,p.size≤b):(Cb ps).size≤n*(b+1)+1:=by
 unfold Cb
 split
 ·show 1≤_;omega
 ·have:=Dw ps spT b h
  have h2:ps.length*(b+spT.size)≤n*(b+1):=cC hl (aD _);omega
section
variable{X:World→Prop}
end
theorem AvA(n):1≤(Ar9 n).size∧(Ar9 n).size≤4:=by
 unfold Ar9
 split
 ·decide
 ·split<;>decide
open Go.Sort
def Xj(k:Nat)(xs:List Ltr):List Ltr:=(Bm (Lk k) 10 xs).flatten
def AdI(k:Nat)(ts:List (Ltr×Nat)):List (Ltr×Nat):=(List.range 10).flatMap fun(d:Nat)=>ts.filter fun x=>Lk k x.1==(d:Int)
theorem AtX(k ts):(AdI k ts).map Prod.fst=Xj k (ts.map Prod.fst):=by
 unfold AdI Xj Bm;rw[List.map_flatMap,←List.flatMap_def]
 congr 1
 funext d
 rw[List.filter_map];rfl
def Rk(k:Nat)(x y:Ltr×Nat):Prop:=Lib.compareBytes (x.1.code.data.toList.drop k) (y.1.code.data.toList.drop k)<0∨(x.1.code.data.toList.drop k=y.1.code.data.toList.drop k∧x.2<y.2)
theorem At3{x y k}(hx:Ap x.code=true)(hy:Ap y.code=true)(hk:k<7):
 ∃(a b:UInt8) (_:Lk k x=((a.toNat - 48:Nat):Int)) (_:Lk k y=((b.toNat - 48:Nat):Int)),48≤a.toNat∧a.toNat≤57∧48≤b.toNat∧b.toNat≤57∧x.code.data.toList.drop k=a::x.code.data.toList.drop (k+1)∧y.code.data.toList.drop k=b::y.code.data.toList.drop (k+1):=by
 obtain⟨aw,p1,p2,p3⟩:=Ze hx hk;obtain⟨aq,q1,q2,q3⟩:=Ze hy hk;have l1:k<x.code.data.toList.length:=by simpa using aw
 have l2:k<y.code.data.toList.length:=by simpa using aq
 exact⟨x.code[k],y.code[k],p3,q3,p1,p2,q1,q2,cZ l1,cZ l2⟩
theorem AzX{k x y}(hx:Ap x.1.code=true)(hy:Ap y.1.code=true)(hk:k<7)(he:Lk k x.1=Lk k y.1)(h:Rk (k+1) x y):Rk k x y:=by
 obtain⟨a,b,e1,e2,a1,a2,b1,b2,d1,d2⟩:=At3 hx hy hk;have ou:a=b:=UInt8.toNat_inj.1 (by rw[e1,e2]at he;omega);subst ou;unfold Rk at *;rw[d1,d2];rcases h with h|⟨h,ht⟩
 ·left
  rw[Lib.compareBytes,aL ZE,aL ZE];exact h
 ·right
  exact⟨ZAb,ht⟩
theorem Bb9{k x y}(hx:Ap x.1.code=true)(hy:Ap y.1.code=true)(hk:k<7)(he:Lk k x.1<Lk k y.1):Rk k x y:=by
 obtain⟨a,b,e1,e2,a1,a2,b1,b2,d1,d2⟩:=At3 hx hy hk;have ou:a<b:=by rw[eI];rw[e1,e2]at he;omega
 unfold Rk
 left
 rw[d1,d2,Lib.compareBytes,aP ou];decide
theorem AmU{k ts}(hc:∀x∈ts,Ap x.1.code=true)(hk:k<7)(h:ts.Pairwise (Rk (k+1))):(AdI k ts).Pairwise (Rk k):=by
 unfold AdI;rw[List.pairwise_flatMap];refine⟨fun d _=>?_,?_⟩
 ·rw[List.pairwise_filter]
  refine h.imp_of_mem fun{x y} hx hy hr e1 e2=>?_
  rw[dE]at e1 e2;exact AzX (hc x hx) (hc y hy) hk (e1.trans e2.symm) hr
 ·have hr:(List.range 10).Pairwise (·<·):=List.pairwise_lt_range
  refine hr.imp fun{d e} hde x hx y hy=>?_
  rw[List.mem_filter,dE]at hx hy;exact Bb9 (hc x hx.1) (hc y hy.1) hk (by rw[hx.2,hy.2];omega)
theorem AnX{k ts}(hc:∀x∈ts,Ap x.1.code=true)(hk:k<7):(AdI k ts).Perm ts:=by
 have jm:∀(n:Nat),((List.range n).flatMap fun(d:Nat)=>ts.filter fun x=>Lk k x.1==(d:Int)).Perm (ts.filter fun x=>decide (0≤Lk k x.1)&&decide (Lk k x.1<(n:Int))):=by
  intro n
  induction n with
  |zero=> rw[List.filter_eq_nil_iff.2 fun x _=>zq];simp
  |succ n ih=>
   rw[fK,List.flatMap_append,List.flatMap_singleton];refine(List.Perm.append_right _ ih).trans ?_;clear ih
   induction ts with
   |nil=>exact gN _
   |cons t ts iht=>
    have ih:=iht (fun x hx=>hc x (bK _ hx));simp only[gO];by_cases h1:Lk k t.1=(n:Int)
    ·rw[h1]
     rw[aL ZE,aP ZE,aP ZH];exact(jF).trans (List.Perm.cons _ ih)
    ·by_cases h2:0≤Lk k t.1∧Lk k t.1<(n:Int)
     ·rw[aP ZH,aL ZBS,aP ZH]
      exact List.Perm.cons _ ih
     ·rw[aL ZH,aL ZBS,aL ZH]
      exact ih
 unfold AdI;refine(jm 10).trans ?_;rw[List.filter_eq_self.2 fun x hx=>?_];obtain⟨_,p1,p2,p3⟩:=Ze (hc x hx) hk;rw[p3];exact ZH
def BaT(xs:List Ltr):List Ltr:=Xj 0 (Xj 1 (Xj 2 (Xj 3 (Xj 4 (Xj 5 (Xj 6 xs))))))
theorem BbA{xs}(ag:okB xs=true):BaT xs=E9 xs:=by
 have xW:∀x∈Nw xs,Ap x.1.code=true:=fun x hx=>by refine' ZEa;rw[Y6];exact((Ep.1 ag).2 i (by rw[Oz]at hi;exact hi)).2.2.1
 have h7:(Nw xs).Pairwise (Rk 7):=(AbO xs).imp_of_mem fun{x y} hx hy h=>by refine .inr ⟨?_,h⟩;rw[List.drop_of_length_le (by have:=(Cp (xW x hx)).1;exact ZH),List.drop_of_length_le (by have:=(Cp (xW y hy)).1;exact ZH)]
 have step:∀k ts,k<7→ts.Perm (Nw xs)→ts.Pairwise (Rk (k+1))→(AdI k ts).Perm (Nw xs)∧(AdI k ts).Pairwise (Rk k):=fun k ts hk hp hs=>by
  have hc:∀x∈ts,Ap x.1.code=true:=fun x hx=>xW x (hp.mem_iff.1 hx)
  exact⟨(AnX hc hk).trans hp,AmU hc hk hs⟩
 obtain⟨p6,s6⟩:=step 6 _ ZF (gN _) h7;obtain⟨p5,s5⟩:=step 5 _ ZF p6 s6;obtain⟨p4,s4⟩:=step 4 _ ZF p5 s5;obtain⟨p3,s3⟩:=step 3 _ ZF p4 s4;obtain⟨p2,s2⟩:=step 2 _ ZF p3 s3;obtain⟨p1,s1⟩:=step 1 _ ZF p2 s2;obtain⟨p0,s0⟩:=step 0 _ ZF p1 s1;rw[←Zg p0 (s0.imp fun{x y} h=>?_)]
 ·unfold BaT
  simp only[AtX,Ag6]
 ·unfold Rk at h
  rw[List.drop_zero,List.drop_zero]at h;rw[Y8];rcases h with h|⟨h,ht⟩
  ·left
   exact aJ h
  ·right
   refine⟨?_,ht⟩;show decide (Lib.compareBytes y.1.code.data.toList x.1.code.data.toList<0)=false;rw[h,X0];rfl
theorem AcU(vb xs)(dd:Nat)(w0)(hb:rd w0 w0.heap.size vb xs)(ig:dd<7)(ag:okB xs=true):
 Calls aB 168 #[vb,.int .i64 (dd:Int)] w0 fun e w'=>∃vB vs,e=.returned vB∧Fi 27 119 w0.heap.size w' vB (Bm (Lk dd) 10 xs) vs∧Below w0.heap.size w0 w':=by
 refine' ZBt;subst hn;unfold maxLen at nD;refine' ZAI;refine' ZOa;refine' ZOb;rw[←kA.out]at HF⊢;have II:=aF w0.heap.size w0;go_enter Tryz.func168,Tryz.ntmps168
 refine' ZOc;clear II
 go_loopw[6] (fun i wr=>∃(k:Nat) (vs:List Value),k≤xs.length∧i=.int .i64 k∧Below w0.heap.size w0 wr∧Fi 27 119 w0.heap.size wr (.slice (some ⟨G,0,none⟩) 10 10) (Bm f 10 (xs.take k)) vs) (fun i _=>xs.length - (intOf i).toNat)
 case atStart=> refine⟨0,ov,aM _,rfl,lz,?_⟩;exact ZDI
 case round=>
  refine' ZGo;clear lz ky hB;have gh:=lr.size;by_cases ab:k<xs.length
  ·refine' ZOd;have oG:=c1 w1 lr;have nU:=c2 w1 lr;clear c1 c2;have dz:=aA HB.out;obtain⟨ey,da,ga⟩:∃ey:d<vs.length,own 119 w0.heap.size w1 vs[d] (Bm f 10 (xs.take k))[d]∧apart vs[d] (.slice (some ⟨G,0,none⟩) 10 10):=ZH8
   have jW:w1.cell? ⟨G,d,none⟩=some vs[d]:=Ff dz.out.1 d ey;have r8:w1.frozen? ⟨G,d,none⟩=false:=dz.out.1.freeAt d;refine' ZOe;have jK:G<w1.heap.size:=(dz.out.1.blk G rfl).2;have w1':aI.wrap (bb.toNat:Int)=(bb.toNat:Int):=bI _ ZA;have IJ:aI.wrap ((bb.toNat:Int) - 48)=(d:Int):=ZCU
   refine' ZOf;go_region_law (go_loud ((refine Ce (α:=Ltr) ZG (.tmp 29) (.tmp 34) 27 ZG w0.heap.size 119 i1 _ 24 aV ji dp dq dr rfl ZF (.slice Au zs.length cu) zs x ZG ((jc.out.alloc _).drew) ⟨w1.heap.size,0,none⟩ 1 (Ltr.cells x) ZG ⟨⟨fa,ew⟩,rfl⟩ (Ft w1 _ (Ltr.cells x)) ZN ZA ZH ?_;refine' ZDL)))
   all_goals have fq:Below w1.heap.size w1 (w1.alloc (aC #[bC aI x.id,aK x.code] 119)).drew:=Ag (Ae (aF _ _) _);refine' ZOg;have p4:=Ex (G:=G) (d:=d) (g:=g) (m:=zs.length+1) (cap:=cap) (Ag (Ae lr (aC #[bC aI x.id,aK x.code] 119))) ep (fun j hj=>(jc.out.blk j hj).1) mt;exact ZOh
  ·refine' YD;refine' ZI;have hB:=HB.out;rw[HE.out,aY]at hB;exact⟨_,vs,rfl,hB,lr⟩
theorem AlR(vb xs dg w)(hb:rd w w.heap.size vb xs):
 Calls aB 179 #[vb,.int .i64 dg] w fun e w'=>e=.returned (.bool (Jo xs dg))∧Below w.heap.size w w':=by
 have qr:=aA (C6 vb xs w hb);have pX:=aA (fun W=>D0 dg 0 6 W);have HQ:Hid (Jo xs dg=(okB xs&&(decide (0≤dg)&&decide (dg≤6)))):=by
  show _=_;unfold Jo
  congr 2
  exact decide_eq_decide.2 ⟨fun h=>ZA,fun h=>ZA⟩
 generalize Jo xs dg=q at *;refine' ZBt;clear hr hn hc nD;generalize(decide (0≤dg)&&decide (dg≤6))=r at *;cases hk:okB xs
 ·rw[hk]at qr HQ
  clear hk;go_enter Tryz.func179,Tryz.ntmps179
  go_wp2_with (first|(go_at_call 69;refine qr.out.mono ?_;refine' ZT)|(go_at_call 167;refine(pX.out _).mono ?_;rintro e _ ⟨rfl,rfl⟩))
  go_ret;exact⟨Al HQ.out.symm,b1⟩
 ·rw[hk]at qr HQ
  clear hk;go_enter Tryz.func179,Tryz.ntmps179
  go_wp2_with (first|(go_at_call 69;refine qr.out.mono ?_;refine' ZT)|(refine' ZF8))
  go_ret;exact⟨Al HQ.out.symm,b1⟩
theorem Xa(vb xs dg w)(hb:rd w w.heap.size vb xs):
 Calls aB 98 #[vb,.int .i64 dg] w fun e w'=>∃v',e=.returned (.tuple #[v',.bool (Jo xs dg)])∧own 119 w.heap.size w' v' (spL xs dg)∧Below w.heap.size w w':=by
 have HV:=aA hb;have MA:=aA (AlR vb xs dg w hb);refine' ZBt;clear hr hn hc nD;go_enter Tryz.func98,Tryz.ntmps98;cases hk:Jo xs dg
 ·have HS:=aA (AxR hk)
  rw[hk]at MA;clear hk
  go_wp2_with (go_at_call 179;refine MA.out.mono ?_;refine' ZT)
  go_ret2;exact⟨_,rfl,by rw[HS.out];exact own.made0 _ _ b1.size,b1.alloc b1.size _⟩
 ·have HS:=aA (AmT hk)
  have su:=AmM hk;obtain⟨dd,rfl⟩:=aQ su.2.1;rw[hk]at MA;have hBN:=aA (fun W (hW:Below w.heap.size w W)=>AcU _ xs dd W (HV.out.on hW) ZA su.1);have jU:Hid ((Bm (Lk dd) 10 xs).flatten.length≤60):=by show _≤_;have h1:=Cq (Lq (Lk dd) 10 su.1);exact h1
  rw[bE]at HS;generalize Bm (Lk dd) 10 xs=uS at *;clear hk su
  go_wp2_with (go_at_call 179;refine MA.out.mono ?_;refine' ZT)
  refine(hBN.out _ b1).mono ?_;rintro e w2 ⟨vB,vs,rfl,hB,b2⟩;have HC:=aA (Im vB uS w2 (Fu.rd ⟨_,hB⟩) (by have:=jU.out;omega));have gi:=aA (Aa b1 b2);obtain⟨A2,n2,c2,rfl, -, -, -, -⟩:=hB.1.rd;clear hB b1 b2
  refine' ZC;refine' ZBM;refine' ZSd;exact⟨_,rfl,by rw[HS.out];exact fg.out,j7.out⟩
def Aq6(xs:List Ltr):Nat→List Ltr
 |0=>xs
 |n+1=>Xj (6 - n) (Aq6 xs n)
theorem AwK(xs):Aq6 xs 7=BaT xs:=rfl
theorem AsZ{xs}(h:okB xs=true):∀n,okB (Aq6 xs n)=true
 |0=>h
 |n+1=>Lq _ _ (AsZ h n)
theorem AnY{w:World}{g}{T:TypeId}(h:w.heap[g]? =some (.cells #[.int .i64 0,.int .i64 1,.int .i64 2,.int .i64 3,.int .i64 4,.int .i64 5,.int .i64 6] T (0,0))):∀j,j<7→w.cell? ⟨g,j,none⟩=some (.int .i64 (j:Int)):=by
 intro j hj;have hc:j=0∨j=1∨j=2∨j=3∨j=4∨j=5∨j=6:=ZA
 rcases hc with rfl|rfl|rfl|rfl|rfl|rfl|rfl<;>(exact ZBH)
theorem AoM(vb xs D w)(hb:rd w w.heap.size vb xs)(ag:okB xs=true)(hD:w.heap[D]? =some (.cells #[.int .i64 0,.int .i64 1,.int .i64 2,.int .i64 3,.int .i64 4,.int .i64 5,.int .i64 6] 3 (0,0))):
 Calls aB 71 #[vb,.slice (some ⟨D,0,none⟩) 7 7] w fun e w'=>∃v',e=.returned v'∧own 119 w.heap.size w' v' (BaT xs)∧Below w.heap.size w w':=by
 have HV:=aA hb;have kl:=Cq ag;have pE:=aA (fun n=>AsZ ag n);refine' ZBt;subst hn;refine' zv;have xN:Hid (own (α:=Ltr) 119 w.heap.size (w.alloc (aC #[] 119)) (.slice (some ⟨w.heap.size,0,none⟩) 0 0) []):=own.made0 w _ (aD _);have la:Below w.heap.size w (w.alloc (aC #[] 119)):=Ae (aF _ _) _;have yV:=aA (HV.out.on la);have hDl:D<w.heap.size:=(Array.getElem?_eq_some_iff.1 hD).1;have tL:=aA hD;clear hr hD ag;go_enter Tryz.func71,Tryz.ntmps71
 go_wp2_with (at_builtin;refine Cu (α:=Ltr) rfl (.tmp 7) (.tmp 8) 27 rfl w.heap.size 119 i1 _ 24 aV ji dp dq dr rfl ZF (.slice (some ⟨w.heap.size,0,none⟩) 0 0) [] rfl xN.out (.slice A xs.length cp) xs rfl (w.alloc (aC #[] 119)).heap.size yV.out ZDG ZH la.size ?_;intro v' w3 nQ sM _)
 have b3:Below w.heap.size w w3:=la.trans (Ay xN.out sM la.size);rw[bV]at nQ;obtain⟨A3,n3,c3,rfl,pz, -, -, -⟩:=nQ.rd;subst pz;have fg:=aA nQ;have dz:=aA b3;clear nQ sM b3 la
 go_loopw[5,6] (fun t i wr=>∃(j:Nat),j≤7∧i=.int .i64 (6 - (j:Int))∧Below w.heap.size w wr∧own 119 w.heap.size wr t (Aq6 xs j)) (fun _ i _=>(intOf i+1).toNat)
 case atStart=>exact⟨0,aM _,rfl,dz.out,fg.out⟩
 case round=>
  obtain⟨j,hj,rfl,lr,hO⟩:=hrel;refine' ZIT;have HO:=aA hO;obtain⟨A4,n4,c4,rfl,QZ, -, -, -⟩:=hO.rd;subst QZ;clear hO fg dz;by_cases ab:j<7
  ·have y1:=AnY ((lr.block D hDl).trans tL.out) (6 - j) ZA
   have tO:=aA (AcU _ (Aq6 xs j) (6 - j) w4 HO.out.rd ZA (pE.out j));have HS:Hid ((Bm (Lk (6 - j)) 10 (Aq6 xs j)).flatten=Aq6 xs (j+1)):=rfl;have jU:=aA (Cq (pE.out (j+1)));rw[←HS.out]at jU;have wH:6 - (j:Int)<7:=ZA
   have hnat:(6 - (j:Int)).toNat=6 - j:=ZA
   have IK:((6 - j:Nat):Int)=6 - (j:Int):=ZA
   rw[IK]at y1 tO;generalize Bm (Lk (6 - j)) 10 (Aq6 xs j)=uS at *
   refine' ZC;refine tO.out.mono ?_;rintro e w5 ⟨vB,vs,rfl,hB,b5⟩;have HC:=aA (Im vB uS w5 (Fu.rd ⟨_,hB⟩) (by have:=jU.out;omega));have DR:=aA (lr.trans (b5.mono lr.size));obtain⟨A2,n2,c2,rfl, -, -, -, -⟩:=hB.1.rd;clear hB b5
   refine' ZC;refine' ZBM;rintro e w6 ⟨v6,rfl,o6,b6⟩;have pP:=aA (o6.base_ DR.out.size);have HL6:=aA (DR.out.trans (b6.mono DR.out.size));obtain⟨A6,n6,c6,rfl, -, -, -, -⟩:=o6.rd;clear o6 b6;have hw:aI.wrap (6 - (j:Int) - 1)=6 - ((j+1:Nat):Int):=ZCU
   refine' ZC;go_roundw
   case rel=>exact⟨j+1,ZA,by first|go_num|(congr 1;omega),HL6.out,by rw[←HS.out];exact pP.out⟩
   case measure=>exact ZK
  ·have hj7:j=7:=ZA
   subst hj7;refine' ZI;exact⟨_,rfl,by rw[←AwK];exact HO.out,lr⟩
theorem AhF(vb xs w)(hb:rd w w.heap.size vb xs)(ag:okB xs=true):
 Calls aB 24 #[vb] w fun e w'=>∃v',e=.returned (.tuple #[v',.bool true])∧own 119 w.heap.size w' v' (E9 xs)∧Below w.heap.size w w':=by
 have HV:=aA hb;have qr:=aA (C6 vb xs w hb);rw[ag]at qr;have rJ:=aA (BbA ag);refine' ZAN;refine' ZBt;clear hr hn hc nD ag;go_enter Tryz.func24,Tryz.ntmps24
 refine' ZC;refine qr.out.mono ?_;refine' ZT;obtain⟨w2,qE⟩:∃w2:World,w2=w1.alloc (aC #[.int .i64 0,.int .i64 1,.int .i64 2,.int .i64 3,.int .i64 4,.int .i64 5,.int .i64 6] 3):=⟨_,rfl⟩;have hD:w2.heap[w1.heap.size]? =some (.cells #[.int .i64 0,.int .i64 1,.int .i64 2,.int .i64 3,.int .i64 4,.int .i64 5,.int .i64 6] 3 (0,0)):=by rw[qE];exact bD w1 _
 have l2:Below w.heap.size w w2:=by rw[qE];exact b1.alloc b1.size _
 have HS:=aA (AoM _ xs w1.heap.size w2 (HV.out.on l2) ee.out hD);have gi:=aA l2;have mJ:=aA qE;clear qE hD l2 b1
 refine' ZC;rw[←mJ.out];refine HS.out.mono ?_;refine' ZSd;exact⟨_,rfl,by rw[←rJ.out];exact fg.out,j7.out⟩
end Go.Proofs.YtfadhdacjpmmeaaGreatDoor
