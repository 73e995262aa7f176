/- Parts. -/
import Derived.Test.YtfadhdacjpmmeaaGreatDoorQ2
import Derived.Test.YtfadhdacjpmmeaaGreatDoorQ3
set_option linter.unusedVariables false
set_option linter.unusedSimpArgs false
namespace Go.Proofs.YtfadhdacjpmmeaaGreatDoor
set_option maxRecDepth 100000
set_option maxHeartbeats 1600000
open Go.IntKind renaming i64→aI
open Go.Obj renaming cells→aC
open Go.Proofs.Tryz renaming prog→aB
open Go.Value renaming string→aK,int→bC
open Go.RowKit Go.Shelf
attribute [local go_sem] Oper.semAt_some
def spl(c:UInt8):List UInt8→List (List UInt8)
 |[]=>[[]]
 |b::s=>if b=c then []::spl c s else
  match spl c s with
  |[]=>[[b]]
  |p::ps=>(b::p)::ps
theorem AcF(c s):spl c s≠[]:=by
 cases s with
 |nil=>simp[spl]
 |cons b s=>
  unfold spl
  split
  ·simp
  ·split<;>simp
theorem AcG(c s):spl c (c::s)=[]::spl c s:=by
 conv=>lhs;unfold spl
 rw[aP rfl]
theorem Nk{b c}(h:b≠c){s p ps}(hs:spl c s=p::ps):spl c (b::s)=(b::p)::ps:=by
 conv=>lhs;unfold spl
 rw[aL h,hs]
theorem Rw(b c s):Lib.indexByte (b::s) c=if b=c then 0 else if Lib.indexByte s c= -1 then -1 else Lib.indexByte s c+1:=by show(if b==c then 0 else if Lib.indexByte s c== -1 then -1 else Lib.indexByte s c+1)=_;simp only[dE]
theorem AhH{c}:∀{s:List UInt8},Lib.indexByte s c<0→spl c s=[s]
 |[],_=>rfl
 |b::s,h=>by
  rw[Rw]at h;have hg:=Lib.indexByte_ge s c
  split at h
  ·omega
  ·rename_i hb
   have h2:Lib.indexByte s c<0:=by split at h<;>omega
   exact Nk hb (AhH h2)
theorem Mr{c}:∀{s:List UInt8} {i:Nat},Lib.indexByte s c=(i:Int)→spl c s=s.take i::spl c (s.drop (i+1))∧i<s.length
 |[],i,h=>by have:(-1:Int)=(i:Int):=h;omega
 |b::s,i,h=>by
  rw[Rw]at h;have hg:=Lib.indexByte_ge s c
  split at h
  ·rename_i hb
   have e:i=0:=ZA
   subst e hb;rw[AcG];exact⟨rfl,ZE⟩
  ·rename_i hb
   refine' ZQQ;obtain⟨h2,h3⟩:=Mr h1;rw[Nk hb h2];exact⟨rfl,ZH⟩
def Ai6(b:Nat)(c:UInt8)(s:ByteArray)(w:World):Prop:=
 w.cell? ⟨b,0,none⟩=some (.string s)∧w.frozen? ⟨b,0,none⟩=false∧w.cell? ⟨b+1,0,none⟩=some (.string ⟨#[c]⟩)∧w.cell? ⟨b+2,0,none⟩=some (.int .i64 0)
theorem Qs{w w':World}{k}(h:w'.heap[k]? =w.heap[k]?)(i):w'.cell? ⟨k,i,none⟩=w.cell? ⟨k,i,none⟩:=by simp[World.cell?,h]
theorem Ae3{w w':World}{k}(h:w'.heap[k]? =w.heap[k]?)(i):w'.frozen? ⟨k,i,none⟩=w.frozen? ⟨k,i,none⟩:=ZAt
theorem Ai6.same{b c s w w'}(h:Ai6 b c s w)(hs:∀k∈[b,b+1,b+2],w'.heap[k]? =w.heap[k]?):Ai6 b c s w':=by refine' ZCk;have e0:=hs b ZE;have e1:=hs (b+1) ZE;have e2:=hs (b+2) ZE;exact⟨(Qs e0 0).trans h1,(Ae3 e0 0).trans h2,(Qs e1 0).trans h3,(Qs e2 0).trans h4⟩
theorem Ai6.set{b c s w}(h:Ai6 b c s w)(t):Ai6 b c t (w.setCell ⟨b,0,none⟩ (.string t)):=by
 refine' ZCk;refine⟨World.cell?_setCell_same' _ _ _ (by rw[h1];rfl),by rw[World.frozen?_setCell];exact h2,?_,?_⟩
 ·rw[fZ _ _ _ _ ZE];exact h3
 ·rw[fZ _ _ _ _ ZE];exact h4
def Aj(c:UInt8)(s:ByteArray):List ByteArray:=(spl c s.data.toList).map fun l=>⟨l.toArray⟩
theorem Te(n b)(hn:1≤n)(c s w)(hw:Ai6 b c s w)(hs:s.size≤maxLen):
 BbH Fence.wide n aB 286 #[.pointer (some ⟨b+1,0,none⟩),.pointer (some ⟨b,0,none⟩),.pointer (some ⟨b+2,0,none⟩)] (fun x:ByteArray=>#[.string x]) (fun x=>x.size≤maxLen) (fun xs=>xs=Aj c s) (fun pre=>pre<+:Aj c s) (Aj c s).length b [b,b+1,b+2] w:=by
 intro l J Jx hJ hJx hY W ct hC h0;have ST:=hw.same hC;clear hC hw;refine callsIn_of_wp Tryz.func286 rfl trivial ?_ rfl;simp only[Tryz.ntmps286,dP,bZ,cK,Nat.reduceAdd,Nat.reduceSub,gA,gB,iH,gM,bV,dB];obtain⟨g1,g2,g3,g4⟩:=ST
 gi_wp2
 have ST:Ai6 b c s W:=⟨g1,g2,g3,g4⟩
 gi_loopw [7,8] (fun _ _ wr=>∃(pre:List ByteArray) (rest:ByteArray),Ai6 b c rest wr∧Aj c s=pre++Aj c rest∧J pre wr∧rest.size≤maxLen) (fun _ _ wr=>match wr.cell? ⟨b,0,none⟩with|some (.string t)=>t.size|_=>0)
 case atStart=>exact⟨[],s,ST,rfl,h0,hs⟩
 case round=>
  obtain⟨pre,rest,ay,hp,hj,hr⟩:=hrel;have xX:=ay;obtain⟨g1,g2,g3,g4⟩:=ay;have jt:=Tryz.strings_Index_one rest c wr;by_cases az:Lib.indexByte rest.data.toList c<0
  ·have xY:Aj c rest=[rest]:=by unfold Aj;rw[AhH az];rfl
   have bn:pre.length<(Aj c s).length:=by rw[hp,xY];simp
   obtain⟨fn,tmps,assign,body,hy,hR⟩:=hY pre rest wr hj bn hr
   (try dsimp only at hy)
   rw[xY]at hp
   refine' ZRP;rintro e W' (⟨rfl,SU,_⟩|⟨rfl,BZ⟩)
   ·gi_wp2
    go_end0
    exact⟨⟨_,rfl⟩,.inl ⟨_,rfl,by rw[hp];exact SU⟩⟩
   ·gi_wp2
    go_end0
    exact⟨⟨_,rfl⟩,.inr ⟨_,by rw[hp];exact List.prefix_rfl,BZ⟩⟩
  ·obtain⟨i,hi⟩:∃i:Nat,Lib.indexByte rest.data.toList c=(i:Int):=⟨(Lib.indexByte rest.data.toList c).toNat,ZA⟩
   obtain⟨gh,iu⟩:=Mr hi;have nZ:i<rest.size:=by simpa using iu
   have uu:Aj c rest=rest.extract 0 i::Aj c (rest.extract (i+1) rest.size):=by
    unfold Aj;rw[gh,cD];have e1:(⟨(rest.data.toList.take i).toArray⟩:ByteArray)=rest.extract 0 i:=by apply ByteArray.ext;refine' ZBr;apply Array.ext';simp
    have e2:rest.data.toList.drop (i+1)=(rest.extract (i+1) rest.size).data.toList:=by refine' ZBr;simp;exact(bA (by rw[dO];exact eJ (aT (fun z=>z - (i+1)) (by rw[gL];rfl)))).symm
    rw[e1,e2]
   rw[hi]at jt;have bn:pre.length<(Aj c s).length:=by rw[hp,uu];simp
   obtain⟨fn,tmps,assign,body,hy,hR⟩:=hY pre (rest.extract 0 i) wr hj bn zc
   (try dsimp only at hy)
   unfold maxLen at hr;have w1:aI.wrap ((i:Int)+0)=(i:Int):=by rw[Int.add_zero];exact bI _ ZA
   have w2:aI.wrap ((i:Int)+1)=(i:Int)+1:=bI _ ZA;have AJ:(i:Int)≤(rest.size:Int):=ZA
   have kP:((i:Int)+1).toNat=i+1:=ZA
   refine' ZRP;rintro e W' (⟨rfl,SU,hsz',fu⟩|⟨rfl,BZ⟩)
   ·have cx:=xX.same fu
    have xZ:=cx;obtain⟨k1,k2,k3,k4⟩:=cx;clear g1 g2 g3 g4
    gi_wp2
    go_roundw
    case rel=> refine⟨pre++[rest.extract 0 i],rest.extract (i+1) rest.size,xZ.set _,by rw[hp,uu];simp,hJ _ _ _ _ SU (grownBy_setCell' W' b _) (fun r e=>by cases e;rfl),by unfold maxLen;exact zc⟩
    case measure=> have e1:(W'.setCell ⟨b,0,none⟩ (.string (rest.extract (i+1) rest.size))).cell? ⟨b,0,none⟩=some (.string (rest.extract (i+1) rest.size)):=(xZ.set _).1;have e2:=xX.1;simp only[e1,e2];exact zc
   ·gi_wp2
    refine bodyPost_ret (results_none rfl _ _ _) rfl ?_;exact⟨⟨_,rfl⟩,.inr ⟨pre++[rest.extract 0 i],by rw[hp,uu];exact⟨Aj c (rest.extract (i+1) rest.size),ZE⟩,BZ⟩⟩
theorem Kh(s c w):
 Calls aB 134 #[.string s,.string ⟨#[c]⟩] w fun e w'=>e=.returned (.func (.func 286) #[] #[.pointer (some ⟨w.heap.size+1,0,none⟩),.pointer (some ⟨w.heap.size,0,none⟩),.pointer (some ⟨w.heap.size+2,0,none⟩)])∧
  Ai6 w.heap.size c s w'∧Below w.heap.size w w'∧w'.heap.size=w.heap.size+3:=by
 have h1:Calls aB 218 #[.string s,.string ⟨#[c]⟩,.int .i64 0] w fun e w'=>e=.returned (.func (.func 286) #[] #[.pointer (some ⟨w.heap.size+1,0,none⟩),.pointer (some ⟨w.heap.size,0,none⟩),.pointer (some ⟨w.heap.size+2,0,none⟩)])∧
  w'=((w.alloc (.cells #[.string s] 9)).alloc (.cells #[.string ⟨#[c]⟩] 9)).alloc (.cells #[.int .i64 0] 3):=by go_enter Tryz.func218,Tryz.ntmps218;refine' ZO;exact ZV
 go_enter Tryz.func134,Tryz.ntmps134
 go_wp2_with (go_at_call 218;refine h1.mono ?_;refine' zN)
 go_ret;have b0:=((Boxed.new w 9 (.string s)).alloc (.cells #[.string ⟨#[c]⟩] 9)).alloc (.cells #[.int .i64 0] 3);have b1:=(Boxed.new (w.alloc (.cells #[.string s] 9)) 9 (.string ⟨#[c]⟩)).alloc (.cells #[.int .i64 0] 3);have b2:=Boxed.new ((w.alloc (.cells #[.string s] 9)).alloc (.cells #[.string ⟨#[c]⟩] 9)) 3 (.int .i64 0);rw[iQ]at b1 b2;rw[iQ]at b2;exact⟨rfl,⟨b0.cell,b0.frozen,b1.cell,b2.cell⟩,(((aF _ w).alloc (aD _) _).alloc ZE _).alloc ZH _,ZE⟩
end Go.Proofs.YtfadhdacjpmmeaaGreatDoor
