/- Parts. -/
import Derived.Test.YtfadhdacjpmmeaaGreatDoorQ22
set_option linter.unusedVariables false
set_option linter.unusedSimpArgs false
namespace Go.Proofs.YtfadhdacjpmmeaaGreatDoor
set_option maxRecDepth 100000
set_option maxHeartbeats 3200000
open Go.IntKind renaming i64→aI
open Go.Obj renaming cells→aC
open Go.Proofs.Tryz renaming prog→aB
open Go.Value renaming string→aK,int→bC
open Go.RowKit
theorem Aw7{p xs}(h:M4 p xs=true):F5 p xs=(xs.length:Int) - AgR p xs:=by
 have e:Jh p xs=AgR p xs:=by unfold Jh;rw[aP (by exact h)]
 unfold F5;rw[e,aL ZA]
open Go.RowKit Go.Shelf
attribute [local go_sem] Oper.semAt_some
theorem Tryz.infoFo:(aB.info? 128).map (fun i=>(i.zero,i.size,i.bytes))=some (some (.agg #[.string ⟨#[]⟩,.string ⟨#[]⟩]),2,32):=ZB
def Ks(t:ByteArray):Bool:=Ko (Aj 32 t)&&decide ((Aj 32 t).length≤30)&&Be (Fx (Aj 32 t))
def Tf(t:ByteArray):Bool:=sEq t ⟨#[45]⟩||Ks t
def pfF(t:ByteArray):List Fwd:=if sEq t ⟨#[45]⟩then []else if Ks t then Fx (Aj 32 t)else []
def pfI(h:Nat)(w0:World)(B:Nat)(pre:List ByteArray)(W:World):Prop:=
 (∃v,Boxed W (h+1+1) 31 v∧own 128 B W v (Fx pre))∧B≤W.heap.size∧Ko pre=true∧pre.length≤30∧Boxed W h 31 (.slice none 0 0)∧Boxed W (h+1) 4 (.bool false)∧Below h w0 W
def pfX(h:Nat)(w0:World)(pre:List ByteArray)(W:World):Prop:=
 (Ko pre=false∨30<pre.length)∧Boxed W h 31 (.slice none 0 0)∧Boxed W (h+1) 4 (.bool false)∧Below h w0 W
theorem AuC{h B z w0}(hz:h+1+1<z)(uM:z<B)(hs:h≤w0.heap.size):Pw B z (pfI h w0 B):=ZHq
theorem AvZ{h B z w0}(hz:h+1+1<z)(uM:z<B)(hs:h≤w0.heap.size):Pw B z (pfX h w0):=ZE1
theorem Yi(t w)(ht:t.size≤maxLen):
 Calls aB 137 #[.string t] w fun e w'=>∃v',e=.returned (.tuple #[v',.bool (Tf t)])∧own 128 w.heap.size w' v' (pfF t)∧Below w.heap.size w w':=by
 refine' ZE2;refine callsIn_of_wp_marks Tryz.func137 rfl trivial ?_ rfl;simp only[Tryz.ntmps137,dP,bZ,cK,Nat.reduceAdd,Nat.reduceSub,gA,gB,iH,gM,bV,dB];by_cases ci:sEq t ⟨#[45]⟩=true
 ·refine' ZOE;refine' ZE3;gi_wp2
  refine⟨.tuple #[.slice none 0 0,.bool true],by simp[results,Tryz.results137,go_sem],_,by rw[HO.out],ZDi,?_⟩;exact ZHr
 ·refine' ZE4;have HO:Hid (Tf t=Ks t):=by show _=_;unfold Tf;rw[eY]at ci;rw[ci];rfl
  have HR:Hid (pfF t=if Ks t then Fx (Aj 32 t)else []):=by show _=_;unfold pfF;rw[aL ci]
  clear ci;have HS:=fun W=>Kh t 32 W
  have b0:=((Boxed.new w 31 (.slice none 0 0)).alloc (aC #[.bool false] 4)).alloc (aC #[.slice none 0 0] 31);have b1:=(Boxed.new (w.alloc (aC #[.slice none 0 0] 31)) 4 (.bool false)).alloc (aC #[.slice none 0 0] 31);have b2:=Boxed.new ((w.alloc (aC #[.slice none 0 0] 31)).alloc (aC #[.bool false] 4)) 31 (.slice none 0 0);have l3:Below w.heap.size w (((w.alloc (aC #[.slice none 0 0] 31)).alloc (aC #[.bool false] 4)).alloc (aC #[.slice none 0 0] 31)):=(((aF _ w).alloc (aD _) _).alloc ZE _).alloc ZH _;refine' ZE5;have ft:(((w.alloc (aC #[.slice none 0 0] 31)).alloc (aC #[.bool false] 4)).alloc (aC #[.slice none 0 0] 31)).heap.size=w.heap.size+1+1+1:=ZE
  generalize(((w.alloc (aC #[.slice none 0 0] 31)).alloc (aC #[.bool false] 4)).alloc (aC #[.slice none 0 0] 31))=w3 at *;rw[ft]at ay yU;have x0:Boxed w6 (w.heap.size) 31 (.slice none 0 0):=(mS.block _ ZA).trans B0.out;refine' ZE6;have x2:Boxed w6 (w.heap.size+1+1) 31 (.slice none 0 0):=(mS.block _ ZA).trans B2.out;refine' ZE7;obtain⟨i0,hi,uQ,jO,kP⟩:=eA Tryz.infoFo;refine Pz (F:=Fence.wide) (n:=9) rfl ZA (gf:=286) (lb:=#[.pointer (some ⟨w.heap.size+1+1+1+1,0,none⟩),.pointer (some ⟨w.heap.size+1+1+1,0,none⟩),.pointer (some ⟨w.heap.size+1+1+1+2,0,none⟩)]) rfl trivial (iC Tryz.func286 ZB rfl)
   (Te 8 (w.heap.size+1+1+1) ZA 32 t w6 ay ht) (fun k hk=>zW) ZA (fun _=>rfl)
   (pfI w.heap.size w w6.heap.size) (pfX w.heap.size w) (AuC ZA ZA (aD _)) (AvZ ZA ZA (aD _))
   ⟨⟨_,x2,own.nil_ _ _ _⟩,aD _,rfl,aM _,x0,x1,l6⟩
   (fun x=>{tmps:=#[.string t,undef,.pointer (some ⟨w.heap.size,0,none⟩),.pointer (some ⟨w.heap.size+1,0,none⟩),.pointer (some ⟨w.heap.size+1+1,0,none⟩),.string x,undef,undef,undef,.string t,.bool false,.string t,.func (.func 286) #[] #[.pointer (some ⟨w.heap.size+1+1+1+1,0,none⟩),.pointer (some ⟨w.heap.size+1+1+1,0,none⟩),.pointer (some ⟨w.heap.size+1+1+1+2,0,none⟩)],.string x,undef,undef,undef,undef,undef,undef,undef,undef,undef,undef,undef,undef,undef,undef,undef,undef,undef,undef,undef,undef,undef,undef,undef],defers:=[]}) ?assign ?body ?done ?stop
  case assign=>
   intro l x W K hK
   gi_wp2
   exact hK
  case body=>
   refine' ZOF
   ·refine' ZOG;by_cases qv:m=30
    ·have qN:((m:Int)==30)=true:=by simp[qv]
     have HL:Hid (30<(pre++[x]).length):=by show _<_;refine' ZAY;show 30<pre.length+1;omega
     clear qv hm bv qM
     gi_wp2_with (refine' ZBs;refine' ZFB)
     exact ZFC
    ·have qN:((m:Int)==30)=false:=beq_eq_false_iff_ne.2 ZA
     have FS:(Fx pre).length≤29:=ZA
     have kV:Hid (pre.length≤29):=ZA8
     refine' ZOH;gi_wp2_with (first|refine' ZHu|(gi_at_builtin;refine M7 (α:=Fwd) rfl (.tmp 27) (.tmp 31) 31 rfl w6.heap.size 128 i0 _ 32 dX hi uQ jO kP rfl ZF (.slice A m cp) (Fx pre) ⟨p,q⟩ rfl (o2.alloc _) ⟨W2.heap.size,0,none⟩ 1 (Fwd.cells ⟨p,q⟩) rfl ⟨HY.out,rfl⟩ (Bz W2 _ (Fwd.cells ⟨p,q⟩)) ZN ZA ZH ?_;refine' ZHv))
     refine' ZHw;have tN:KeepsOthers W (w5.setCell ⟨w.heap.size+1+1,0,none⟩ (.slice A5 n5 c5)):=(((Cr hb).trans (KeepsOthers.alloc W2 _)).trans (KeepsOthers.of_grownBy ap fun j o ej hj=>by obtain⟨o',h1,h2⟩:=Hn (o2.alloc (aC #[.string p,.string q] 128)) ej;exact ZFD)).trans (KeepsOthers.setCell _ _ _)
     refine⟨tN,fun k hk=>oW k zW zW,⟨_,u2.set _,?_⟩,?_,?_,?_,?_,?_,?_⟩
     ·rw[V6 HP.out]
      exact ZHx
     exact ZFE
     ·rw[Rc,cw,HP.out];rfl
     ·have:=kV.out;refine' ZAY;show pre.length+1≤30;omega
     exact ZFF
     ·exact ZFG
     exact ZHy
  case done=>
   refine' ZHz;have ic:Ks t=Be (Fx (Aj 32 t)):=by unfold Ks;rw[cw,aJ bn];rfl
   refine' ZFH;have HV:=Dj (.slice A m cp) (Fx (Aj 32 t)) W ho.rd;refine' ZFI;cases i7:Be (Fx (Aj 32 t))
   ·refine' ZCa;gi_wp2_with (refine' YH;gi_at_call 204;refine' ZBJ)
    refine' ZFJ;exact ZOI
   ·refine' ZCa;gi_wp2_with (refine' YH;gi_at_call 204;refine' ZBJ)
    refine' ZH0;refine⟨.tuple #[.slice A m cp,.bool true],ZOJ,_,ZCZ,ZH1,mT⟩
  case stop=>
   refine' ZFK;have ic:Ks t=false:=by
    unfold Ks;rcases am with h|h
    ·rw[P8 kL h];rfl
    ·have:=kL.length_le
     exact ZBK
   refine' ZFL;exact ZOI
end Go.Proofs.YtfadhdacjpmmeaaGreatDoor
