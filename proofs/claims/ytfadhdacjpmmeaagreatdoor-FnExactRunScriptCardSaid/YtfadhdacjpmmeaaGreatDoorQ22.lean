/- Parts. -/
import Derived.Test.YtfadhdacjpmmeaaGreatDoorQ19
import Derived.Test.YtfadhdacjpmmeaaGreatDoorQ21
set_option linter.unusedVariables false
set_option linter.unusedSimpArgs false
namespace Go.Proofs.YtfadhdacjpmmeaaGreatDoor
set_option maxRecDepth 100000
set_option maxHeartbeats 3200000
open Go.IntKind renaming i64→aI
open Go.Obj renaming cells→aC
open Go.Proofs.Tryz renaming prog→aB
open Go.Value renaming string→aK,int→bC
open Go.RowKit Go.Shelf
attribute [local go_sem] Oper.semAt_some
theorem M7{α:Type}[Flat α]{F n P w ops rest o a}{Q:Exit→Act→World→Prop}(mw:o.guard=none)(s x:Operand)(t:TypeId)
 (ho:o.op=.call {callee:=.builtin .append,args:=#[s,x],argTypes:=#[t,t]})
 (base) (e:TypeId) (i:TypeInfo) (z bytes) (ht:P.underlying t=some (.slice e)) (hi:P.info? e=some i) (hz:i.zero=some z)
 (cj:i.size=El.size α) (nP:i.bytes=bytes) (fx:z.cells.size=El.size α) (ct:0<El.size α)
 (v xs) (y:α) (hs:a.eval s=v) (fc:own e base w v xs)
 (ad c cs) (hx:a.eval x=.slice (some ad) 1 c) (kY:El.el w w.heap.size y cs) (eo:∀j u,cs[j]? =some u→w.cell? (ad.add j)=some u)
 (nG:xs.length+1≤maxLen) (cv:(xs.length+1)*bytes≤140737488355328) (du:base≤w.heap.size)
 (h:∀v' w',own e base w' v' (xs++[y])→w.grownBy w' v.ownBlock→wpListIn F n P ops Q rest (a.put o.dst v') w'):wpListIn F n P ops Q (o::rest) a w:=by refine' ZCg;refine wpListIn_append_own (F:=F) (n:=n) w mw s x t ho base e i z (El.size α) bytes ht hi hz cj nP fx ct v xs.length gg.flatten hs jL ad 1 c cs hx ZFZ eo (El.one kY) nG cv du ?_;intro v' w' h2 h3 _;refine h v' w' ⟨gg++[cs],ZCG,ZBP,fun k h1 h2=>?_⟩ h3;exact ZDu
theorem Hn{α:Type}[El α]{T base:Nat}{w v}{xs:List α}(h:own T base w v xs){k}(hk:v.ownBlock=some k):∃o:Obj,w.heap[k]? =some o∧o.isCells=true:=by
 refine' ZQL
 ·injection hk with hk
  subst hk;exact⟨_,hh,rfl⟩
def K7(x:ByteArray):Option Fwd:=(E5 62 x).map fun p=>⟨p.1,p.2⟩
def Ko(ps:List ByteArray):Bool:=ps.all fun x=>(K7 x).isSome
def Fx(ps:List ByteArray):List Fwd:=ps.filterMap K7
def Kc(t:ByteArray):Bool:=Ko (Aj 32 t)&&decide ((Aj 32 t).length≤20)&&C7 (Fx (Aj 32 t))
def Qu(t:ByteArray):Bool:=sEq t ⟨#[45]⟩||Kc t
def prR(t:ByteArray):List Fwd:=if sEq t ⟨#[45]⟩then []else if Kc t then Fx (Aj 32 t)else []
theorem L9:∀ps:List ByteArray,Ko ps=true→(Fx ps).length=ps.length
 |[],_=>rfl
 |x::ps,h=>by unfold Ko at h;refine' ZCY;unfold Fx;rw[dV,hy];show(Fx ps).length+1=_;rw[L9 ps h.2];rfl
theorem V6{ps x y}(h:K7 x=some y):Fx (ps++[x])=Fx ps++[y]:=by unfold Fx;rw[List.filterMap_append];simp[h]
theorem Rc(ps x):Ko (ps++[x])=(Ko ps&&(K7 x).isSome):=by unfold Ko;rw[dS];simp
theorem P8{ps qs}(h:ps<+:qs)(hf:Ko ps=false):Ko qs=false:=by obtain⟨r,rfl⟩:=h;unfold Ko at *;rw[dS,hf];rfl
def prI(h:Nat)(w0:World)(B:Nat)(pre:List ByteArray)(W:World):Prop:=
 (∃v,Boxed W (h+1+1) 43 v∧own 181 B W v (Fx pre))∧B≤W.heap.size∧Ko pre=true∧pre.length≤20∧Boxed W h 43 (.slice none 0 0)∧Boxed W (h+1) 4 (.bool false)∧Below h w0 W
def prX(h:Nat)(w0:World)(pre:List ByteArray)(W:World):Prop:=
 (Ko pre=false∨20<pre.length)∧Boxed W h 43 (.slice none 0 0)∧Boxed W (h+1) 4 (.bool false)∧Below h w0 W
theorem AvE{h B z w0}(hz:h+1+1<z)(uM:z<B)(hs:h≤w0.heap.size):Pw B z (prI h w0 B):=ZHq
theorem AvV{h B z w0}(hz:h+1+1<z)(uM:z<B)(hs:h≤w0.heap.size):Pw B z (prX h w0):=ZE1
theorem Cr{W W2}(hb:Below W.heap.size W W2):KeepsOthers W W2:=
 ⟨hb.size,fun k o h _=>(hb.block k (Array.getElem?_eq_some_iff.1 h).1).trans h⟩
theorem Hc{W h}{T T':TypeId}{u0 u1}(z0:Boxed W h T u0)(z1:Boxed W (h+1) T' u1)(a b):
 Boxed ((W.setCell ⟨h,0,none⟩ a).setCell ⟨h+1,0,none⟩ b) h T a∧Boxed ((W.setCell ⟨h,0,none⟩ a).setCell ⟨h+1,0,none⟩ b) (h+1) T' b∧
  KeepsOthers W ((W.setCell ⟨h,0,none⟩ a).setCell ⟨h+1,0,none⟩ b)∧∀B,B≤h→Below B W ((W.setCell ⟨h,0,none⟩ a).setCell ⟨h+1,0,none⟩ b):=by refine⟨(z0.set a).kept (grownBy_setCell' _ _ _) ZE,Boxed.set b (z1.kept (grownBy_setCell' W h a) ZE),(KeepsOthers.setCell _ _ _).trans (KeepsOthers.setCell _ _ _),fun B hB=>?_⟩;exact((aF B W).setCell (p:=⟨h,0,none⟩) hB a).setCell (p:=⟨h+1,0,none⟩) (show B≤h+1 by omega) b
theorem Vq{α:Type}[El α]{T base D:Nat}{w v}{xs:List α}(h:own T base w v xs){ds}(hD:w.heap[D]? =some (.deferred ds)):v.ownBlock=none∨v.ownBlock≠some D:=by
 cases hb:v.ownBlock with
 |none=>exact .inl rfl
 |some k=> refine' YR;injection e with e;subst e;obtain⟨o,h1,h2⟩:=Hn h hb;rw[hD]at h1;injection h1 with h1;rw[←h1]at h2;cases h2
theorem Ki{c s p q}(h:E5 c s=some (p,q)):p.size≤s.size∧q.size≤s.size:=by
 unfold E5 at h
 split at h
 ·cases h
 ·injection h with h
  injection h with h1 h2;rw[←h1,←h2,eE,eE];omega
theorem AdR(t w)(ht:t.size≤maxLen):
 Calls aB 223 #[.string t] w fun e w'=>∃v',e=.returned (.tuple #[v',.bool (Qu t)])∧own 181 w.heap.size w' v' (prR t)∧Below w.heap.size w w':=by
 refine' ZE2;refine callsIn_of_wp_marks Tryz.func223 rfl trivial ?_ rfl;simp only[Tryz.ntmps223,dP,bZ,cK,Nat.reduceAdd,Nat.reduceSub,gA,gB,iH,gM,bV,dB];by_cases ci:sEq t ⟨#[45]⟩=true
 ·refine' ZQM;refine' ZE3;gi_wp2
  refine⟨.tuple #[.slice none 0 0,.bool true],by simp[results,Tryz.results223,go_sem],_,by rw[HO.out],ZDi,?_⟩;exact ZHr
 ·refine' ZE4;have HO:Hid (Qu t=Kc t):=by show _=_;unfold Qu;rw[eY]at ci;rw[ci];rfl
  have HR:Hid (prR t=if Kc t then Fx (Aj 32 t)else []):=by show _=_;unfold prR;rw[aL ci]
  clear ci;have HS:=fun W=>Kh t 32 W
  have b0:=((Boxed.new w 43 (.slice none 0 0)).alloc (aC #[.bool false] 4)).alloc (aC #[.slice none 0 0] 43);have b1:=(Boxed.new (w.alloc (aC #[.slice none 0 0] 43)) 4 (.bool false)).alloc (aC #[.slice none 0 0] 43);have b2:=Boxed.new ((w.alloc (aC #[.slice none 0 0] 43)).alloc (aC #[.bool false] 4)) 43 (.slice none 0 0);have l3:Below w.heap.size w (((w.alloc (aC #[.slice none 0 0] 43)).alloc (aC #[.bool false] 4)).alloc (aC #[.slice none 0 0] 43)):=(((aF _ w).alloc (aD _) _).alloc ZE _).alloc ZH _;refine' ZE5;have ft:(((w.alloc (aC #[.slice none 0 0] 43)).alloc (aC #[.bool false] 4)).alloc (aC #[.slice none 0 0] 43)).heap.size=w.heap.size+1+1+1:=ZE
  generalize(((w.alloc (aC #[.slice none 0 0] 43)).alloc (aC #[.bool false] 4)).alloc (aC #[.slice none 0 0] 43))=w3 at *;rw[ft]at ay yU;have x0:Boxed w6 (w.heap.size) 43 (.slice none 0 0):=(mS.block _ ZA).trans B0.out;refine' ZE6;have x2:Boxed w6 (w.heap.size+1+1) 43 (.slice none 0 0):=(mS.block _ ZA).trans B2.out;refine' ZE7;obtain⟨i0,hi,uQ,jO,kP⟩:=eA Tryz.infoRul;refine Pz (F:=Fence.wide) (n:=9) rfl ZA (gf:=286) (lb:=#[.pointer (some ⟨w.heap.size+1+1+1+1,0,none⟩),.pointer (some ⟨w.heap.size+1+1+1,0,none⟩),.pointer (some ⟨w.heap.size+1+1+1+2,0,none⟩)]) rfl trivial (iC Tryz.func286 ZB rfl)
   (Te 8 (w.heap.size+1+1+1) ZA 32 t w6 ay ht) (fun k hk=>zW) ZA (fun _=>rfl)
   (prI w.heap.size w w6.heap.size) (prX w.heap.size w) (AvE ZA ZA (aD _)) (AvV ZA ZA (aD _))
   ⟨⟨_,x2,own.nil_ _ _ _⟩,aD _,rfl,aM _,x0,x1,l6⟩
   (fun x=>{tmps:=#[.string t,undef,.pointer (some ⟨w.heap.size,0,none⟩),.pointer (some ⟨w.heap.size+1,0,none⟩),.pointer (some ⟨w.heap.size+1+1,0,none⟩),.string x,undef,undef,undef,.string t,.bool false,.string t,.func (.func 286) #[] #[.pointer (some ⟨w.heap.size+1+1+1+1,0,none⟩),.pointer (some ⟨w.heap.size+1+1+1,0,none⟩),.pointer (some ⟨w.heap.size+1+1+1+2,0,none⟩)],.string x,undef,undef,undef,undef,undef,undef,undef,undef,undef,undef,undef,undef,undef,undef,undef,undef,undef,undef,undef,undef,undef,undef,undef],defers:=[]}) ?assign ?body ?done ?stop
  case assign=>
   intro l x W K hK
   gi_wp2
   exact hK
  case body=>
   refine' ZOF
   ·refine' ZOG;by_cases qv:m=20
    ·have qN:((m:Int)==20)=true:=by simp[qv]
     have HL:Hid (20<(pre++[x]).length):=by show _<_;refine' ZAY;show 20<pre.length+1;omega
     clear qv hm bv qM
     gi_wp2_with (refine' ZBs;refine' ZFB)
     exact ZFC
    ·have qN:((m:Int)==20)=false:=beq_eq_false_iff_ne.2 ZA
     have FS:(Fx pre).length≤19:=ZA
     have kV:Hid (pre.length≤19):=ZA8
     refine' ZOH;gi_wp2_with (first|refine' ZHu|(gi_at_builtin;refine M7 (α:=Fwd) rfl (.tmp 27) (.tmp 31) 43 rfl w6.heap.size 181 i0 _ 32 Tryz.underlying43 hi uQ jO kP rfl ZF (.slice A m cp) (Fx pre) ⟨p,q⟩ rfl (o2.alloc _) ⟨W2.heap.size,0,none⟩ 1 (Fwd.cells ⟨p,q⟩) rfl ⟨HY.out,rfl⟩ (Bz W2 _ (Fwd.cells ⟨p,q⟩)) ZN ZA ZH ?_;refine' ZHv))
     refine' ZHw;have tN:KeepsOthers W (w5.setCell ⟨w.heap.size+1+1,0,none⟩ (.slice A5 n5 c5)):=(((Cr hb).trans (KeepsOthers.alloc W2 _)).trans (KeepsOthers.of_grownBy ap fun j o ej hj=>by obtain⟨o',h1,h2⟩:=Hn (o2.alloc (aC #[.string p,.string q] 181)) ej;exact ZFD)).trans (KeepsOthers.setCell _ _ _)
     refine⟨tN,fun k hk=>oW k zW zW,⟨_,u2.set _,?_⟩,?_,?_,?_,?_,?_,?_⟩
     ·rw[V6 HP.out]
      exact ZHx
     exact ZFE
     ·rw[Rc,cw,HP.out];rfl
     ·have:=kV.out;refine' ZAY;show pre.length+1≤20;omega
     exact ZFF
     ·exact ZFG
     exact ZHy
  case done=>
   refine' ZHz;have ic:Kc t=C7 (Fx (Aj 32 t)):=by unfold Kc;rw[cw,aJ bn];rfl
   refine' ZFH;have HV:=Ny (.slice A m cp) (Fx (Aj 32 t)) W ho.rd;refine' ZFI;cases i7:C7 (Fx (Aj 32 t))
   ·refine' ZCa;gi_wp2_with (refine' YH;gi_at_call 285;refine' ZBJ)
    refine' ZFJ;exact ZQN
   ·refine' ZCa;gi_wp2_with (refine' YH;gi_at_call 285;refine' ZBJ)
    refine' ZH0;refine⟨.tuple #[.slice A m cp,.bool true],ZQO,_,ZCZ,ZH1,mT⟩
  case stop=>
   refine' ZFK;have ic:Kc t=false:=by
    unfold Kc;rcases am with h|h
    ·rw[P8 kL h];rfl
    ·have:=kL.length_le
     exact ZBK
   refine' ZFL;exact ZQN
end Go.Proofs.YtfadhdacjpmmeaaGreatDoor
