/- Parts. -/
import Derived.Test.YtfadhdacjpmmeaaGreatDoorQ23
set_option linter.unusedVariables false
set_option linter.unusedSimpArgs false
namespace Go.Proofs.YtfadhdacjpmmeaaGreatDoor
open Go.IntKind renaming i64→aI
open Go.Obj renaming cells→aC
open Go.Proofs.Tryz renaming prog→aB
open Go.Value renaming string→aK,int→bC
open Go.RowKit
theorem Bl{α:Type}[Flat α]{P w ops o a}{K:Act→World→Prop}{Q:Exit→Act→World→Prop}{E:Prop}(mw:o.guard=none)(s x:Operand)(t:TypeId)
 (ho:o.op=.call {callee:=.builtin .append,args:=#[s,x],argTypes:=#[t,t]})
 (base) (e:TypeId) (i:TypeInfo) (z bytes) (ht:P.underlying t=some (.slice e)) (hi:P.info? e=some i) (hz:i.zero=some z)
 (cj:i.size=El.size α) (nP:i.bytes=bytes) (fx:z.cells.size=El.size α) (ct:0<El.size α)
 (v xs) (hs:a.eval s=v) (fc:own e base w v xs) (vx) (ys:List α) (hx:a.eval x=vx) (B) (hr:rd w B vx ys)
 (nG:xs.length+ys.length≤maxLen) (cv:(xs.length+ys.length)*bytes≤140737488355328) (du:base≤w.heap.size)
 (h:∀v' w',own e base w' v' (xs++ys)→w.grownBy w' v.ownBlock→(v'.ownBlock=v.ownBlock∨v'.ownBlock=some w.heap.size)→K (a.put o.dst v') w'):
 if Region.wanted o (yielded ops a.tmps)=true then Oper.wp P o a w K Q else E:=by refine' ZPH;exact Yv s x t ho base e i z bytes ht hi hz cj nP fx ct v xs hs fc vx ys hx B hr nG cv du h
theorem Az5{p xs}(h:M4 p xs=true):Jh p xs=AgR p xs:=by unfold Jh;rw[aP (by exact h)]
end Go.Proofs.YtfadhdacjpmmeaaGreatDoor
