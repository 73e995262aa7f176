/- Parts. -/
import Derived.Test.YtfadhdacjpmmeaaGreatDoorQ9
import Derived.Laws.CopyOwn
set_option linter.unusedVariables false
set_option linter.unusedSimpArgs false
namespace Go.Proofs.YtfadhdacjpmmeaaGreatDoor
open Go.IntKind renaming i64→aI
open Go.Obj renaming cells→aC
open Go.Proofs.Tryz renaming prog→aB
open Go.Value renaming string→aK,int→bC
open Go.RowKit
theorem Z9{a b c:World}{row}(h:a.grownBy b row)(k:b.grownBy c row):a.grownBy c row:=
 ⟨k.os.trans h.os,k.tape.trans h.tape,k.output.trans h.output,aG h.size k.size,fun i hi bj=>(k.block i (bU hi h.size) bj).trans (h.block i hi bj)⟩
theorem ApH{α:Type}[Flat α]{P}(w g base)(dT sT ty e:TypeId)(i:TypeInfo)(hu:P.underlying dT=some (.slice e))(hi:P.info? e=some i)(cj:i.size=El.size α)(ct:0<El.size α)
 (bu vx) (ys:List α) (B) (hr:rd w B vx ys) (hg:w.heap[g]? =some (.cells bu e (0,0))) (CS:bu.size=ys.length*El.size α) (du:base≤g) (hm:ys.length≤maxLen):
 ∃w',(Builtin.copy_ #[dT,sT] ty #[.slice (some ⟨g,0,none⟩) ys.length ys.length,vx]).run P w=.ok (goInt ys.length) w'∧own e base w' (.slice (some ⟨g,0,none⟩) ys.length ys.length) ys∧w.grownBy w' (some g):=by
 obtain⟨A,n,c,rfl,hn,hc,nD,pB⟩:=hr;refine' ZPJ;have vy:∀u∈lX.flatten,u.oneCell'=true:=fun u hu=>ZPK
 have jU:lX.flatten.length=ys.length*El.size α:=by rw[J8 mP,qq]
 have bn:lX.flatten.length=bu.size:=by rw[jU,CS]
 have uV:=run_storeCells_at P g 0 e lX.flatten 0 bu w hg ZA vy;have jL:(bu.toList.take (0+0)++lX.flatten++bu.toList.drop (0+0+lX.flatten.length)).toArray=lX.flatten.toArray:=by rw[bn];simp
 rw[jL]at uV;have fc:own e base (w.setRow g lX.flatten.toArray) (.slice (some ⟨g,0,none⟩) ys.length ys.length) ys:=by
  refine⟨lX,⟨jU,.inr ⟨g,ys.length,lX.flatten.toArray,rfl,du,setRow_heap w g bu _ e _ hg,aD _,hm,by simp[jU],?_⟩⟩,qq,fun k h1 h2=>?_⟩
  ·rw[←jU];exact aY (l:=lX.flatten)
  ·obtain⟨_,_,_,h,_⟩:=kN k h2 h1
   exact Flat.free h
 have rR:w.grownBy (w.setRow g lX.flatten.toArray) (some g):=⟨rfl,rfl,rfl,by simp[World.setRow],fun k hk bj=>setRow_other w g k _ (fun e=>bj (by rw[e]))⟩;cases A with
 |none=> refine' ZPL;refine⟨_,?_,fc,rR⟩;simp only[fR]at uV;simp[Builtin.copy_,run_underlying hu,Builtin.lenOf,Builtin.firstCells,sizeOf,typeInfo,hi,uV]
 |some ad=> refine' ZPM;have hl:=run_loadCells_list (P:=P) w ad lX.flatten mM;rw[jU]at hl;refine⟨_,?_,fc,rR⟩;simp[Builtin.copy_,run_underlying hu,Builtin.lenOf,Builtin.firstCells,sizeOf,typeInfo,hi,cj,hl,uV]
theorem T7{α:Type}[Flat α]{P w ops rest o a}{Q:Exit→Act→World→Prop}(mw:o.guard=none)(d s:Operand)(dT sT:TypeId)
 (ho:o.op=.call {callee:=.builtin .copy,args:=#[d,s],argTypes:=#[dT,sT]})
 (g base) (e:TypeId) (i:TypeInfo) (hu:P.underlying dT=some (.slice e)) (hi:P.info? e=some i) (cj:i.size=El.size α) (ct:0<El.size α)
 (bu vx) (ys:List α) (B) (hr:rd w B vx ys) (hd:a.eval d=.slice (some ⟨g,0,none⟩) ys.length ys.length) (hs:a.eval s=vx)
 (hg:w.heap[g]? =some (.cells bu e (0,0))) (CS:bu.size=ys.length*El.size α) (du:base≤g) (hm:ys.length≤maxLen)
 (h:∀w',own e base w' (.slice (some ⟨g,0,none⟩) ys.length ys.length) ys→w.grownBy w' (some g)→wpList P ops Q rest (a.put o.dst (goInt ys.length)) w'):wpList P ops Q (o::rest) a w:=by
 refine wpList_plain mw fun K hK=>?_
 obtain⟨w',mQ,h2,h3⟩:=ApH (P:=P) w g base dT sT o.type e i hu hi cj ct bu vx ys B hr hg CS du hm;unfold Oper.wp execOp;simp only[ho,resolve,invoke,builtin,Sem.run_bind,Sem.run_pure,Result.andThen_ok,List.map_toArray,cD,gC,hd,hs,mQ];exact hK _ _ (h w' h2 h3)
end Go.Proofs.YtfadhdacjpmmeaaGreatDoor
