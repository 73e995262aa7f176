/- Parts. -/
import Derived.Test.YtfadhdacjpmmeaaGreatDoorU4
import Derived.Laws.CopyOwn
set_option linter.unusedVariables false
set_option linter.unusedSimpArgs false
open Go.Proofs.Tryz
open Go renaming madeCells->bF
open Go.IntKind renaming i64->aD
open Go.Obj renaming cells->aB
open Go.Value renaming string->aG,int->aH
namespace Go.Proofs.YtfadhdacjpmmeaaGreatDoor
open Go.RowKit
theorem ZEP{a b c:World}{row}(h:a.grownBy b row)(k:b.grownBy c row):a.grownBy c row:=
 ⟨k.os.trans h.os,k.tape.trans h.tape,k.output.trans h.output,aI h.size k.size,fun i hi ay=>(k.block i (bR hi h.size) ay).trans (h.block i hi ay)⟩
theorem ApH{α:Type}[Flat α]{P}(w g base)(dT sT ty e:TypeId)(i:TypeInfo)(hu:P.underlying dT=some (.slice e))(hi:P.info? e=some i)(cw:i.size=El.size α)(cm:0<El.size α)
 (bw vx) (ys:List α) (B) (hr:rd w B vx ys) (hg:w.heap[g]? =some (.cells bw e (0,0))) (IA:bw.size=ys.length*El.size α) (ee:base<=g) (hm:ys.length<=maxLen):
 ∃w',(Builtin.copy_ #[dT,sT] ty #[.slice (P_ g) ys.length ys.length,vx]).run P w=.ok (goInt ys.length) w'/\own e base w' (.slice (P_ g) ys.length ys.length) ys/\w.grownBy w' (some g):=by
 obtain⟨A,n,c,rfl,hn,hc,px,nU⟩:=hr;refine' ZSS;have xW:∀u∈np.flatten,u.oneCell'=true:=fun u hu=>ZST
 have j7:np.flatten.length=ys.length*El.size α:=by rw[J8 oy,rQ]
 have bp:np.flatten.length=bw.size:=by rw[j7,IA]
 have xE:=run_storeCells_at P g 0 e np.flatten 0 bw w hg ZA xW;have hrow:(bw.toList.take (0+0)++np.flatten++bw.toList.drop (0+0+np.flatten.length)).toArray=np.flatten.toArray:=by rw[bp];simp
 rw[hrow]at xE;have ft:own e base (w.setRow g np.flatten.toArray) (.slice (P_ g) ys.length ys.length) ys:=by
  refine⟨np,⟨j7,.inr ⟨g,ys.length,np.flatten.toArray,rfl,ee,setRow_heap w g bw _ e _ hg,aC _,hm,by simp[j7],?_⟩⟩,rQ,fun k h1 h2=>?_⟩
  .rw[<-j7];exact bA (l:=np.flatten)
  .obtain⟨_,_,_,h,_⟩:=lY k h2 h1
   exact Flat.free h
 have qA:w.grownBy (w.setRow g np.flatten.toArray) (some g):=⟨rfl,rfl,rfl,by simp[World.setRow],fun k hk ay=>setRow_other w g k _ (fun e=>ay (by rw[e]))⟩;cases A with
 |none=> refine' ZSU;refine⟨_,?_,ft,qA⟩;simp only[fU]at xE;simp[Builtin.copy_,run_underlying hu,Builtin.lenOf,Builtin.firstCells,sizeOf,typeInfo,hi,xE]
 |some ad=> refine' ZSV;have hl:=run_loadCells_list (P:=P) w ad np.flatten ow;rw[j7]at hl;refine⟨_,?_,ft,qA⟩;simp[Builtin.copy_,run_underlying hu,Builtin.lenOf,Builtin.firstCells,sizeOf,typeInfo,hi,cw,hl,xE]
theorem ZCl{α:Type}[Flat α]{P w ops rest o a}{Q:Exit->Act->World->Prop}(nW:o.guard=none)(d s:Operand)(dT sT:TypeId)
 (ho:o.op=.call {callee:=.builtin .copy,args:=#[d,s],argTypes:=#[dT,sT]})
 (g base) (e:TypeId) (i:TypeInfo) (hu:P.underlying dT=some (.slice e)) (hi:P.info? e=some i) (cw:i.size=El.size α) (cm:0<El.size α)
 (bw vx) (ys:List α) (B) (hr:rd w B vx ys) (hd:a.eval d=.slice (P_ g) ys.length ys.length) (hs:a.eval s=vx)
 (hg:w.heap[g]? =some (.cells bw e (0,0))) (IA:bw.size=ys.length*El.size α) (ee:base<=g) (hm:ys.length<=maxLen)
 (h:∀w',own e base w' (.slice (P_ g) ys.length ys.length) ys->w.grownBy w' (some g)->wpList P ops Q rest (a.put o.dst (goInt ys.length)) w'):wpList P ops Q (o::rest) a w:=by
 refine wpList_plain nW fun K hK=>?_
 obtain⟨w',oC,h2,h3⟩:=ApH (P:=P) w g base dT sT o.type e i hu hi cw cm bw vx ys B hr hg IA ee hm;unfold Oper.wp execOp;simp only[ho,resolve,invoke,builtin,Sem.run_bind,Sem.run_pure,Result.andThen_ok,List.map_toArray,cD,gE,hd,hs,oC];exact hK _ _ (h w' h2 h3)
end Go.Proofs.YtfadhdacjpmmeaaGreatDoor
