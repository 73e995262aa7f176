/- FnScriptPrefix: unless a script is too long, its output begins with the output of its first lines, for every drawing text; no condition. -/
import Derived.Test.YtfadhdacjpmmeaaGreatDoorPFnScriptPrefixC
namespace Go.Proofs.YtfadhdacjpmmeaaGreatDoor.lawFnScriptPrefix
open Go.ChangeShapes Go.WideShapes Go.ChangeAt Go.RowKit
open Go.ChangeMaps (open_string shut_string)
theorem gA:Tryz.prog.funcNamed "loop.example/sortingoffice/laws.FnScriptPrefix" =some 4:=by as_aux_lemma=>kernel_rfl
theorem gB:Tryz.prog.funcs.toList.any Func.goes=false:=by as_aux_lemma=>kernel_rfl
theorem gC{P:Program}(h:P.funcs.toList.any Func.goes=false)(f:FuncId):P.goes f=false:=by
 have k:∀(g:FuncId) (fn:Func),P.funcs[g]? =some fn->fn.goes=false:=fun g fn e=>by
  have hm:fn∈P.funcs.toList:=by rw[<-Array.getElem?_toList]at e;exact List.mem_of_getElem? e
  cases hb:fn.goes
  .rfl
  .rw[List.any_eq_true.2 ⟨fn,hm,hb⟩]at h;cases h
 unfold Program.goes;rw[show P.funcs.any Func.goes=false by rw[<-Array.any_toList];exact h,Bool.and_false,Bool.or_false,List.any_eq_false]
 intro g _ hg
 cases e:P.funcs[g]? with
 |none=>rw[e]at hg;cases hg
 |some fn=>rw[e]at hg;exact absurd (hg.symm.trans (k g fn e)) (by simp)
theorem gE{P:Program}{s f}(h:P.funcNamed s=some f)(k:P.goes f=false):false=((P.funcNamed s).any P.goes||false):=by rw[h];simp[k]
theorem gD:false=Rows.fnScriptPrefixRow.goesBy Tryz.pinned.checked.prog:=by
 show false=((Tryz.prog.funcNamed "loop.example/sortingoffice/laws.FnScriptPrefix").any Tryz.prog.goes||false)
 exact gE gA (gC gB 4)
theorem proved:Rows.FnScriptPrefixCardSaid:=
 Claim7.holds_tied_plain_at .later [] [.data,.data,.data,.data,.data,.pinned] true (true, "5b54cd283548b69d80a18afabcc2aa27aab5eb83e468d6ea5ef2c6ebf958be51") false
  AuT (fun _ h=>by cases h) (by as_aux_lemma=>kernel_rfl) (fun _ h=>by cases h) fnScriptPrefix_row_tie rfl ⟨rfl,rfl⟩ (by as_aux_lemma=>kernel_rfl) rfl
  (fun f fn hf wF=>by
    obtain rfl:f=4:=Option.some.inj (gA.symm.trans hf) |>.symm;obtain rfl:fn=Tryz.f4:=(Option.some.inj (Tryz.func4.symm.trans wF)).symm;exact⟨by as_aux_lemma=>kernel_rfl,fun j t ht=>by
     rw[Tryz.params4]at ht;have hm:t∈[24,24]:=by simpa using Array.mem_of_getElem? ht
     have da:([24,24].all fun u=> !Tryz.prog.wantsStandIn u)=true:=by as_aux_lemma=>kernel_rfl
     exact(show Tryz.prog.wantsStandIn t=false by simpa using List.all_eq_true.1 da t hm)⟩)
  gD
#print axioms proved
end Go.Proofs.YtfadhdacjpmmeaaGreatDoor.lawFnScriptPrefix
