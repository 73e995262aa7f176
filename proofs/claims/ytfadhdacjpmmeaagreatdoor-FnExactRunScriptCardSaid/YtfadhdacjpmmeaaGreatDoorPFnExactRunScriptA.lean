/- Parts. -/
import Derived.Test.YtfadhdacjpmmeaaGreatDoorXFnExactRunScript
import Derived.OpenVars
import Derived.Test.YtfadhdacjpmmeaaGreatDoorTie
import Derived.Test.YtfadhdacjpmmeaaGreatDoorCards
import Derived.Lay
import Derived.Stop.LaidErr
namespace Go.Proofs.YtfadhdacjpmmeaaGreatDoor.lawFnExactRunScript
set_option maxRecDepth 100000
set_option maxHeartbeats 400000
open Go.ChangeShapes Go.WideShapes Go.ChangeAt Go.RowKit
open Go.ChangeMaps (open_string shut_string)
theorem BcX:ownKnob Tryz.prog.godebug=none:=by kernel_rfl
theorem AtN:laidOutB Tryz.prog=true:=by kernel_rfl
theorem AzR{W:World}(hL:laidMetH Tryz.prog Rows.fnExactRunScriptRow.laid W):I4 W:=by
 rw[MakeChecks.laidMetH_plain _ _ _ (by kernel_rfl)]at hL;have h2:laidMet Tryz.prog (("internal/strconv.uint64pow10",Lib.tabData .u64 Lib.pow10Tab)::("unicode/utf8.acceptRanges",Rows.laid_unicode_utf8_acceptRanges)::[("loop.example/sortingoffice/impl.digitBars",.agg (J6.map fun z=>.lit (.string z.data.toList))),("unicode/utf8.first",Go.Pinned.utf8First)]) W:=laidMet.tail (laidMet.tail hL);exact Lib.tabIs_of_head (g:=4) (t:=294) (e:=269) (n:=20) (by kernel_rfl) (by kernel_rfl) (by kernel_rfl) (by kernel_rfl) (by kernel_rfl) (by kernel_rfl) h2
theorem Aw9{W:World}(hL:laidMetH Tryz.prog Rows.fnExactRunScriptRow.laid W):N9 W:=by
 rw[MakeChecks.laidMetH_plain _ _ _ (by kernel_rfl)]at hL;have h2:laidMet Tryz.prog [("loop.example/sortingoffice/impl.digitBars",.agg (J6.map fun z=>.lit (.string z.data.toList))),("unicode/utf8.first",Go.Pinned.utf8First)] W:=laidMet.tail (laidMet.tail (laidMet.tail (laidMet.tail hL)));exact Ai3 (g:=1) (t:=239) (e:=9) (n:=10) (by kernel_rfl) (by kernel_rfl) (by kernel_rfl) (by kernel_rfl) (by kernel_rfl) (by kernel_rfl) h2
theorem BbR(os:Os)(pn:os.Started)(H:Type)(enc:TypeId×Value→H):
 ReturnsInHanded {} Tryz.checked os 3 .any (fun w args=>(Rows.fnExactRunScriptSpec.pre enc Tryz.prog Tryz.f3 [] false w args∧laidMetH Tryz.prog Rows.fnExactRunScriptRow.laid w)∧sizedMet enc Tryz.prog Tryz.f3 (OpenSpec.ofChange Rows.fnExactRunScriptSpec) false w args)
  (Rows.fnExactRunScriptSpec.post enc Tryz.prog Tryz.f3 false true false false):=by
 refine returnsInHanded_of_change_and (C:=Tryz.checked) (X:=fun w _=>laidMetH Tryz.prog Rows.fnExactRunScriptRow.laid w) (fun _ _ _ hh h=>h.of_heap hh) BcX pn (by kernel_rfl) Tryz.func3
  (ChangeSpec.witness_shaped (enc:=enc) (C:=Tryz.checked) (os:=os) (X:=fun w _=>laidMetH Tryz.prog Rows.fnExactRunScriptRow.laid w) false (World.laidAll Tryz.prog os Rows.fnExactRunScriptRow.laid) #[.string ⟨#[]⟩] 8 (World.laidAll_os _ _ _)
    (World.shaped_of_ZipB (by kernel_rfl) (by kernel_rfl)) (by kernel_rfl) (by kernel_rfl) (by kernel_rfl)
    (by rw[MakeChecks.laidMetH_plain _ _ _ (by kernel_rfl)];exact laidMet_laidAll _ (by kernel_rfl) (by kernel_rfl))) ?_
 intro W base args ds gs SO xU hW _ _ hL _;have JG:∀(j:Nat) t v,Tryz.f3.params[j]? =some t→args[j]? =some v→Value.okWide Tryz.prog W .any base t v:=xU;have hW':=hW;obtain⟨p,q,MJ,hV,rfl,ib,LJ⟩:=hW;have hA:DataW.TrodAll enc Tryz.prog W 0 (fun _=>true) true Tryz.f3.params.toList args.toList ds p:=MJ;rw[Tryz.params3]at hA JG;obtain⟨v0,ov,d0,ds0,p0,q0,hargs,rfl,rfl,h0,r0⟩:=trodAll_cons hA;obtain⟨rfl,rfl,rfl⟩:=trodAll_nil r0;obtain rfl:args=#[v0]:=by cases args;simp_all
 obtain⟨gv,tv,csv,fuelv,dv,pv,rfl, -, -, -, -,rfl⟩:=trodVars_one hV;have k0:=h0;have lt0:∀x∈p0,x.block<W.heap.size:=by obtain⟨m,hm⟩:=k0;exact DataW.trod_lt m _ _ _ hm
 obtain⟨s0,rfl,rfl,rfl,PS⟩:=open_string Tryz.underlying9 (JG 0 9 v0 rfl rfl) h0;clear MJ xU;refine(Ty W s0 PS (AzR hL) (Aw9 hL)).mono fun e W' ⟨he,bel⟩=>?_
 subst he;exact⟨_,rfl,_,_,_,[],_,_,hW',trodAll_mk1 (shut_bool Tryz.underlying4 _),(trodAll_cons_mk (Below.trod AtN (by kernel_rfl) (of_decide_eq_true (by kernel_rfl)) k0 bel lt0) trodAll_mk0),Below.trodVars AtN bel (by kernel_rfl) hV,bel.frame _,fun h=>by cases h⟩
end Go.Proofs.YtfadhdacjpmmeaaGreatDoor.lawFnExactRunScript
