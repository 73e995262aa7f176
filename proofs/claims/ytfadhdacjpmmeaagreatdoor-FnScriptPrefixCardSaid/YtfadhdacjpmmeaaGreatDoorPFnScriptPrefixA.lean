/- Parts. -/
import Derived.Test.YtfadhdacjpmmeaaGreatDoorXFnScriptPrefix
import Derived.OpenVars
import Derived.Test.YtfadhdacjpmmeaaGreatDoorTie
import Derived.Test.YtfadhdacjpmmeaaGreatDoorCards
import Derived.Lay
import Derived.Stop.LaidErr
namespace Go.Proofs.YtfadhdacjpmmeaaGreatDoor.lawFnScriptPrefix
set_option maxRecDepth 100000
set_option maxHeartbeats 16000000
open Go.ChangeShapes Go.WideShapes Go.ChangeAt Go.RowKit
open Go.ChangeMaps (open_string shut_string)
theorem BcX:ownKnob Tryz.prog.godebug=none:=by kernel_rfl
theorem AtN:laidOutB Tryz.prog=true:=by kernel_rfl
theorem AzR{W:World}(hL:laidMetH Tryz.prog Rows.fnScriptPrefixRow.laid W):I4 W:=by
 rw[MakeChecks.laidMetH_plain _ _ _ (by kernel_rfl)]at hL;have h2:laidMet Tryz.prog (("internal/strconv.uint64pow10",Lib.tabData .u64 Lib.pow10Tab)::("unicode/utf8.acceptRanges",Rows.laid_unicode_utf8_acceptRanges)::[("loop.example/sortingoffice/impl.digitBars",.agg (J6.map fun z=>.lit (.string z.data.toList))),("unicode/utf8.first",Go.Pinned.utf8First)]) W:=laidMet.tail (laidMet.tail hL);exact Lib.tabIs_of_head (g:=4) (t:=294) (e:=269) (n:=20) (by kernel_rfl) (by kernel_rfl) (by kernel_rfl) (by kernel_rfl) (by kernel_rfl) (by kernel_rfl) h2
theorem Aw9{W:World}(hL:laidMetH Tryz.prog Rows.fnScriptPrefixRow.laid W):N9 W:=by
 rw[MakeChecks.laidMetH_plain _ _ _ (by kernel_rfl)]at hL;have h2:laidMet Tryz.prog [("loop.example/sortingoffice/impl.digitBars",.agg (J6.map fun z=>.lit (.string z.data.toList))),("unicode/utf8.first",Go.Pinned.utf8First)] W:=laidMet.tail (laidMet.tail (laidMet.tail (laidMet.tail hL)));exact Ai3 (g:=1) (t:=239) (e:=9) (n:=10) (by kernel_rfl) (by kernel_rfl) (by kernel_rfl) (by kernel_rfl) (by kernel_rfl) (by kernel_rfl) h2
theorem BbR(os:Os)(qB:os.Started)(H:Type)(enc:TypeId×Value->H):
 ReturnsInHanded {} Tryz.checked os 4 .any (fun w args=>(Rows.fnScriptPrefixSpec.pre enc Tryz.prog Tryz.f4 [] false w args/\laidMetH Tryz.prog Rows.fnScriptPrefixRow.laid w)/\sizedMet enc Tryz.prog Tryz.f4 (OpenSpec.ofChange Rows.fnScriptPrefixSpec) false w args)
  (Rows.fnScriptPrefixSpec.post enc Tryz.prog Tryz.f4 false true false false):=by
 refine returnsInHanded_of_change_and (C:=Tryz.checked) (X:=fun w _=>laidMetH Tryz.prog Rows.fnScriptPrefixRow.laid w) (fun _ _ _ hh h=>h.of_heap hh) BcX qB (by kernel_rfl) Tryz.func4
  (ChangeSpec.witness_shaped (enc:=enc) (C:=Tryz.checked) (os:=os) (X:=fun w _=>laidMetH Tryz.prog Rows.fnScriptPrefixRow.laid w) false (World.laidAll Tryz.prog os Rows.fnScriptPrefixRow.laid) #[.slice none 0 0,.slice none 0 0] 8 (World.laidAll_os _ _ _)
    (World.shaped_of_ZipB (by kernel_rfl) (by kernel_rfl)) (by kernel_rfl) (by kernel_rfl) (by kernel_rfl)
    (by rw[MakeChecks.laidMetH_plain _ _ _ (by kernel_rfl)];exact laidMet_laidAll _ (by kernel_rfl) (by kernel_rfl))) ?_
 intro W base args ds gs before CY hW _ _ hL _;have IE:∀(j:Nat) t v,Tryz.f4.params[j]? =some t->args[j]? =some v->Value.okWide Tryz.prog W .any base t v:=CY;have hW':=hW;obtain⟨p,q,TA,hV,rfl,i7,QZ⟩:=hW;have hA:DataW.TrodAll enc Tryz.prog W 0 (fun _=>true) true Tryz.f4.params.toList args.toList ds p:=TA;rw[Tryz.params4]at hA IE;obtain⟨v0,pY,d0,u_,p0,q0,hargs,rfl,rfl,h0,r0⟩:=trodAll_cons hA;obtain⟨v1,vs1,d1,ds1,p1,q1,rfl,rfl,rfl,h1,r1⟩:=trodAll_cons r0;obtain⟨rfl,rfl,rfl⟩:=trodAll_nil r1;obtain rfl:args=#[v0,v1]:=by cases args;simp_all
 obtain⟨gv,tv,csv,fuelv,dv,pv,rfl, -, -, -, -,rfl⟩:=trodVars_one hV;have k0:=h0;have lt0:∀x∈p0,x.block<W.heap.size:=by obtain⟨m,hm⟩:=k0;exact DataW.trod_lt m _ _ _ hm
 obtain⟨a0,len0,cap0,rfl⟩:=okWide_slice Tryz.underlying24 (IE 0 24 v0 rfl rfl);obtain⟨fuel0,lk⟩:=h0;obtain⟨xF,MV⟩:=BdS (α:=UInt8) Tryz.underlying24 (by kernel_rfl) (by decide) BdR lk;have k1:=h1;have lt1:∀x∈p1,x.block<W.heap.size:=by obtain⟨m,hm⟩:=k1;exact DataW.trod_lt m _ _ _ hm
 obtain⟨a1,len1,cap1,rfl⟩:=okWide_slice Tryz.underlying24 (IE 1 24 v1 rfl rfl);obtain⟨fuel1,rY⟩:=h1;obtain⟨xs1,ke⟩:=BdS (α:=UInt8) Tryz.underlying24 (by kernel_rfl) (by decide) BdR rY;clear TA CY;refine(BdB W _ xF MV _ xs1 ke (AzR hL) (Aw9 hL)).mono fun e W' ⟨he,bel⟩=>?_
 subst he;exact⟨_,rfl,_,_,_,[],_,_,hW',trodAll_mk1 (shut_bool Tryz.underlying4 _),(trodAll_cons_mk (Below.trod AtN (by kernel_rfl) (of_decide_eq_true (by kernel_rfl)) k0 bel lt0) (trodAll_cons_mk (Below.trod AtN (by kernel_rfl) (of_decide_eq_true (by kernel_rfl)) k1 bel lt1) trodAll_mk0)),Below.trodVars AtN bel (by kernel_rfl) hV,bel.frame _,fun h=>by cases h⟩
end Go.Proofs.YtfadhdacjpmmeaaGreatDoor.lawFnScriptPrefix
