/- Parts. -/
import Derived.Test.YtfadhdacjpmmeaaGreatDoorZ
set_option linter.unusedVariables false
set_option linter.unusedSimpArgs false
namespace Go.Proofs.YtfadhdacjpmmeaaGreatDoor
open Go.IntKind renaming i64→aI
open Go.Obj renaming cells→aC
open Go.Proofs.Tryz renaming prog→aB
open Go.Value renaming string→aK,int→bC
section
variable{P:Program}{ops:Array Oper}{Q:Exit→Act→World→Prop}{md:Region.Mode}{S:World→Prop}{z:Nat}
def Bu(P:Program)(md:Region.Mode)(ops:Array Oper)(Q:Exit→Act→World→Prop)(S:World→Prop)(z:Nat):Nat→Array Bool→Act→World→Prop
 |0,L,a,w=>Region.ready md ops L=[]∧Q .normal a w
 |f+1,L,a,w=>(Region.ready md ops L=[]→Q .normal a w)∧
   ∀i∈Region.ready md ops L,wpOp P ops Q i (fun a' w'=>(i≠z→S w')∧Bu P md ops Q S z f (L.setIfInBounds i true) a' w') a w
theorem Ao9:∀(f:Nat) (L:Array Bool) (a:Act) (w:World),Bu P md ops Q S z f L a w→wpAny P md ops Q f L a w
 |0,_,_,_,h=>h
 |f+1,_,_,_,h=>⟨h.1,fun i hi=>wpOp_mono (fun a' w' h'=>Ao9 f _ a' w' h'.2) (h.2 i hi)⟩
def Mo(md:Region.Mode)(ops:Array Oper)(z i:Nat):Bool:=
 match ops[z]? with
 |none=>false
 |some o=>o.after.any fun e=>Region.binds md e&&e.on==i
theorem AwT{i oi v}(hi:ops[i]? =some oi)(uk:i≠z)(hz:Mo md ops z i=true)(ru:∀(j:Nat) (o:Oper) cs b,ops[j]? =some o→o.op≠.select cs b)
 (hQ:∀c a w,Q (.panic c) (a.put oi.dst v) w→Q (.panic c) a w):∀(f:Nat) (L:Array Bool) (a:Act) (w:World),
   (∀j oj,ops[j]? =some oj→j≠i→L.getD j true=false→(∀e∈oj.after,Region.binds md e=true→e.on≠i)→oi.apart ops oj=true)→
   i∈Region.ready md ops L→YieldsIf P ops S oi v a→S w→
   Bu P md ops Q S z f (L.setIfInBounds i true) (a.put oi.dst v) w→Bu P md ops Q S z (f+1) L a w
 |0,L,a,w,_,hr,hy,hS,H=>ZQs
 |f+1,L,a,w,hfree,hr,hy,hS,H=>by
  refine' ZQt;refine' ZQu;have lU:j≠z:=fun e=>by subst e;unfold Mo at hz;rw[vc]at hz;obtain⟨e,he,hb⟩:=Array.any_eq_true'.1 hz;rw[aN,dE]at hb;exact qo e he hb.1 hb.2
  refine' ZQv;refine wpOp_mono (fun a' w' h3=>⟨fun _=>h3.2.1 lU,AwT hi uk hz ru hQ f (L.setIfInBounds j true) a' w' rx (ready_mono hr (Ne.symm ko)) h3.1 (h3.2.1 lU) ?_⟩) h2;rw[Array.setIfInBounds_comm _ _ ko];exact h3.2.2
theorem Bh{i oi v f L a w}(hi:ops[i]? =some oi)(uk:(i==z)=false)(hz:Mo md ops z i=true)
 (hs:Region.noSelect ops=true) (hf:Region.free md ops L i=true) (hr:(Region.ready md ops L).contains i=true)
 (hQ:∀c a w,Q (.panic c) (a.put oi.dst v) w→Q (.panic c) a w) (hy:YieldsIf P ops S oi v a) (hS:S w)
 (h:Bu P md ops Q S z f (L.setIfInBounds i true) (a.put oi.dst v) w):Bu P md ops Q S z (f+1) L a w:=
 AwT hi (by simpa using uk) hz (Region.noSelect_spec hs) hQ f L a w (Region.free_spec hi hf) (by simpa using hr) hy hS h
def Bi(P:Program)(md:Region.Mode)(ops:Array Oper)(Q:Exit→Act→World→Prop)(S:World→Prop)(z f:Nat)(L:Array Bool)(a:Act)(w:World)(rs:List Nat):Prop:=
 ∀i∈rs,wpOp P ops Q i (fun a' w'=>(i≠z→S w')∧Bu P md ops Q S z f (L.setIfInBounds i true) a' w') a w
theorem Bi.nil{f L a w}:Bi P md ops Q S z f L a w []:=fun _ h=>by cases h
theorem Bi.cons{f L a w i o rs}(ho:ops[i]? =some o)
 (h:∀K':Act→World→Prop,Shut (∀a w,(i≠z→S w)→((i≠z→S w)→Bu P md ops Q S z f (L.setIfInBounds i true) a w)→K' a w)→if Region.wanted o (yielded ops a.tmps)=true then Oper.wp P o a w K' Q else K' (a.put o.dst undef) w)
 (hs:Bi P md ops Q S z f L a w rs):Bi P md ops Q S z f L a w (i::rs):=fun j hj=>by
 rcases List.mem_cons.1 hj with rfl|hj
 ·exact wpOp_step ho (fun K' hK=>h K' (fun a w hS hW=>hK a w ⟨hS,hW hS⟩))
 ·exact hs j hj
theorem Bk{rs f L a w}(hr:Region.ready md ops L=rs)(bj:rs≠[])
 (h:Bi P md ops Q S z f L a w rs):Bu P md ops Q S z (f+1) L a w:=⟨fun h0=>absurd (hr▸h0) bj,hr▸h⟩
theorem J2{L a w}(hr:Region.ready md ops L=[])(h:Q .normal a w):∀f,Bu P md ops Q S z f L a w
 |0=>⟨hr,h⟩
 |_+1=>⟨fun _=>h,by rw[hr];simp⟩
theorem Hs(z){id a w}(hm:P.follows .mixedOrders=true)(hS:S w.drew)
 (h:S w.drew→Bu P .any ops Q S z ops.size (Array.replicate ops.size false) a w.drew):(Code.region id ops true).wp P Q a w:=
 wp_region_any hm (Ao9 _ _ _ _ (h hS))
end
end Go.Proofs.YtfadhdacjpmmeaaGreatDoor
