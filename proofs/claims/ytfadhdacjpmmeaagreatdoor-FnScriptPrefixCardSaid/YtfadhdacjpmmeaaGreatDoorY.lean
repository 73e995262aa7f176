/- Parts. -/
import Derived.Lib.Hide
import Derived.Test.YtfadhdacjpmmeaaGreatDoorChecked
import Derived.OwnWalkIn
import Derived.Deep.RegionHeld3
import Derived.Deep.LoopGhost
import Derived.StillTailTactics
import Derived.Handy
import Derived.LoopIn
import Derived.Shelf.SlSortCmp.QuietGrown
set_option linter.unusedVariables false
set_option linter.unusedSimpArgs false
open Go.Proofs.Tryz
open Go renaming madeCells->bF
open Go.IntKind renaming i64->aD
open Go.Obj renaming cells->aB
open Go.Value renaming string->aG,int->aH
namespace Go.Proofs.YtfadhdacjpmmeaaGreatDoor
abbrev aA:=@Go.Lib.hid
abbrev aC:=@Nat.le_refl
abbrev aF:=@Go.RowKit.Below.refl
abbrev aI:=@Nat.le_trans
abbrev aJ:=@List.take_succ_eq_append_getElem
abbrev aK:=@Int.eq_ofNat_of_zero_le
abbrev aL:=@decide_eq_true
abbrev aM:=@if_neg
abbrev aN:=@Nat.zero_le
abbrev aO:=@Bool.and_eq_true
abbrev aP:=@decide_eq_false
abbrev aQ:=@if_pos
abbrev aR:=@List.getElem?_eq_getElem
abbrev aS:=@List.getElem_mem
abbrev aT:=@List.length_append
abbrev aU:=@congrArg
abbrev aV:=@Go.Proofs.Tryz.underlying27
abbrev aW:=@Go.Proofs.Tryz.underlying28
abbrev aX:=@Nat.not_lt_zero
abbrev aY:=@ByteArray.size_append
abbrev aZ:=@Or.inl
abbrev bA:=@List.take_length
abbrev bB:=@List.take_of_length_le
abbrev bC:=@Go.heap_alloc_new
abbrev bD:=@decide_eq_true_iff
abbrev bE:=@Int.toNat_natCast
abbrev bG:=@Go.IntWalk.i64_in
abbrev bH:=@List.getD_eq_getElem?_getD
abbrev bI:=@List.length_map
abbrev bJ:=@List.length_take
abbrev bK:=@Go.World.grownBy.refl
abbrev bL:=@List.length_filter_le
abbrev bN:=@List.mem_cons_of_mem
abbrev bO:=@Go.heap_setCell_same
abbrev bP:=@List.getElem_of_mem
abbrev bQ:=@Go.RowKit.Below.heap_setCell
abbrev bR:=@Nat.lt_of_lt_of_le
abbrev bT:=@List.nil_append
abbrev bU:=@Go.ByteArray.toList_eq
abbrev bV:=@Nat.zero_add
abbrev bW:=@List.eq_nil_of_length_eq_zero
abbrev bX:=@List.flatten_append
abbrev bY:=@Nat.mul_le_mul
abbrev bZ:=@List.getElem_append_left
abbrev cC:=@List.getElem_append_right
abbrev cD:=@List.map_cons
abbrev cE:=@List.length_singleton
abbrev cG:=@List.map_append
abbrev cK:=@List.cons_append
abbrev cQ:=@Go.World.grownBy_alloc
abbrev cT:=@List.length_nil
abbrev cU:=@List.drop_eq_getElem_cons
abbrev cZ:=@List.append_assoc
abbrev dA:=@List.length_cons
abbrev dB:=@ByteArray.size_extract
abbrev dC:=@List.flatten_cons
abbrev dD:=@Go.info_parts
abbrev dE:=@List.getElem_cons_zero
abbrev dF:=@Nat.add_zero
abbrev dG:=@Go.Proofs.Tryz.underlying24
abbrev dH:=@List.take_zero
abbrev dI:=@beq_iff_eq
abbrev dJ:=@List.pairwise_iff_getElem
abbrev dK:=@Go.World.cell?_setCell_other
abbrev dL:=@Go.RowKit.Below.heap_alloc
abbrev dM:=@List.ext_getElem
abbrev AqT:=@Go.Proofs.Tryz.underlying3
abbrev ZBl:=@Go.Proofs.Tryz.underlying9
abbrev dP:=@List.drop_eq_nil_of_le
abbrev dQ:=@List.take_append_drop
abbrev dR:=@List.filter_sublist
abbrev ZBH:=@Go.Proofs.Tryz.zeroValue3
abbrev dU:=@List.all_eq_true
abbrev dV:=@List.length_drop
abbrev dW:=@Nat.lt_succ_self
abbrev dX:=@List.size_toArray
abbrev dY:=@Go.Proofs.Tryz.underlying31
abbrev dZ:=@decide_eq_true_eq
abbrev eA:=@List.mem_of_mem_take
abbrev eB:=@List.mem_take_iff_getElem
abbrev eC:=@Go.Proofs.Tryz.underlying147
abbrev ZCP:=@Go.Proofs.Tryz.underlying4
abbrev ZAq:=@Go.Proofs.Tryz.underlying5
abbrev eF:=@Nat.mul_one
abbrev eG:=@Go.cell_of_row
abbrev eH:=@List.all_append
abbrev eI:=@List.append_nil
abbrev eJ:=@List.mem_append
abbrev ZDn:=@Go.Proofs.Tryz.zeroValue9
abbrev eL:=@Nat.le_succ
abbrev eM:=@Bool.and_eq_false_iff
abbrev ZDZ:=@Go.Proofs.Tryz.sizeOf3
abbrev ZBc:=@Go.Proofs.Tryz.zeroValue4
abbrev ZB2:=@Go.Proofs.Tryz.underlying0
abbrev eQ:=@decide_eq_false_iff_not
abbrev eS:=@Nat.le_of_eq
abbrev eT:=@Nat.lt_trichotomy
abbrev eU:=@Go.Proofs.Tryz.underlying82
abbrev eV:=@List.length_set
abbrev eW:=@Nat.add_mul
abbrev ZB3:=@Go.Proofs.Tryz.isAgg3
abbrev AhQ:=@Go.Proofs.Tryz.zeroValue0
abbrev eZ:=@List.getElem?_eq_none
abbrev fA:=@UInt8.lt_iff_toNat_lt
abbrev fC:=@Bool.not_eq_true
abbrev fD:=@List.getElem_map
abbrev ZBF:=@Go.Proofs.Tryz.underlying229
abbrev fF:=@Bool.true_and
abbrev fG:=@Nat.zero_mul
abbrev ZCv:=@Go.Proofs.Tryz.sizeOf9
abbrev fI:=@Go.World.cell?_setCells_out
abbrev fJ:=@Bool.not_eq_true'
abbrev fK:=@Nat.le_succ_of_le
abbrev Am2:=@Go.Proofs.Tryz.zeroValue229
abbrev ZAf:=@of_decide_eq_true
abbrev fN:=@List.range_succ
abbrev ZA3:=@Go.Proofs.Tryz.zeroValue5
abbrev fP:=@List.getElem_set_ne
abbrev ZD1:=@Go.Proofs.Tryz.sizeOf4
abbrev fR:=@getElem!_pos
abbrev ZCT:=@Go.Proofs.Tryz.isAgg9
abbrev fT:=@Go.rounds_succ
abbrev fU:=@List.flatten_nil
abbrev ZBh:=@Int.tmod_eq_emod_of_nonneg
abbrev BdY:=@List.exists_cons_of_ne_nil
abbrev fY:=@List.mem_cons_self
abbrev fZ:=@List.pairwise_cons
abbrev AmL:=@List.take_prefix_take_left
abbrev BdI:=@Go.Proofs.Tryz.underlying254
abbrev gC:=@Array.replicate_succ
abbrev gD:=@Array.replicate_zero
abbrev gE:=@List.map_nil
abbrev gG:=@Nat.lt_or_ge
abbrev gH:=@Nat.pow_le_pow_right
abbrev ZDK:=@Go.Proofs.Tryz.isAgg4
abbrev AtK:=@Go.Proofs.Tryz.sizeOf0
abbrev gK:=@Go.Proofs.Tryz.underlying36
abbrev Aa4:=@Go.Proofs.Tryz.zeroValue254
abbrev gM:=@List.append_toArray
abbrev gP:=@List.filterMap_cons
abbrev gQ:=@List.Perm.refl
abbrev gR:=@List.filter_cons
abbrev gS:=@Option.getD_some
abbrev gT:=@Or.inr
abbrev AsQ:=@Go.Proofs.Tryz.sizeOf229
abbrev ZD5:=@Go.Proofs.Tryz.isAgg0
abbrev gW:=@List.filter_append
abbrev ZBi:=@List.getElem_cons_succ
abbrev ZDV:=@List.getElem_replicate
abbrev gZ:=@List.map_map
abbrev iA:=@Nat.le_of_lt
abbrev ZBv:=@Go.Proofs.Tryz.sizeOf5
abbrev iC:=@UInt8.toNat_ofNat'
abbrev iD:=@of_decide_eq_false
abbrev ZDR:=@Go.Proofs.Tryz.isAgg229
abbrev iF:=@Go.Proofs.enters_of
abbrev ZAZ:=@List.getElem_set_self
abbrev ZBa:=@List.length_replicate
abbrev iI:=@List.getElem?_map
abbrev iJ:=@List.getElem_drop
abbrev iK:=@List.pairwise_map
abbrev iL:=@List.push_toArray
abbrev iM:=@Go.Proofs.Tryz.underlying30
abbrev iN:=@Go.Proofs.Tryz.underlying34
abbrev iO:=@Go.Proofs.Tryz.underlying43
abbrev iP:=@Go.Proofs.Tryz.underlying61
abbrev ZCI:=@Array.getElem?_append_left
abbrev ZCf:=@Nat.mul_le_mul_right
abbrev iT:=@Nat.one_mul
abbrev ZCg:=@Go.Proofs.Tryz.isAgg5
abbrev ZCz:=@Go.Proofs.Tryz.sizeOf254
abbrev iW:=@Go.wp_loop_rounds
abbrev iX:=@List.getElem_set
abbrev iY:=@Go.World.size_alloc
abbrev ZDy:=@List.getElem?_append_left
abbrev ZCa:=@Array.length_toList
abbrev ZC9:=@Int.toNat_of_nonneg
abbrev Bd3:=@beq_eq_false_iff_ne
abbrev ZDk:=@Go.Proofs.Tryz.isAgg254
abbrev jE:=@Bool.eq_iff_iff
abbrev jF:=@Bool.or_eq_true
abbrev ZDB:=@Bool.false_eq_true
abbrev ZBr:=@Int.emod_lt_of_pos
abbrev ZCy:=@List.getElem?_take
abbrev ZCw:=@Go.World.cell?_setCells_in
abbrev ZAb:=@List.Pairwise.nil
abbrev ZB8:=@List.ext_getElem?
abbrev ZDW:=@List.flatMap_cons
abbrev ZBn:=@List.foldl_append
abbrev ZBs:=@List.getElem_take
abbrev AcG:=@Option.some.injEq
abbrev jQ:=@Go.run_string_add
abbrev ZB1:=@List.perm_middle
abbrev ZEG:=@Nat.min_eq_right
abbrev jT:=@Nat.add_assoc
abbrev jU:=@And.intro
abbrev B_(w W:World):Prop:=Go.RowKit.Below w.heap.size w W
abbrev C_(f:FuncId)(a:Array Value)(w:World)(v:Value):Prop:=Calls Tryz.prog f a w fun e w'=>e=.returned v/\Go.RowKit.Below w.heap.size w w'
abbrev ya(f:FuncId)(a:Array Value)(w:World)(v:Value):Prop:=Calls Tryz.prog f a w fun e w'=>e=.returned v/\w=w'
abbrev P_(b:Nat):Option Addr:=some ⟨b,0,none⟩
abbrev Y_:=ByteArray
variable{p:Prop}
abbrev Zq(h:p:=by
 have q0:∀W,duo w 36 (y_ s AL cL AO cO AF cF AH cH AN cN) false W->W.cell? ⟨w.heap.size,0,none⟩=some (.slice AL s.letters.length cL):=fun W h=>(Ac h.box).1.1
 have q1:∀W,duo w 36 (y_ s AL cL AO cO AF cF AH cH AN cN) false W->W.cell? ⟨w.heap.size,1,none⟩=some (.int .i64 s.day.plan.bins):=fun W h=>(Ac h.box).1.2.1
 have q2:∀W,duo w 36 (y_ s AL cL AO cO AF cF AH cH AN cN) false W->W.cell? ⟨w.heap.size,2,none⟩=some (.int .i64 s.day.plan.passes):=fun W h=>(Ac h.box).1.2.2.1
 have q3:∀W,duo w 36 (y_ s AL cL AO cO AF cF AH cH AN cN) false W->W.cell? ⟨w.heap.size,3,none⟩=some (.slice AO s.day.plan.order.length cO):=fun W h=>(Ac h.box).1.2.2.2.1
 have q4:∀W,duo w 36 (y_ s AL cL AO cO AF cF AH cH AN cN) false W->W.cell? ⟨w.heap.size,4,none⟩=some (.slice AF s.day.fwds.length cF):=fun W h=>(Ac h.box).1.2.2.2.2.1
 have q5:∀W,duo w 36 (y_ s AL cL AO cO AF cF AH cH AN cN) false W->W.cell? ⟨w.heap.size,5,none⟩=some (.slice AH s.day.held.length cH):=fun W h=>(Ac h.box).1.2.2.2.2.2.1
 have q6:∀W,duo w 36 (y_ s AL cL AO cO AF cF AH cH AN cN) false W->W.cell? ⟨w.heap.size,6,none⟩=some (.int .i64 s.day.size):=fun W h=>(Ac h.box).1.2.2.2.2.2.2.1
 have q7:∀W,duo w 36 (y_ s AL cL AO cO AF cF AH cH AN cN) false W->W.cell? ⟨w.heap.size,7,none⟩=some (.slice AN s.net.length cN):=fun W h=>(Ac h.box).1.2.2.2.2.2.2.2
 obtain k:=_;exact k):=h
abbrev YZ(h:p:=by
 show Bu _ _ _ _ _ _ _ _ (Act.put _ (some 63) _) _
 refine' ZV;refine Bk (rs:=[8]) ZB ZF ?_;refine' Yz;(refine Bl (α:=Y_) ZG (.tmp 60) (.tmp 63) 28 ZG W3.heap.size 9 i0 _ 16 aW hi ah ar ap rfl ZE (.slice (P_ G8) (LT.length+1) c8) (LT++[x]) ZG (iv.out.drew) _ LD ZG _ (oZ.out _ (Ag (aF _ _))) gx dy ge ?_;intro v9 w9 o9 gw _;have l9:B_ W3 w9:=(l8.trans ((Ag (aF w8.heap.size w8)).mono l8.size)).trans (Ay iv.out.drew gw ge);have dp:=l3.trans (l9.mono l3.size);have gg:=nK _ dp;have gh:=nN _ dp;obtain⟨r0,r1,r2,f0,f1,f2⟩:=B7 (kd.out _ dp);obtain⟨A9,n9,c9,rfl, -, -, -, -⟩:=o9.rd;have O9:=aA o9;clear o9)
 refine hK.out _ _ (fun _=>⟨gg,gh⟩) (fun aa=>?_);refine' Xl;refine' ZHA;go_simp;refine hK.out _ _ (fun _=>⟨gg,gh⟩) (fun aa=>?_);refine' Xl;refine Bk (rs:=[10]) ZB ZF ?_;refine' Yz;go_simp;refine hK.out _ _ (fun _=>⟨(ZDN (Nat.ne_of_lt (dW _)) _ _ _).trans gg,(ZDN (Nat.ne_of_lt (dW _)) _ _ _).trans gh⟩) (fun aa=>?_);refine' Xl;refine' Mt;go_simp;refine hK.out _ _ (fun h=>absurd rfl h) (fun _=>?_);clear hK K aa
 refine' ZV;refine J2 ZB ?_ _;have ak:=aA (kd.out _ dp);have pi:=aA (dc.out.trans (dp.mono dc.out.size));have be:w.heap.size+1<W3.heap.size:=bR (Array.getElem?_eq_some_iff.1 i6.out).1 l3.size;clear l9 dp k0 k1 gg gh r0 r1 r2 f0 f1 f2 l8 ei l3 u0 u1 nK nN ue ug
 refine' ZC;refine Ax rfl rfl (Bp ak.out) iM rfl Tryz.sizePlK rfl ?_;refine⟨.slice A9 n9 c9,by rw[nd.out,d9.out];rfl,?_,Ai (Ai (Ai pi.out (eL _) _) (eL _) _) (eL _) _⟩;rw[nd.out];show own _ _ _ _ (Ju p.order f t);rw[th.out,pR.out,ma.out,mX.out,show LT++x::LD=LT++[x]++LD by simp];exact(Bd (Bd (Bd O9.out ⟨w.heap.size+1,0,none⟩ _ be) ⟨w.heap.size+1,1,none⟩ _ be) ⟨w.heap.size+1,2,none⟩ _ be).base_ (iA (Nat.lt_of_succ_lt be))):=h
abbrev ZA(h:p:=by omega):=h
abbrev ZD(h:p:=by rw[bU];decide):=h
abbrev ZLx(h:p:=by refine' ZLy;refine' ZLR;obtain k:=_;exact k):=h
abbrev ZHP(h:p:=by
 simp only[Act.put,List.setIfInBounds_toArray,List.set_cons_zero,List.set_cons_succ]
 obtain k:=_;exact k):=h
abbrev ZZZ(h:p:=by
 refine' ZC;refine(p_ g pp 2 _ fh ZA ZS).mono ?_;rintro e w3 ⟨y,rfl,hy,fy,er⟩;have B3:Hid (B_ w w3):=B2.out.trans (Pd er B2.out.size (fun r e=>ZY));by_cases te:y=0
 .have mf:(y==0)=true:=by simp[te]
  refine' ZI;exact⟨_,rfl,ZA,B3.out⟩
 have mf:(y==0)=false:=by simp[te]
 refine' ZC;refine(p_ g (pp+1) 256 _ fy ZA ZS).mono ?_;rintro e w4 ⟨z,rfl,hz,ik,a6⟩;refine' ZHK;have B4:Hid (B_ w w4):=B3.out.trans (Pd a6 B3.out.size (fun r e=>ZY));refine' ZC;refine(p_ g (pp+1+1) 256 _ ik ZA ZS).mono ?_;rintro e w5 ⟨y2,rfl,pJ,ex,aj⟩;obtain⟨PA,PB⟩:=pJ.2 ZA;have kX:Hid (B_ w w5):=B4.out.trans (Pd aj B4.out.size (fun r e=>ZY));obtain⟨p3,pq⟩:∃p3,pp+1+1+1=p3:=⟨_,rfl⟩;rw[pq]at ex;have nZ:p3<=200000:=ZA
 have rF:=aA ex;have EK:aD.wrap (z+y2)=z+y2:=bG _ ZA;have GO:0<=z+y2:=ZA
 have PD:¬((F.size:Int)=0):=ZA
 have xe:(0:Int)<(F.size:Int):=ZA
 obtain⟨k,hk⟩:∃k:Nat,(z+y2)%(F.size:Int)=(k:Int):=⟨((z+y2)%(F.size:Int)).toNat,by have:=Int.emod_nonneg (z+y2) PD;omega⟩;have hkF:k<F.size:=by have:=ZBr (z+y2) xe;omega
 have FV:(k:Int)<=(F.size:Int):=ZA
 have fp:(0:Int)<=(k:Int):=ZA
 have GA:(z+y2).tmod (F.size:Int)=(k:Int):=by rw[ZBh GO];exact hk
 refine' ZC;have td:=rF.out.lt;have FW:Hid (∀(x:Y_),x.size<=1->∀W,(Op.stringOp .add (F.extract 0 k) x).run Tryz.prog W=.ok (.string (F.extract 0 k++x)) W):=fun x hx W=>jQ (w:=W) _ _ zL ZA
 have FX:Hid (∀(x:Y_) (n:Nat),x.size<=1->∀W,(Op.stringOp .add (F.extract 0 k++x) (F.extract n F.size)).run Tryz.prog W=.ok (.string (F.extract 0 k++x++F.extract n F.size)) W):=fun x n hx W=>jQ (w:=W) _ _ ZJr zL
 refine' ZZR;have R1:Hid (∀o:Obj,rdr (w5.alloc o).drew g p3):=fun o=>(rF.out.alloc o).below ((aF _ _).drew)
 have O1:Hid (own 9 (g+1) (w5.alloc (aB #[aG ⟨#[]⟩,aG ⟨#[32]⟩,aG ⟨#[10]⟩,aG ⟨#[120]⟩,aG ⟨#[48]⟩] 9)).drew (.slice (P_ w5.heap.size) 5 5) ([⟨#[]⟩,⟨#[32]⟩,⟨#[10]⟩,⟨#[120]⟩,⟨#[48]⟩]:List Y_)):=(X_ 9 (g+1) w5 ([⟨#[]⟩,⟨#[32]⟩,⟨#[10]⟩,⟨#[120]⟩,⟨#[48]⟩]:List Y_) (by intro x hx;simp at hx;rcases hx with rfl|rfl|rfl|rfl|rfl<;>decide) ZE td).drew;have lm:Hid (∀W v,rdr W g p3->kept2 g w5.heap.size w5 W->own 9 (g+1) W v ([⟨#[]⟩,⟨#[32]⟩,⟨#[10]⟩,⟨#[120]⟩,⟨#[48]⟩]:List Y_)->Calls Tryz.prog 22 #[.pointer (P_ g),v] W fun e W'=>∃x:Y_,e=.returned (.string x)/\x.size<=1/\rdr W' g (p3+1)/\kept2 g w5.heap.size w5 W'):=fun W v hr hk hv=>by refine(Vn 9 g _ v ([⟨#[]⟩,⟨#[32]⟩,⟨#[10]⟩,⟨#[120]⟩,⟨#[48]⟩]:List Y_) W hr ZA hv ZE).mono ?_;rintro e w6 ⟨x,hx,rfl,_,ks,kI⟩;exact⟨x,rfl,by simp at hx;rcases hx with rfl|rfl|rfl|rfl|rfl<;>decide,ks,hk.step kI (aC _)⟩
 have sh:Hid (∀W,rdr W g (p3+1)->kept2 g w5.heap.size w5 W->Calls Tryz.prog 21 #[.pointer (P_ g),.int .i64 2] W fun e W'=>∃m:Nat,e=.returned (.int .i64 (m:Int))/\m<=1/\kept2 g w5.heap.size w5 W'):=fun W hr hk=>by refine(p_ g _ 2 _ hr ZA ZS).mono ?_;rintro e w6 ⟨z,rfl,hz,ks,kI⟩;refine' ZHK;obtain⟨m,rfl⟩:=aK z0;exact⟨m,rfl,ZA,hk.step kI (aC _)⟩
 go_region_held3 (fun W=>kept2 g w5.heap.size w5 W) (first|exact K0.out|exact K1.out _|exact K2.out _|exact k6|exact k7|fail) (first|(go_at_call 22;(with_reducible refine(lm.out _ _ (R1.out _) (K1.out _) O1.out).mono ?_);rintro e w6 ⟨x,rfl,ke,ks,k6⟩;have uX:=FW.out x ke)|(go_at_call 21;(with_reducible refine(sh.out _ ks k6).mono ?_);rintro e w7 ⟨m,rfl,qq,k7⟩;obtain⟨n,hn⟩:∃n:Nat,n=k+m:=⟨_,rfl⟩;have tq:aD.wrap ((k:Int)+(m:Int))=(n:Int):=Z8;have FS:(n:Int)<=(F.size:Int):=ZA;have FU:(0:Int)<=(n:Int):=ZA;have uj:=FX.out x n ke;clear hn)|fail)
 all_goals
  have b7:B_ w w7:=kX.out.trans (k7.toBelow hg kX.out.size);have pB:=aA b7;have HZ:Hid ((F.extract 0 k++x++F.extract n F.size).size<=200000):=by show _<=_;exact ZZS
  refine' ZI;exact⟨_,rfl,HZ.out,pB.out⟩):=h
abbrev ZLh(h:p:=by
 refine' YK;refine' ZLz;obtain⟨W2,bg⟩:∃u,u=w8.setCell ⟨w.heap.size,5,none⟩ (.slice (P_ G8) (s.day.held.length+1) c8):=⟨_,rfl⟩;rw[<-bg];have k8:=k0.below l8;have kH:own 9 wB.heap.size W2 (.slice (P_ G8) (s.day.held.length+1) c8) (s.day.held++[f]):=by rw[bg];exact Bd o8 ⟨w.heap.size,5,none⟩ _ ZGv
 have k2:duo w 36 #[.slice AL s.letters.length cL,.int .i64 s.day.plan.bins,.int .i64 s.day.plan.passes,.slice AO s.day.plan.order.length cO,.slice AF s.day.fwds.length cF,.slice (P_ G8) (s.day.held.length+1) c8,.int .i64 s.day.size,.slice AN s.net.length cN] false W2:=by rw[bg];exact k8.put 5 _
 refine' Nc;refine' YD;clear bg kH k8 k0 aq o8 l8 il o7 l7 ce gm aa la lt lb lc lP nc oO qf ea eb ec oa rA rC rb rc ki uf y0 q0 q1 q2 q3 q4 q5 q6 q7
 refine' ZC;refine' Xp;have p0:∀W,duo w 36 #[.slice AL s.letters.length cL,.int .i64 s.day.plan.bins,.int .i64 s.day.plan.passes,.slice AO s.day.plan.order.length cO,.slice AF s.day.fwds.length cF,.slice (P_ G8) (s.day.held.length+1) c8,.int .i64 s.day.size,.slice AN s.net.length cN] false W->W.cell? ⟨w.heap.size,0,none⟩=some (.slice AL s.letters.length cL):=fun W h=>(Ac h.box).1.1
 have p1:∀W,duo w 36 #[.slice AL s.letters.length cL,.int .i64 s.day.plan.bins,.int .i64 s.day.plan.passes,.slice AO s.day.plan.order.length cO,.slice AF s.day.fwds.length cF,.slice (P_ G8) (s.day.held.length+1) c8,.int .i64 s.day.size,.slice AN s.net.length cN] false W->W.cell? ⟨w.heap.size,1,none⟩=some (.int .i64 s.day.plan.bins):=fun W h=>(Ac h.box).1.2.1
 have p2:∀W,duo w 36 #[.slice AL s.letters.length cL,.int .i64 s.day.plan.bins,.int .i64 s.day.plan.passes,.slice AO s.day.plan.order.length cO,.slice AF s.day.fwds.length cF,.slice (P_ G8) (s.day.held.length+1) c8,.int .i64 s.day.size,.slice AN s.net.length cN] false W->W.cell? ⟨w.heap.size,2,none⟩=some (.int .i64 s.day.plan.passes):=fun W h=>(Ac h.box).1.2.2.1
 have p3:∀W,duo w 36 #[.slice AL s.letters.length cL,.int .i64 s.day.plan.bins,.int .i64 s.day.plan.passes,.slice AO s.day.plan.order.length cO,.slice AF s.day.fwds.length cF,.slice (P_ G8) (s.day.held.length+1) c8,.int .i64 s.day.size,.slice AN s.net.length cN] false W->W.cell? ⟨w.heap.size,3,none⟩=some (.slice AO s.day.plan.order.length cO):=fun W h=>(Ac h.box).1.2.2.2.1
 have p4:∀W,duo w 36 #[.slice AL s.letters.length cL,.int .i64 s.day.plan.bins,.int .i64 s.day.plan.passes,.slice AO s.day.plan.order.length cO,.slice AF s.day.fwds.length cF,.slice (P_ G8) (s.day.held.length+1) c8,.int .i64 s.day.size,.slice AN s.net.length cN] false W->W.cell? ⟨w.heap.size,4,none⟩=some (.slice AF s.day.fwds.length cF):=fun W h=>(Ac h.box).1.2.2.2.2.1
 have p5:∀W,duo w 36 #[.slice AL s.letters.length cL,.int .i64 s.day.plan.bins,.int .i64 s.day.plan.passes,.slice AO s.day.plan.order.length cO,.slice AF s.day.fwds.length cF,.slice (P_ G8) (s.day.held.length+1) c8,.int .i64 s.day.size,.slice AN s.net.length cN] false W->W.cell? ⟨w.heap.size,5,none⟩=some (.slice (P_ G8) (s.day.held.length+1) c8):=fun W h=>(Ac h.box).1.2.2.2.2.2.1
 have p6:∀W,duo w 36 #[.slice AL s.letters.length cL,.int .i64 s.day.plan.bins,.int .i64 s.day.plan.passes,.slice AO s.day.plan.order.length cO,.slice AF s.day.fwds.length cF,.slice (P_ G8) (s.day.held.length+1) c8,.int .i64 s.day.size,.slice AN s.net.length cN] false W->W.cell? ⟨w.heap.size,6,none⟩=some (.int .i64 s.day.size):=fun W h=>(Ac h.box).1.2.2.2.2.2.2.1
 have p7:∀W,duo w 36 #[.slice AL s.letters.length cL,.int .i64 s.day.plan.bins,.int .i64 s.day.plan.passes,.slice AO s.day.plan.order.length cO,.slice AF s.day.fwds.length cF,.slice (P_ G8) (s.day.held.length+1) c8,.int .i64 s.day.size,.slice AN s.net.length cN] false W->W.cell? ⟨w.heap.size,7,none⟩=some (.slice AN s.net.length cN):=fun W h=>(Ac h.box).1.2.2.2.2.2.2.2
 go_region_held3 (fun W=>duo w 36 #[.slice AL s.letters.length cL,.int .i64 s.day.plan.bins,.int .i64 s.day.plan.passes,.slice AO s.day.plan.order.length cO,.slice AF s.day.fwds.length cF,.slice (P_ G8) (s.day.held.length+1) c8,.int .i64 s.day.size,.slice AN s.net.length cN] false W) (first|(with_reducible exact fc)|(with_reducible exact k3)|exact gA|fail) (first|(go_at_call 31;refine' Xo)|(refine' Vz)|fail)
 all_goals refine' Tj;exact Bs.fin (s':={s with day:={s.day with held:=s.day.held++[f]}}) ((HS.out.cut L4.out).setH (RX.out.on (Ct.below _ kP.out))) L4.out):=h
abbrev Xr(h:p:=by
 refine' Z6;obtain⟨cs,ax⟩:∃u:Array Value,u=(y_ s AL cL AO cO AF cF AH cH AN cN):=⟨_,rfl⟩;rw[<-ax]at k0 aq;have q0:∀W,duo w 36 cs false W->W.cell? ⟨w.heap.size,0,none⟩=some (.slice AL s.letters.length cL):=fun W h=>(Ac (ax▸h.box)).1.1
 have q1:∀W,duo w 36 cs false W->W.cell? ⟨w.heap.size,1,none⟩=some (.int .i64 s.day.plan.bins):=fun W h=>(Ac (ax▸h.box)).1.2.1
 have q2:∀W,duo w 36 cs false W->W.cell? ⟨w.heap.size,2,none⟩=some (.int .i64 s.day.plan.passes):=fun W h=>(Ac (ax▸h.box)).1.2.2.1
 have q3:∀W,duo w 36 cs false W->W.cell? ⟨w.heap.size,3,none⟩=some (.slice AO s.day.plan.order.length cO):=fun W h=>(Ac (ax▸h.box)).1.2.2.2.1
 have q4:∀W,duo w 36 cs false W->W.cell? ⟨w.heap.size,4,none⟩=some (.slice AF s.day.fwds.length cF):=fun W h=>(Ac (ax▸h.box)).1.2.2.2.2.1
 have q5:∀W,duo w 36 cs false W->W.cell? ⟨w.heap.size,5,none⟩=some (.slice AH s.day.held.length cH):=fun W h=>(Ac (ax▸h.box)).1.2.2.2.2.2.1
 have q6:∀W,duo w 36 cs false W->W.cell? ⟨w.heap.size,6,none⟩=some (.int .i64 s.day.size):=fun W h=>(Ac (ax▸h.box)).1.2.2.2.2.2.2.1
 have q7:∀W,duo w 36 cs false W->W.cell? ⟨w.heap.size,7,none⟩=some (.slice AN s.net.length cN):=fun W h=>(Ac (ax▸h.box)).1.2.2.2.2.2.2.2
 have sX:=aA ax;clear ax;obtain k:=_;exact k):=h
abbrev ZLV(h:p:=by
 refine' Xp;have p0:∀W,duo w 36 #[.slice AL s.letters.length cL,.int .i64 s.day.plan.bins,.int .i64 s.day.plan.passes,.slice AO s.day.plan.order.length cO,.slice AX nX cX,.slice AH s.day.held.length cH,.int .i64 s.day.size,.slice AN s.net.length cN] false W->W.cell? ⟨w.heap.size,0,none⟩=some (.slice AL s.letters.length cL):=fun W h=>(Ac h.box).1.1
 have p1:∀W,duo w 36 #[.slice AL s.letters.length cL,.int .i64 s.day.plan.bins,.int .i64 s.day.plan.passes,.slice AO s.day.plan.order.length cO,.slice AX nX cX,.slice AH s.day.held.length cH,.int .i64 s.day.size,.slice AN s.net.length cN] false W->W.cell? ⟨w.heap.size,1,none⟩=some (.int .i64 s.day.plan.bins):=fun W h=>(Ac h.box).1.2.1
 have p2:∀W,duo w 36 #[.slice AL s.letters.length cL,.int .i64 s.day.plan.bins,.int .i64 s.day.plan.passes,.slice AO s.day.plan.order.length cO,.slice AX nX cX,.slice AH s.day.held.length cH,.int .i64 s.day.size,.slice AN s.net.length cN] false W->W.cell? ⟨w.heap.size,2,none⟩=some (.int .i64 s.day.plan.passes):=fun W h=>(Ac h.box).1.2.2.1
 have p3:∀W,duo w 36 #[.slice AL s.letters.length cL,.int .i64 s.day.plan.bins,.int .i64 s.day.plan.passes,.slice AO s.day.plan.order.length cO,.slice AX nX cX,.slice AH s.day.held.length cH,.int .i64 s.day.size,.slice AN s.net.length cN] false W->W.cell? ⟨w.heap.size,3,none⟩=some (.slice AO s.day.plan.order.length cO):=fun W h=>(Ac h.box).1.2.2.2.1
 have p4:∀W,duo w 36 #[.slice AL s.letters.length cL,.int .i64 s.day.plan.bins,.int .i64 s.day.plan.passes,.slice AO s.day.plan.order.length cO,.slice AX nX cX,.slice AH s.day.held.length cH,.int .i64 s.day.size,.slice AN s.net.length cN] false W->W.cell? ⟨w.heap.size,4,none⟩=some (.slice AX nX cX):=fun W h=>(Ac h.box).1.2.2.2.2.1
 have p5:∀W,duo w 36 #[.slice AL s.letters.length cL,.int .i64 s.day.plan.bins,.int .i64 s.day.plan.passes,.slice AO s.day.plan.order.length cO,.slice AX nX cX,.slice AH s.day.held.length cH,.int .i64 s.day.size,.slice AN s.net.length cN] false W->W.cell? ⟨w.heap.size,5,none⟩=some (.slice AH s.day.held.length cH):=fun W h=>(Ac h.box).1.2.2.2.2.2.1
 have p6:∀W,duo w 36 #[.slice AL s.letters.length cL,.int .i64 s.day.plan.bins,.int .i64 s.day.plan.passes,.slice AO s.day.plan.order.length cO,.slice AX nX cX,.slice AH s.day.held.length cH,.int .i64 s.day.size,.slice AN s.net.length cN] false W->W.cell? ⟨w.heap.size,6,none⟩=some (.int .i64 s.day.size):=fun W h=>(Ac h.box).1.2.2.2.2.2.2.1
 have p7:∀W,duo w 36 #[.slice AL s.letters.length cL,.int .i64 s.day.plan.bins,.int .i64 s.day.plan.passes,.slice AO s.day.plan.order.length cO,.slice AX nX cX,.slice AH s.day.held.length cH,.int .i64 s.day.size,.slice AN s.net.length cN] false W->W.cell? ⟨w.heap.size,7,none⟩=some (.slice AN s.net.length cN):=fun W h=>(Ac h.box).1.2.2.2.2.2.2.2
 obtain k:=_;exact k):=h
abbrev ZM(h:p:=by
 intro w_ af
 (try dsimp only at af)
 go_simp
 try with_reducible rfl):=h
abbrev Rr(h:p:=by obtain⟨A0,c0,e0⟩:=Gx hv;refine' ZKq;have q0:=Af ac 0 (.int .i64 p.bins) rfl;have q1:=Af ac 1 (.int .i64 p.passes) rfl;have q2:=Af ac 2 (.slice A0 p.order.length c0) rfl;refine' Wn;have HP:=aA (hv.on HT.out);obtain k:=_;exact k):=h
abbrev ZZa(h:p:=by
 have kd:=aA (fun W (h:B_ w1 W)=>(h.block _ (Array.getElem?_eq_some_iff.1 i6.out).1).trans i6.out);have k0:∀W,B_ w8 W->W.cell? ⟨w.heap.size,0,none⟩=some (.int .i64 p.bins):=fun W h=>u0 W (ei.trans (h.mono ei.size))
 have k1:∀W,B_ w8 W->W.cell? ⟨w.heap.size,1,none⟩=some (.int .i64 p.passes):=fun W h=>u1 W (ei.trans (h.mono ei.size))
 have iv:=aA o8
 refine' ZC;refine Hs (S:=fun W=>W.cell? ⟨w.heap.size,0,none⟩=some (.int .i64 p.bins)/\W.cell? ⟨w.heap.size,1,none⟩=some (.int .i64 p.passes)) 11 ZB ⟨k0 _ (Ag (aF _ _)),k1 _ (Ag (aF _ _))⟩ (fun aa=>?_);obtain k:=_;exact k):=h
abbrev Va(h:p:=by
 obtain⟨⟨e0,e1,e2,e3,e4,e5,e6,e7⟩,hf⟩:=Ac hr;have f0:=hf 0;have f1:=hf 1;have f2:=hf 2;have f3:=hf 3;have f4:=hf 4;have f5:=hf 5;have f6:=hf 6;have f7:=hf 7;clear hf
 obtain k:=_;exact k):=h
abbrev Nb(h:p:=by
 have q0:=fun W (h:stS w w.heap.size 36 (y_ s AL cL AO cO AF cF AH cH AN cN) W)=>(Ac h.box).1.1
 refine' ZXt
 obtain k:=_;exact k):=h
abbrev ZG5(h:p:=by
 refine' YE;have a2:¬9223372036854775807<F.size+1+4:=ZA
 refine' WD;clear hS;have rr:=q7 _ k0;rw[au.out]at rr;go_enter func109,ntmps109
 refine' Zx;go_wp2_with (go_at_call 188;refine(HC.out _ k0).mono ?_;refine' Zw;have k1:=k0.below z1;have R1:=aA o1.rd;refine' X3;clear o1)
 have oV:=aA (fun W (h:B_ u1 W)=>uD.out _ W (R1.out.on h));clear k0 aq z1 q7;have ld:=Ag (aF u1.heap.size u1);have la:=Ae ld (aB #[.string ⟨#[104,111,109,101]⟩,.string ⟨#[108,111,115,116]⟩,.string ⟨#[108,111,111,112]⟩,.string ⟨#[]⟩] 9);have lb:=Ag (Ae (aF u1.heap.size u1) (aB #[.string ⟨#[104,111,109,101]⟩,.string ⟨#[108,111,115,116]⟩,.string ⟨#[108,111,111,112]⟩,.string ⟨#[]⟩] 9))
 go_region_law (first|(go_simp;go_at_call 31;first|((with_reducible refine(oV.out _ ld).mono ?_);refine' ZP)|((with_reducible refine(oV.out _ la).mono ?_);rintro e _ ⟨rfl,rfl⟩)|((with_reducible refine(oV.out _ lb).mono ?_);refine' ZP))|(go_simp;refine' Vz)|fail)
 all_goals
  have K:=aA (Aa k1.lay la);have K2:=aA (Aa k1.lay lb);clear k1 la lb ld
  refine' ZI;first|exact⟨B8 (by rw[rU.out]),K.out⟩|exact⟨B8 (by rw[rU.out]),K2.out⟩):=h
abbrev ZHQ(h:p:=by obtain⟨A0,c0,A1,c1,A2,c2,e0⟩:=Aa3 hv;obtain⟨w0,ac⟩:∃w0,w0=w.alloc (aB #[.int .i64 d.plan.bins,.int .i64 d.plan.passes,.slice A0 d.plan.order.length c0,.slice A1 d.fwds.length c1,.slice A2 d.held.length c2,.int .i64 d.size] 33):=⟨_,rfl⟩;have q0:=Af ac 0 (.int .i64 d.plan.bins) rfl;have q1:=Af ac 1 (.int .i64 d.plan.passes) rfl;have q2:=Af ac 2 (.slice A0 d.plan.order.length c0) rfl;have q3:=Af ac 3 (.slice A1 d.fwds.length c1) rfl;have q4:=Af ac 4 (.slice A2 d.held.length c2) rfl;have q5:=Af ac 5 (.int .i64 d.size) rfl;refine' Wn;have je:=hv.on HT.out;subst e0;obtain k:=_;exact k):=h
abbrev ZNK(h:p:=by
 by_cases bc:f x<0
 .refine' ZHu;go_wp2_with (at_builtin;refine An (α:=Ltr) rfl (.tmp 49) (.tmp 54) 27 rfl w0.heap.size 119 i1 _ 24 aV ji dr du dw rfl ZE (.slice AO (Bn f (xs.take k)).length cO) (Bn f (xs.take k)) x rfl (ez.out.alloc _) ⟨w3.heap.size,0,none⟩ 1 (Ltr.cells x) rfl ⟨⟨fq,fj⟩,rfl⟩ (Bz w3 _ (Ltr.cells x)) ZN ZA ZH ?_;refine' Zm)
  exact ZHv
 .refine' ZHw;first|rw[HD.out]|rw[HD.out]at e2
  refine' ZHx;go_region_law (first|((refine Ce (α:=Ltr) ZG (.tmp 61) (.tmp 66) 27 ZG w0.heap.size 119 i1 _ 24 aV ji dr du dw rfl ZE (.slice Au zs.length cu) zs x ZG ((jW.out.alloc _).drew) ⟨w3.heap.size,0,none⟩ 1 (Ltr.cells x) ZG ⟨⟨fq,fj⟩,rfl⟩ (Ft w3 _ (Ltr.cells x)) ZN ZA ZH ?_;refine' Rp)))
  all_goals exact ZHy):=h
abbrev ZVE(h:p:=by
 refine' ZZb;have H2:Hid (Calls P 314 #[.slice (some ⟨blk,aw,none⟩) n cap,.int .i64 (20:Int),.int .i64 (40:Int),.func (.func g) #[] cb] w1 fun e w'=>e=.returned (.tuple #[])/\∃d',PermIn 20 40 d1 d'/\SortedIn Dc 20 40 d'/\SWK enc k w0 blk aw d' w'):=HI.out 20 40 d1 w1 Z1.out uZ.out ZA ZA (fun i i1 i2=>ZZc);refine' ZZd;have K2:Aside (∀i,40<=i->(d2[i]!)=(d0[i]!)):=fun i hi=>ZZe
 refine' ZZf;have kM:Aside (SortedIn Dc 20 40 d2):=s2;clear p2 s2 S2;obtain k:=_;exact k):=h
abbrev ZB(h:p:=by kernel_rfl):=h
abbrev YL(h:p:=by refine' ZLy;have k0:=stS.made ae;have aq:=k0.drew;refine' d_;clear ae;obtain k:=_;exact k):=h
abbrev ZC(h:p:=by
 go_wp2_with fail
 obtain k:=_;exact k):=h
abbrev ZLd(h:p:=by
 have x0:=Bx hf 0 ZF;have y0:=fun W (h:stS w w.heap.size 36 (y_ s AL cL AO cO AF cF AH cH AN cN) W)=>(h.lay.cell (p:=⟨g,0,none⟩) bz).trans x0
 obtain k:=_;exact k):=h
abbrev W7(h:p:=by
 refine' Zq;have x0:=Bx hf 0 ZF;have y0:=fun W (h:duo w 36 (y_ s AL cL AO cO AF cF AH cH AN cN) false W)=>(h.lay.cell (p:=⟨g,0,none⟩) bz).trans x0
 obtain k:=_;exact k):=h
abbrev ZL0(h:p:=by
 refine' N7;refine' ZLz;have ei:=l3.trans (l8.mono l3.size);have ge:=l8.size;clear il o7 l7 ce gm aa la lt lb lc lP nc oO qf ea eb ec oa rA rC rb rc ki;have gx:(LT++[x]).length+LD.length<=maxLen:=by unfold maxLen;exact Px
 have dy:((LT++[x]).length+LD.length)*16<=140737488355328:=Px
 obtain k:=_;exact k):=h
abbrev ZFo(h:p:=by refine' ZL1;have qr:((W2.setCell ⟨w.heap.size,0,none⟩ (.slice none 0 0)).setCell ⟨w.heap.size+1,0,none⟩ (.bool false)).heap[D]? =some (.deferred (some [])):=r2.same _ _ ((Cr hb).same _ _ hK rfl) rfl;have k0:=(r0.kept (grownBy_putObj' ((W2.setCell ⟨w.heap.size,0,none⟩ (.slice none 0 0)).setCell ⟨w.heap.size+1,0,none⟩ (.bool false)) D (.deferred none)) (fun e=>ZY)).cell;have k1:=(r1.kept (grownBy_putObj' ((W2.setCell ⟨w.heap.size,0,none⟩ (.slice none 0 0)).setCell ⟨w.heap.size+1,0,none⟩ (.bool false)) D (.deferred none)) (fun e=>ZY)).cell;have oD:B_ w (((W2.setCell ⟨w.heap.size,0,none⟩ (.slice none 0 0)).setCell ⟨w.heap.size+1,0,none⟩ (.bool false)).putObj D (.deferred none)):=((hB.trans (hb.mono hB.size)).trans (r3 _ (aC _))).grown (grownBy_putObj' _ _ _) ZZg (fun r e=>ZY);refine⟨ZF,.inl ⟨_,_,rfl,run_takeDeferred qr,?_⟩⟩;obtain k:=_;exact k):=h
abbrev ZWe(h:p:=by
 refine' ZWg
 .obtain⟨k,hk,rfl,mt,rfl⟩:=hrel;by_cases ab:k<d.size
  .refine' ZWh;by_cases bv:b.toNat<48
   .have HO:Hid (x_ d false=false):=ZGn
    refine' eE;have nE:(b.toNat:Int)<48:=ZA
    exact W_
   by_cases dq:57<b.toNat
   .have HO:Hid (x_ d false=false):=ZGn
    exact ZWi
   exact ZWj
  .refine' ZWk;have HO:Hid (x_ d false=true):=ZWl
   have HV:Hid (N5 d false=(Fe d.data.toList:Int)):=ZWm
   exact ZWn):=h
abbrev ZUX(h:p:=by have qr:((W2.setCell ⟨w.heap.size,0,none⟩ (.slice A m cp)).setCell ⟨w.heap.size+1,0,none⟩ (.bool true)).heap[D]? =some (.deferred (some [])):=r2.same _ _ ((Cr hb).same _ _ hK rfl) rfl;have k0:=(r0.kept (grownBy_putObj' ((W2.setCell ⟨w.heap.size,0,none⟩ (.slice A m cp)).setCell ⟨w.heap.size+1,0,none⟩ (.bool true)) D (.deferred none)) (fun e=>ZY)).cell;have k1:=(r1.kept (grownBy_putObj' ((W2.setCell ⟨w.heap.size,0,none⟩ (.slice A m cp)).setCell ⟨w.heap.size+1,0,none⟩ (.bool true)) D (.deferred none)) (fun e=>ZY)).cell;have oD:B_ w (((W2.setCell ⟨w.heap.size,0,none⟩ (.slice A m cp)).setCell ⟨w.heap.size+1,0,none⟩ (.bool true)).putObj D (.deferred none)):=((hB.trans (hb.mono hB.size)).trans (r3 _ (aC _))).grown (grownBy_putObj' _ _ _) ZZg (fun r e=>ZY);refine⟨ZF,.inl ⟨_,_,rfl,run_takeDeferred qr,?_⟩⟩;obtain k:=_;exact k):=h
abbrev ZFb(h:p:=by refine' YT;gi_at_call 51;refine(CallsIn.inRound l (callsIn_wide.2 pK)).mono ?_;rintro e W2 ⟨hb,rfl⟩;refine' ZZh;obtain k:=_;exact k):=h
abbrev ZN(h:p:=by unfold maxLen;omega):=h
abbrev Vf(h:p:=by
 obtain⟨gr,qA⟩:∃gr,Ar=some ⟨gr,0,none⟩:=by
  rcases O3.out.form with⟨e,_⟩|⟨gr,cc,e,_⟩
  .injection e with e1 e2 e3
   exact absurd (show cr=t by omega) kl
  .injection e with e1 e2 e3
   exact⟨gr,e1⟩
 subst qA;have oZ:Hid (∀W,B_ w8 W->R_ W (.slice (some ⟨gr,t,none⟩) (L.length - t) (cr - t)) LD):=fun W h=>by refine' ZZi;rw[aM kl,mX.out]at h;simpa [Ii,El.size]using h
 refine' ZZa;obtain k:=_;exact k):=h
abbrev ZV9(h:p:=by
 have bz:w.heap.size<=gb:=ZA
 rw[<-NE]at kV⊢;clear NE;have kC:=aA (HD.out.below K2.out);have fe:=aA (ZB5 O2.out HD.out.held);have xI:=aA (O2.out.base_ hB);obtain⟨a0,a1,a2,_,_,_⟩:=B7 kV.out;refine' ZVo;have rq:Hid (Bv B (((W2.setCell ⟨d,1,none⟩ (.int .i64 mb)).setCell ⟨d,2,none⟩ (.int .i64 mp)).setCell ⟨d,3,none⟩ (.slice AV nV cV)) d {s with day:={s.day with plan:=⟨mb,mp,mo⟩}} vH):=((kC.out.setBins mb).setPasses mp).setOrder (D3 (D3 xI.out kC.out.obj ZE 1) (kC.out.setBins mb).obj ZE 2) fe.out;have XD:Hid (Kd d vH w (((W2.setCell ⟨d,1,none⟩ (.int .i64 mb)).setCell ⟨d,2,none⟩ (.int .i64 mp)).setCell ⟨d,3,none⟩ (.slice AV nV cV))):=(((Kd.of_below K2.out).set 1 _).set 2 _).set 3 _;have XE:Hid (I4 (((W2.setCell ⟨d,1,none⟩ (.int .i64 mb)).setCell ⟨d,2,none⟩ (.int .i64 mp)).setCell ⟨d,3,none⟩ (.slice AV nV cV))):=(((HT.out.on K2.out).setD kC.out 1 _).setD (kC.out.setBins mb) 2 _).setD ((kC.out.setBins mb).setPasses mp) 3 _;have uA:Hid (ok=true->C_ 123 #[.agg #[.int .i64 mb,.int .i64 mp,.slice AV nV cV]] (((W2.setCell ⟨d,1,none⟩ (.int .i64 mb)).setCell ⟨d,2,none⟩ (.int .i64 mp)).setCell ⟨d,3,none⟩ (.slice AV nV cV)) (.string (E7 ⟨mb,mp,mo⟩))):=fun ag=>ZCJ _ ⟨mb,mp,mo⟩ _ ⟨_,rfl,(ND.out ag).1,(ND.out ag).2,(D3 (D3 (D3 xI.out kC.out.obj ZE 1) (kC.out.setBins mb).obj ZE 2) ((kC.out.setBins mb).setPasses mp).obj ZE 3).rd⟩ XE.out
 clear hf;cases ok
 .refine' ZI;rw[ef.out,RZ.out];refine' ZGg;exact Bb.of_read HD.out rfl K2.out
 .have ET:=aA (uA.out rfl)
  clear uA
  refine' ZC;refine ET.out.mono ?_;rintro e w9 ⟨rfl,b9⟩;have B9:=aA b9;clear b9
  refine' ZI;rw[ef.out,RZ.out];refine' ZGg;exact Bb.post ⟨rfl,vH,rq.out,XD.out,Nu.refl _ _⟩ B9.out):=h
abbrev X8(h:p:=by
 refine(callsIn_wide.2 HV).mono ?_;rintro e W2 ⟨rfl,hb⟩;refine' ZZh;have z2:Boxed W2 _ _ _:=(hb.block _ jY.out.lt).trans jY.out;refine' ZFf
 obtain k:=_;exact k):=h
abbrev ZL2(h:p:=by
 rw[hF]at ef⊢;clear hF jt l3;cases hq:zU F t
 .refine' ZZj;exact⟨_,G9 (HO.out.trans ef.out),by rw[HR.out,ef.out];exact own.made0 _ _ fu.out.size,fu.out.alloc fu.out.size _⟩
 .refine' ZZk;exact⟨_,G9 (HO.out.trans ef.out),ZZl,fu.out⟩):=h
abbrev Xq(h:p:=by obtain⟨AL,cL,AO,cO,AF,cF,AH,cH,AN,cN,rfl,rfl,rfl,rfl,rfl⟩:=hS.opened;obtain k:=_;exact k):=h
abbrev ZXM(h:p:=by
 obtain⟨A0,c0,e0⟩:=Gx hv;refine' zR;subst e0;obtain⟨wA,ae⟩:∃u,u=w.alloc (aB #[.int .i64 p.bins,.int .i64 p.passes,.slice A0 p.order.length c0] 30):=⟨_,rfl⟩;obtain⟨wB,ai⟩:∃u,u=wA.alloc (aB #[.int .i64 0,.int .i64 0,.slice none 0 0] 30):=⟨_,rfl⟩;refine' O_;have ml:wB.heap[w.heap.size]? =some (.cells #[.int .i64 p.bins,.int .i64 p.passes,.slice A0 p.order.length c0] 30 (0,0)):=by rw[ai,dL _ _ _ (by rw[j4];exact dW _),ae];exact X1
 have qO:wB.heap[w.heap.size+1]? =some (.cells #[.int .i64 0,.int .i64 0,.slice none 0 0] 30 (0,0)):=by rw[ai,<-j4];exact bC wA _
 have lB:B_ w wB:=by rw[ai,ae];exact Ae (Ae (aF _ _) _) _
 have nj:=(Array.getElem?_eq_some_iff.1 ml).1;have s9:=(Array.getElem?_eq_some_iff.1 qO).1;refine' d_;have bt:=aA ai;clear ae ai j4;have mS:=aA (Fo _ p wB (HV.out.on lB));rw[hk]at mS;obtain k:=_;exact k):=h
abbrev ZH(h:p:=by simp;omega):=h
abbrev ZE(h:p:=by decide):=h
abbrev Tj(h:p:=by
 refine' Th;have kP:=aA l3;clear k2 fc k3 l2 l3 hr e0 e1 e2 e3 e4 e5 e6 e7 f0 f1 f2 f3 f4 f5 f6 f7
 refine' N3;obtain k:=_;exact k):=h
abbrev Oh(h:p:=by
 clear hk;have HR:Hid (Ei p f t=⟨0,0,[]⟩):=ZDm HQ.out;refine' ZZm;clear bv mF
 refine' Q9;exact⟨.slice none 0 0,ZKx,Qe,Ai (Ai (Ai mU.out Tm _) Tm _) Tm _⟩):=h
abbrev ZHR(h:p:=by obtain⟨A',n',c',hv,_,h1,h2,_⟩:=hf.rd;injection hv with _ e2 e3;omega):=h
abbrev ZLg(h:p:=by have mr:((w.alloc (aB (y_ s AL cL AO cO AF cF AH cH AN cN) 36)).alloc (aB #[.slice none 0 0,.int .i64 0,.int .i64 0,.slice none 0 0,.slice none 0 0,.slice none 0 0,.int .i64 0,.slice none 0 0] 36)).cell? ⟨g,0,none⟩=some (.string f):=(((duo.made (w:=w) (T:=36) (cs:=(y_ s AL cL AO cO AF cF AH cH AN cN)) rfl rfl).lay).cell (p:=⟨g,0,none⟩) bz).trans x0;clear hS hf x0;obtain k:=_;exact k):=h
abbrev ZXW(h:p:=by
 have ug:∀W,B_ W3 W->W.cell? ⟨bo,oo+f,none⟩=some (.string x):=fun W h=>yf W (l3.trans (h.mono l3.size))
 clear u2 yf;have lD:([]:List Y_).length+LT.length<=maxLen:=by unfold maxLen;rw[cT];omega
 have lF:(([]:List Y_).length+LT.length)*16<=140737488355328:=by rw[cT];omega
 have lC:LT.length+1<=maxLen:=ZN
 have nJ:(LT.length+1)*16<=140737488355328:=ZA
 have yd:(t:Int)<=(cr:Int):=ZA
 have ht2:(t:Int)<=(L.length:Int):=ZA
 have ht3:(0:Int)<=(t:Int):=ZA
 have ht4:(f:Int)<(p.order.length:Int):=ZA
 have ht5:(0:Int)<=(f:Int):=ZA
 have ki:=(aF W3.heap.size W3).drew;have la:B_ W3 (W3.alloc (aB #[] 9)):=(aF W3.heap.size W3).alloc (aC _) _;have ea:own (α:=Y_) 9 W3.heap.size (W3.alloc (aB #[] 9)) (.slice (P_ W3.heap.size) 0 0) []:=own.made0 W3 _ (aC _);refine' ZLL;have lt:B_ W3 (W3.alloc (aB #[.string x] 9)):=(aF W3.heap.size W3).alloc (aC _) _;have lb:B_ W3 ((W3.alloc (aB #[] 9)).alloc (aB #[.string x] 9)):=la.alloc ZF _;have lc:B_ W3 ((W3.alloc (aB #[.string x] 9)).alloc (aB #[] 9)):=lt.alloc ZF _;have eb:=ea.alloc (aB #[.string x] 9);have ec:own (α:=Y_) 9 W3.heap.size ((W3.alloc (aB #[.string x] 9)).alloc (aB #[] 9)) (.slice (some ⟨W3.heap.size+1,0,none⟩) 0 0) []:=by
  have:=own.made0 (α:=Y_) (W3.alloc (aB #[.string x] 9)) 9 (base:=W3.heap.size) ZF
  rwa [show(W3.alloc (aB #[.string x] 9)).heap.size=W3.heap.size+1 by simp]at this
 have rb:((W3.alloc (aB #[] 9)).alloc (aB #[.string x] 9)).heap[W3.heap.size+1]? =some (.cells (#[.string x]:Array Value) 9 (0,0)):=by
  have:=bC (W3.alloc (aB #[] 9)) (aB #[.string x] 9)
  rwa [show(W3.alloc (aB #[] 9)).heap.size=W3.heap.size+1 by simp]at this
 have rc:((W3.alloc (aB #[.string x] 9)).alloc (aB #[] 9)).heap[W3.heap.size]? =some (.cells (#[.string x]:Array Value) 9 (0,0)):=(dL (W3.alloc (aB #[.string x] 9)) _ _ ZF).trans (bC W3 (aB #[.string x] 9));refine' ZYQ;refine' ZC;refine Hs (S:=fun W=>B_ W3 W) 12 ZB ki (fun aa=>?_);obtain k:=_;exact k):=h
abbrev R7(h:p:=by
 refine' ZOX;have l5:B_ w w5:=(Ae l4 (aB #[aH aD x.id,aG x.code] 119)).grown aj ZH fun q hq=>(bu.out.blk q hq).1
 exact ZOY):=h
abbrev ZP(h:p:=by rintro e _ ⟨rfl,rfl⟩;obtain k:=_;exact k):=h
abbrev ZHw(h:p:=by
 obtain⟨d,hd⟩:=aK (show 0<=f x by omega)
 have vj:d<N:=ZA
 have HD:=aA hd;have f8:=aA (ZBp (f:=f) ab (by rw[jf.out];omega));have mK:d<(Bm f N (xs.take k)).length:=by rw[Hz];exact vj
 have ff:=aA (ZEU (f:=f) (n:=N) (d:=d) ab (by rw[jf.out];exact HD.out) mK);obtain⟨fm,df,gy⟩:∃fm:d<vs.length,own 119 w0.heap.size w3 vs[d] (Bm f N (xs.take k))[d]/\apart vs[d] (.slice (P_ G) N N):=ZJQ
 have kF:w3.cell? ⟨G,d,none⟩=some vs[d]:=Ff ep.out.1 d fm;have tP:w3.frozen? ⟨G,d,none⟩=false:=ep.out.1.freeAt d;have pw:(Bm f N (xs.take k))[d].length<=1000:=ZZn
 obtain⟨zs,gu⟩:∃zs,zs=(Bm f N (xs.take k))[d]:=⟨_,rfl⟩;refine' ZZo;obtain k:=_;exact k):=h
abbrev ZU8(h:p:=by
 go_wp2;refine' Pa;refine' ZZb;have H2:Hid (Calls P 314 #[.slice (some ⟨blk,aw,none⟩) n cap,.int .i64 (20:Int),.int .i64 ((n:Nat):Int),.func (.func g) #[] cb] w1 fun e w'=>e=.returned (.tuple #[])/\∃d',PermIn 20 n d1 d'/\SortedIn Dc 20 n d'/\SWK enc k w0 blk aw d' w'):=HI.out 20 n d1 w1 Z1.out uZ.out ZA ZA (fun i i1 i2=>ZZc);refine' ZZd;have K2:Aside (∀i,n<=i->(d2[i]!)=(d0[i]!)):=fun i hi=>ZZe
 refine' ZZf;have tm:Aside (SortedIn Dc 20 n d2):=s2;clear p2 s2 S2;obtain k:=_;exact k):=h
abbrev ZSc(h:p:=by
 skip
 have wU:Hid (Bd2 (Su n) rs):=by have:=qp.out;rw[FZ.out]at this;exact this
 have HU:=aA o5;have kW:=kr.trans (c5.mono RS);have tA:=aA (HN.out.keepBlk (w':=w5) fun j h1 h2=>c5.block j h2 ZA);have SI:=FY.out w5 kW;have pF:=xn.out;have wV:=kW.size;have qg:Hid (rs.length<=6):=by show _<=_;first|omega|(simp;omega)
 have CM:Hid (∀j,(Value.slice A4 rs.length wT).ownBlock=some j->wr.heap.size<=j):=fun j hj=>ZSY
 go_wp2_with (at_builtin;go_loud (refine An (α:=OfV) rfl (.tmp 41) (.tmp 48) 34 rfl w1.heap.size 45 j0 _ 40 iN ji dr du dw rfl ZE (.slice A os.length c) os ⟨nm,.slice A4 rs.length wT⟩ rfl (tA.out.1.alloc _) ⟨w5.heap.size,0,none⟩ 1 [.string nm,.slice A4 rs.length wT] rfl ⟨rfl,pF,rfl⟩ (Bz w5 _ [.string nm,.slice A4 rs.length wT]) ZN ZA ZH ?_;intro gO cap w9 o9 gw yJ WN))
 have OI:B_ w5 (w5.alloc (aB #[.string nm,.slice A4 rs.length wT] 45)):=(aF _ _).alloc (aC _) _;refine' ZSZ;have r9:rdr w9 g (q4+1):=(ex.alloc _).append (tA.out.1.alloc _) gw ZA;refine' ZSa;go_roundw
 case rel=> exact⟨k+1,_,_,(q4+1),ZA,ZJ,ZSb,OL.out,Bd6.snoc EN.out (by rw[HL.out];exact rT.out) wU.out qg.out,r9,ZA,k9⟩
 case measure=>exact ZK):=h
abbrev ZL3(h:p:=by have oI:=aA hu;refine' ZL4;refine' ZZp;obtain k:=_;exact k):=h
abbrev ZLT(h:p:=by
 go_wp2_with (go_at_call 25;refine(HM.out _ _ k1.lay R5.out).mono ?_;refine' ZY0)
 refine' iH;refine' ZLn;exact Bs.fin f8.out L2.out):=h
abbrev ZL5(h:p:=by
 rw[<-oP,<-oQ]at gp ww hv;rw[<-oP]at lA;rw[<-oQ]at lB;clear oP oQ
 refine' ZC;go_quiet_grown (first|(go_at_fn g;refine Calls.grown_of (gp _ _)))
 have S2:Aside (SWK enc k w0 blk aw d (grow (wr.drewN nq) osq)):=S1.out.grown nq osq;clear lA lB gp S1;generalize grow (wr.drewN nq) osq=w2 at S2⊢;clear nq osq;go_wp2
 obtain k:=_;exact k):=h
abbrev ZZB(h:p:=by
 obtain⟨U,hU⟩:∃U,U=((((((((u2.setCell ⟨bS,0,none⟩ (.slice yL (ds (k+1)).letters.length yl)).setCell ⟨bS,1,none⟩ (.int .i64 (ds (k+1)).day.plan.bins)).setCell ⟨bS,2,none⟩ (.int .i64 (ds (k+1)).day.plan.passes)).setCell ⟨bS,3,none⟩ (.slice yO (ds (k+1)).day.plan.order.length yo)).setCell ⟨bS,4,none⟩ (.slice yF (ds (k+1)).day.fwds.length yf)).setCell ⟨bS,5,none⟩ (.slice yH (ds (k+1)).day.held.length yh)).setCell ⟨bS,6,none⟩ (.int .i64 (ds (k+1)).day.size)).setCell ⟨bS,7,none⟩ (.slice yN (ds (k+1)).net.length yn)):=⟨_,rfl⟩;have kZ:Hid (ApR bS (ds (k+1)) U):=by
  refine⟨yL,yl,yO,yo,yF,yf,yH,yh,yN,yn,by rw[hU];exact Cj lR,?_⟩;rw[hU];refine(S2.mono fun j _ hj=>?_).on (Ct.set8b _ _ _ _ _ _ _ _ _ _);rcases hj with hj|hj
  .exact hj
  .intro e;rw[e]at hj;exact absurd av (Nat.not_lt.2 hj)
 have VC:Hid (own 9 (bS+1) U (.slice (P_ gl) ls.length cl) ls):=by show own _ _ _ _ _;rw[hU];exact AoL (HO.out.below HZ.out) (dW _) _ _ _ _ _ _ _ _
 have VD:Hid (B_ w U):=by show Below _ _ _;rw[hU];exact Am0 (HL.out.trans (HZ.out.mono HL.out.size)) kD _ _ _ _ _ _ _ _
 rw[<-hU];clear hU S2 e0 e1 e2 e3 e4 e5 e6 e7 f0 f1 f2 f3 f4 f5 f6 f7 lR b2 z2
 refine' ZC;go_roundw
 case rel=>exact⟨k+1,ZA,ZJ,by show _=_;rw[sE.out rT.out];rfl,VD.out,kZ.out,VC.out,by show _=_;rw[sE.out rT.out,<-HQ.out,qp.out,Vu rT.out ZA ZA],by rw[sE.out rT.out];have:=ZAu (ans k);simp only[aY]at *;show _+(_+1)<=_;omega⟩
 case measure=>exact ZK):=h
abbrev f_(h:p:=by refine' ZLx;refine' Nj;have aq:=k0.drew;clear m0;obtain k:=_;exact k):=h
abbrev ZXV(h:p:=by
 show Bu _ _ _ _ _ _ _ _ (Act.put _ (some 42) _) _
 refine' ZV;refine' ZLi;go_simp;refine hK.out _ _ (fun _=>?_) (fun aa=>?_)
 .exact lP
 refine' Xl;refine Bk (rs:=[5]) ZB ZF ?_;refine' Yz;(refine Bl (α:=Y_) ZG (.tmp 32) (.tmp 36) 28 ZG w1.heap.size 9 i0 _ 16 aW hi ah ar ap rfl ZE (.slice (P_ w1.heap.size) 0 0) [] ZG oa _ (p.order.take f) ZG _ (BG.out _ lP) lD lF zw ?_;refine' Z_;have l7:B_ w1 w7:=lP.trans (Ay oa ce zw);refine' Y6)
 refine' W5;refine' Mt;(refine Bl (α:=Y_) ZG (.tmp 37) (.tmp 42) 28 ZG w1.heap.size 9 i0 _ 16 aW hi ah ar ap rfl ZE v7 (p.order.take f) ZG o7 _ (p.order.drop (f+1)) ZG _ (xP.out _ l7) lC nJ gm ?_;intro v8 w8 o8 il _;have l8:B_ w1 w8:=l7.trans (Ay o7 il gm))
 refine' N7;refine' ZLz;rw[lg.out]at o8;obtain⟨W3,rfl⟩:∃W3:World,W3=w8:=⟨_,rfl⟩;have l3:=l8;have O3:=aA o8;obtain⟨Ar,nr,cr,rfl,yY,hcr,TC,_⟩:=o8.rd;subst yY;clear o8 l8 il o7 l7 ce gm aa la lP ea oa ki hi ah ar ap BG xP lD lF lC nJ;have bp:=ud.out;have nK:=u0;have nN:=u1;obtain⟨LT,BC⟩:∃z,L.take t=z:=⟨_,rfl⟩;obtain⟨LD,IJ⟩:∃z,L.drop t=z:=⟨_,rfl⟩;have hzT:LT.length<=60:=by rw[<-BC,bJ];omega
 have hzD:LD.length<=60:=by rw[<-IJ,dV];omega
 have IK:Hid (∀W,B_ W3 W->R_ W (.slice Ar t cr) LT):=fun W h=>by rw[<-BC];exact(O3.out.rd.on h).take ZA
 have ma:=aA BC;have mX:=aA IJ;clear BC IJ;obtain k:=_;exact k):=h
abbrev WD(h:p:=by
 have q7:=fun W (h:stS w w.heap.size 36 (y_ s AL cL AO cO AF cF AH cH AN cN) W)=>(Ac h.box).1.2.2.2.2.2.2.2
 obtain k:=_;exact k):=h
abbrev ZI(h:p:=by refine' ZC;go_ret;obtain k:=_;exact k):=h
abbrev ZYc(h:p:=by
 first
  |(obtain⟨U1,lf⟩:∃u,u=u1.alloc (aB #[.int .i64 mp.bins,.int .i64 mp.passes,.slice AX nX cX] 30):=⟨_,rfl⟩;rw[<-lf];have lR:U1.heap[u1.heap.size]? =some (.cells #[.int .i64 mp.bins,.int .i64 mp.passes,.slice AX nX cX] 30 (0,0)):=ZYu;have kU:duo w 36 (y_ s AL cL AO cO AF cF AH cH AN cN) false U1:=(by rw[lf];exact k1.below (Ae (aF _ _) _));have RU:rdN (cut R w.heap.size (w.heap.size+2)) U1 (.slice AX nX cX) mp.order:=(by rw[lf];exact rdN.of_own (OX.out.alloc _) fun k hk=>.inr (aI ah hk)))
  |(obtain⟨U1,lf⟩:∃u,u=((u1.setCell ⟨wB.heap.size,0,none⟩ (.int .i64 mp.bins)).setCell ⟨wB.heap.size,1,none⟩ (.int .i64 mp.passes)).setCell ⟨wB.heap.size,2,none⟩ (.slice AX nX cX):=⟨_,rfl⟩;rw[<-lf];have lR:U1.heap[wB.heap.size]? =some (.cells #[.int .i64 mp.bins,.int .i64 mp.passes,.slice AX nX cX] 30 (0,0)):=(by rw[lf];exact Bp qC);have kU:duo w 36 (y_ s AL cL AO cO AF cF AH cH AN cN) false U1:=(by rw[lf];exact duo.set3 k1 ah _ _ _);have RU:rdN (cut R w.heap.size (w.heap.size+2)) U1 (.slice AX nX cX) mp.order:=(by rw[lf];exact rdN.of_own (Bd (Bd (Bd OX.out ⟨wB.heap.size,0,none⟩ _ uc) ⟨wB.heap.size,1,none⟩ _ uc) ⟨wB.heap.size,2,none⟩ _ uc) fun k hk=>.inr (aI (aI ah (iA uc)) hk)))
 obtain k:=_;exact k):=h
abbrev ZYC(h:p:=by
 have e4:=q4 _ k1;have f4:=k1.frozenS 4
 refine' ZC;refine' ZXi;refine' YD;clear bg e4 f4 q0 q1 q2 q3 q4 q5 q6 q7 k0 aq k1 z1 OX;refine' Nc;clear kH ah;refine' ZLV;go_region_held3 (fun W=>duo w 36 #[.slice AL s.letters.length cL,.int .i64 s.day.plan.bins,.int .i64 s.day.plan.passes,.slice AO s.day.plan.order.length cO,.slice AX nX cX,.slice AH s.day.held.length cH,.int .i64 s.day.size,.slice AN s.net.length cN] false W) (first|(with_reducible exact fc)|(with_reducible exact k3)|exact gA|fail) (first|(go_at_call 30;refine' Xo)|(refine' Vz)|fail)
 all_goals refine' Tj;exact Bs.fin (s':={s with day:={s.day with fwds:=xs}}) ((HS.out.cut L4.out).setF (RX.out.on (Ct.below _ kP.out))) L4.out):=h
abbrev ZIG(h:p:=by
 have fk:Hid (apart (.slice (P_ g) (sa.length+1) cap) (.slice AB bs.length cB)):=Dg fe.out cy fun j hj=>by have:=(bu.out.blk j hj).2;exact ZH
 go_roundw
 case rel=>exact⟨k+1,ZA,ZJ,l5,by rw[ff.out];exact cg,by rw[f8.out];exact kX.out,fk⟩
 case measure=>exact ZK):=h
abbrev ZNH(h:p:=by
 go_wp2;rw[<-di.out];obtain⟨pY,j6⟩:=I3 (α:=Ltr) w0 27 119 N w0.heap.size (aC _) ZN;refine' ZNf;have mN:(w0.alloc (aB (bF #[.slice none 0 0] N) 27)).heap.size=w.heap.size+1+1:=by simp[kA.out]
 refine' ZNg;have EM:own (α:=Ltr) 119 w0.heap.size (wz.alloc (aB #[] 119)) (.slice (P_ wz.heap.size) 0 0) []:=own.made0 wz _ lz.size;rw[mN]at EM;have uu:D7 (.slice (some ⟨w.heap.size+1+1,0,none⟩) 0 0) (.slice (some ⟨w.heap.size+1,0,none⟩) N N) pY:=ZNQ
 have uv:=aA uu;have xC:=aA EM;have lL:=aA (jo.below ((aF _ _).alloc (aC _) (aB #[] 119)));have yI:=Ae lz (aB #[] 119);clear jo EM mN lz uu;generalize WG:wz.alloc (aB #[] 119)=wy at *;clear WG;generalize MK:w.heap.size+1+1=G2 at *;refine' ZHp;clear hG MK fo
 obtain k:=_;exact k):=h
abbrev ZL(h:p:=by assumption):=h
abbrev ZM9(h:p:=by
 obtain⟨d,hd⟩:=aK (show 0<=r by omega)
 have jh:d<L.length:=by have:=FL.out;omega
 obtain⟨FN,xN⟩:Hid (D9 f K (ws.take (q+1))=L.set d (L[d]++[x]))/\Hid (Bn f (ws.take (q+1))=rs):=⟨(jk.out.2 d (by rw[ak.out];exact hd) jh).1,(jk.out.2 d (by rw[ak.out];exact hd) jh).2⟩;have lS:L[d].length<=120:=pE.out d jh;obtain⟨qs,nw⟩:∃qs,qs=L[d]:=⟨_,rfl⟩;have tT:=aA nw;obtain⟨fm,df,gy⟩:∃fm:d<ir.length,own 119 w0.heap.size w4 ir[d] qs/\apart ir[d] (.slice (P_ G) xss.length xss.length):=by obtain⟨z1,z2,z3,z4,z5⟩:=bu.out;have h3:=z3 d ZA jh;rw[<-nw]at h3;exact⟨ZA,h3,z5 d ZA⟩
 rw[<-nw]at lS;clear nw;have kF:w4.cell? ⟨G,d,none⟩=some ir[d]:=Ff bu.out.1 d fm;have tP:w4.frozen? ⟨G,d,none⟩=false:=bu.out.1.freeAt d;obtain⟨u,hu⟩:∃u,u=ir[d]:=⟨_,rfl⟩;have oI:=aA hu;refine' ZL4;have HD:=aA hd;rw[HD.out];have BQ:(d:Int)<(xss.length:Int):=ZA
 have tQ:¬((d:Int)<0):=ZA
 clear hd bc vg vi;refine' ZZp;have ky:G<w4.heap.size:=(bu.out.1.blk G rfl).2;go_wp2
 obtain k:=_;exact k):=h
abbrev ZYD(h:p:=by
 refine' ZC;obtain⟨W2,bg⟩:∃u:World,u=u1:=⟨_,rfl⟩;rw[<-bg];have kH:own 128 wB.heap.size W2 (.slice AX nX cX) xs:=by rw[bg];exact OX.out
 have k2:duo w 36 (y_ s AL cL AO cO AF cF AH cH AN cN) false W2:=by rw[bg];exact k1
 refine' YD;clear bg k0 aq k1 z1 OX;refine' Nc;clear kH ah;refine' Xp;go_region_held3 (fun W=>duo w 36 (y_ s AL cL AO cO AF cF AH cH AN cN) false W) (first|(with_reducible exact fc)|(with_reducible exact k3)|exact gA|fail) (first|(go_at_call 30;refine' Xo)|(refine' Vz)|fail)
 all_goals refine' Tj;exact W6):=h
abbrev ZI6(h:p:=by
 rintro pre A C row ⟨⟨v,hv,ho⟩,h0,h1,h2,h3,h4,h5⟩ hg hr;refine' ZKN;refine⟨⟨v,hv.kept hg (ne _ ZA),ho.grown hg ?_⟩,aI h0 hg.size,h1,h2,h3.kept hg (ne _ ZA),h4.kept hg (ne _ ZA),h5.grown hg (aI hs h5.size) fun k e=>?_⟩
 .cases hb:v.ownBlock with
  |none=>exact .inl rfl
  |some k=> exact ZUQ
 .rcases hr k e with h|⟨h,_⟩<;>omega):=h
abbrev ZHy(h:p:=by
 have gi:B_ w3 (w3.alloc (aB #[aH aD x.id,aG x.code] 119)).drew:=Ag (Ae (aF _ _) _);obtain⟨p1,p2,p3⟩:=Eh ep.out ez.out f9.out gi fm mK HU.out tt.out fd a6 mc;have p4:=Ex (G:=G) (d:=d) (g:=g) (m:=zs.length+1) (cap:=cap) (Ag (Ae jt (aB #[aH aD x.id,aG x.code] 119))) a6 (fun j hj=>(jW.out.blk j hj).1) nT;refine' ZL6;clear p1 p2 p3 gi;go_wp2
 go_roundw
 case rel=>exact⟨k+1,_,ZA,ZJ,p4,ZZq,by rw[f8.out];exact P2.out,P3.out⟩
 case measure=>exact ZK):=h
abbrev ZOe(h:p:=by
 rintro e w5 ⟨vR,vS,rfl,oR,oS,OP,b5⟩;have l5:=Aa l4 b5;replace E2:=aA (E3 E2.out b5);have fe:Hid (apart vR vS/\apart vR (.slice Ah (Je d.held (E6 d.fwds xs)).length ch)/\apart vR (.slice Ak (Gu d.fwds xs).length ck)/\apart vS (.slice Ah (Je d.held (E6 d.fwds xs)).length ch)/\apart vS (.slice Ak (Gu d.fwds xs).length ck)/\apart (.slice Ah (Je d.held (E6 d.fwds xs)).length ch) (.slice Ak (Gu d.fwds xs).length ck)):=
  ⟨OP,Dd oR OH.out (aC _),Dd oR OK.out (aC _),Dd oS OH.out (aC _),Dd oS OK.out (aC _),rP.out⟩
 replace OK:=aA (OK.out.below b5);replace OH:=aA (OH.out.below b5);have OR:=aA oR;have OS:=aA oS;obtain⟨Ar,nr,cr,rfl,yY,_,_,_⟩:=oR.rd;subst yY;obtain⟨As,ns,cs,rfl,hns,_,_,_⟩:=oS.rd;subst hns;clear oR oS OP b5 OF rP hAK hFH;refine' ZZr;refine' ZL7;have h1:=me.out;have h2:=GJ.out;have h3:=GK.out;exact AeQ lN.out (eL _) h1 (bR h1 h2) (bR h1 (aI h2 h3)) OR.out OS.out OH.out OK.out fe.out (Aa HT.out l5)):=h
abbrev ZFr(h:p:=by
 have kg:=aA i8;have k0:=(y0.kept (grownBy_putObj' W D (.deferred none)) (fun e=>ZY)).cell;have k1:=(y1.kept (grownBy_putObj' W D (.deferred none)) (fun e=>ZY)).cell;have oD:B_ w (W.putObj D (.deferred none)):=hB.grown (grownBy_putObj' _ _ _) hB.size (fun r e=>ZY);clear i8 ao lV
 dsimp only
 gi_wp2
 refine⟨ZF,.inl ⟨_,_,rfl,run_takeDeferred hK,?_⟩⟩;obtain k:=_;exact k):=h
abbrev ZUI(h:p:=by
 obtain⟨i,kj⟩:∃i:Nat,Lib.indexByte x.data.toList 62=(i:Int):=⟨(Lib.indexByte x.data.toList 62).toNat,ZA⟩
 refine' ZKP;have sf:Hid (K7 x=some ⟨x.extract 0 i,x.extract (i+1) x.size⟩):=by show _=_;unfold K7;rw[ax];rfl
 have HY:Hid (Fwd.ok ⟨x.extract 0 i,x.extract (i+1) x.size⟩):=⟨aI jw.1 pN,aI jw.2 pN⟩;have pE:Hid (Ko (ps.take (k+1))=true):=ZKQ
 have g7:Hid (Fx (ps.take (k+1))=Fx (ps.take k)++[⟨x.extract 0 i,x.extract (i+1) x.size⟩]):=by show _=_;rw[nt.out];exact ZDP sf.out
 have bz:(Fx (ps.take k)).length=k:=by rw[L9 _ jZ.out,bJ];omega
 clear kj bc jd ax jw;refine' ZKR;refine' ZGq;rw[bz]at hm;subst hm;clear ho;generalize Fx (ps.take m)=gs at *
 refine' Tt;go_wp2
 obtain k:=_;exact k):=h
abbrev ZPI(h:p:=by
 go_wp2
 go_loopw[9] (fun i wr=>∃k:Nat,k<=fs.length/\i=.int .i64 k/\B_ w wr/\Hid (∀j (h:j<fs.length),j<k->zU fs[j].src c=false)) (fun i _=>fs.length - (intOf i).toNat)
 case atStart=>exact ZS7
 case round=>
  refine' Ya;by_cases ab:k<fs.length
  .refine' ZZs;cases he:zU x.src c
   .refine' zf;have hq:(x.src.toList==c.toList)=false:=he;exact ZS9
   .refine' zf;have hq:(x.src.toList==c.toList)=true:=he;clear he;refine' ZO;exact⟨Bo (HY.out jj.out).symm,Ae lr _⟩
  .have HE:Hid (Gg fs c= -1):=Pk fun j hj=>HG.out j hj ZA
   refine' ZO;exact⟨Bo HE.out.symm,lr⟩):=h
abbrev Mm(h:p:=by
 have bz:=(hf.blk g rfl).2;have bf:c<=maxLen/\1<=c:=ZHR
 refine' ZL8;obtain k:=_;exact k):=h
abbrev fS(h:p:=by refine' Zj;refine' iH;obtain k:=_;exact k):=h
abbrev Py(h:p:=by
 refine' ZRo;refine' ZV8
 obtain k:=_;exact k):=h
abbrev ZXa(h:p:=by
 refine' V9;refine' ZLi;refine' OG;refine' ZHC;(refine Bl (α:=Y_) ZG (.tmp 44) (.tmp 47) 28 ZG W3.heap.size 9 i0 _ 16 aW hi ah ar ap rfl ZE (.slice (some ⟨W3.heap.size+1,0,none⟩) 0 0) [] ZG rC _ LT ZG _ (IK.out _ oO) lD lF zw ?_;refine' Z_;have l7:B_ W3 w7:=oO.trans (Ay rC ce zw);refine' Y6;have wv:=(ce.block W3.heap.size ZH (fun e=>ZHD)).trans rc)
 refine' W5;refine' Mt;(refine Ce (α:=Y_) ZG (.tmp 48) (.tmp 54) 28 ZG W3.heap.size 9 i0 _ 16 aW hi ah ar ap rfl ZE v7 LT x ZG o7 ⟨W3.heap.size,0,none⟩ 1 [.string x] ZG ⟨JP.out,rfl⟩ (Oo wv) lC nJ gm ?_;refine' ZZt)
 refine' ZL0;obtain k:=_;exact k):=h
abbrev ZYZ(h:p:=by
 generalize E7 mp=F at *;generalize Am a=n0 at *;generalize Am b=n1 at *;have ci:(C0.toList==[115,105,122,101])=false:=ZD
 have dh:(C0.toList==[104,111,108,100])=false:=ZD
 have eu:(C0.toList==[102,111,114,119,97,114,100])=false:=ZD
 have fw:(C0.toList==[115,116,97,121])=false:=ZD
 refine' ZKt;refine' ZHS;have ah:w.heap.size+2<=wB.heap.size:=k0.lt;have ka:duo w 36 (y_ s AL cL AO cO AF cF AH cH AN cN) false (wB.drew.alloc (aB #[.int .i64 0,.int .i64 0,.slice none 0 0] 30)):=aq.below (Ae (aF _ _) _);have kb:duo w 36 (y_ s AL cL AO cO AF cF AH cH AN cN) false (wB.alloc (aB #[.int .i64 0,.int .i64 0,.slice none 0 0] 30)).drew:=(k0.below (Ae (aF _ _) _)).drew;have BB:(wB.alloc (aB #[.int .i64 0,.int .i64 0,.slice none 0 0] 30)).heap[wB.heap.size]? =some (.cells #[.int .i64 0,.int .i64 0,.slice none 0 0] 30 (0,0)):=bC wB _;have uc:wB.heap.size<(wB.alloc (aB #[.int .i64 0,.int .i64 0,.slice none 0 0] 30)).heap.size:=(Array.getElem?_eq_some_iff.1 BB).1
 obtain k:=_;exact k):=h
abbrev YB(h:p:=by obtain⟨w1,rfl⟩:∃w1:World,w1=wr:=⟨_,rfl⟩;obtain k:=_;exact k):=h
abbrev ZJ(h:p:=by go_num):=h
abbrev Vi(h:p:=by
 have oZ:Hid (∀W,B_ w8 W->R_ W (.slice Ar 0 0) LD):=fun W h=>by refine' ZZi;rwa [aQ kl,kl,Nat.sub_self,show L.length - t=0 by omega,mX.out]at h
 have pd:=kl.symm;subst pd;refine' ZZa;obtain k:=_;exact k):=h
abbrev ZK(h:p:=by simp[intOf];omega):=h
abbrev ZXz(h:p:=by
 refine' Nb;refine' ZXu;refine' WD;refine' ZXx
 obtain k:=_;exact k):=h
abbrev ZVB(h:p:=by
 have y4:¬(60:Int)<=(n:Int):=ZA
 go_wp2;refine iW 3 ?_;refine' ZVE;have H3:Hid (Calls P 314 #[.slice (some ⟨blk,aw,none⟩) n cap,.int .i64 (40:Int),.int .i64 ((n:Nat):Int),.func (.func g) #[] cb] w2 fun e w'=>e=.returned (.tuple #[])/\∃d',PermIn 40 n d2 d'/\SortedIn Dc 40 n d'/\SWK enc k w0 blk aw d' w'):=HI.out 40 n d2 w2 Z2.out xY.out ZA ZA (fun i i1 i2=>ZVF);refine' ZVG;have K3:Aside (∀i,n<=i->(d3[i]!)=(d0[i]!)):=fun i hi=>ZVH
 refine' ZVI;have qk:Aside (SortedIn Dc 40 n d3):=s3;clear p3 s3 S3;obtain k:=_;exact k):=h
abbrev Sq(h:p:=by
 refine' ZZF
 .have qM:k=xs.length:=ZIK
  subst qM;rw[cC (aC _),cC ZA];simpa [hl]using Flat.free lx):=h
abbrev ZHT(h:p:=by
 clear gq ib
 refine' ZC;refine HF.mono ?_;rintro e w3 ⟨rfl,l3⟩;clear HF;have o3:=aA (kQ.out.below l3);have jt:=lw.trans (l3.mono lw.size);have fu:=aA jt;obtain k:=_;exact k):=h
abbrev ZHF(h:p:=by
 refine' gX;have k3:=fc.below z3;have l3:=Aa l2 z3;refine' ZHG
 obtain k:=_;exact k):=h
abbrev ZLk(h:p:=by
 refine' zM;show Calls Tryz.prog _ #[.agg (y_ s AL cL AO cO AF cF AH cH AN cN),.string wd,.string r] w _;refine' f_;have BS:Hid (∀W:World,Calls Tryz.prog 9 #[.string r,.int .u8 32] W fun e w'=>∃v,e=.returned v/\own (α:=Y_) 9 W.heap.size w' v (Aj 32 r)/\B_ W w'):=fun W=>I9 r 32 W ZA
 have qY:=aA (Pj r);obtain k:=_;exact k):=h
abbrev Rp(h:p:=by
 refine' Zm;have vk:w4.cell? ⟨G,d,none⟩=some (.slice Au zs.length cu):=(a6.cell_far ⟨G,d,none⟩ ZH g7.out).trans zD;have vl:w4.frozen? ⟨G,d,none⟩=false:=(a6.frozen_far ⟨G,d,none⟩ ZH g7.out).trans zD
 obtain k:=_;exact k):=h
abbrev ZYw(h:p:=by
 go_region_held3 (fun W=>duo w 36 (y_ s AL cL AO cO AF cF AH cH AN cN) false W) (first|(with_reducible exact fc)|(with_reducible exact k3)|exact gA|fail) (first|(refine' W9;refine' gX;have k3:=fc.below z3;refine' ZHG)|fail)
 obtain k:=_;exact k):=h
abbrev zg(h:p:=by
 go_enter func46,ntmps46
 refine' ZQ;exact ZW):=h
abbrev ZR2(h:p:=by
 refine' zR;refine' zl;subst hn;obtain⟨m,qq⟩:∃m,xs.length=m+1:=⟨xs.length - 1,ZA⟩;obtain⟨b,o,rfl,hb, -, -,c1⟩:=hr.ltrU 0 ZA;obtain⟨b2,o2,e2, -, -, -,c2⟩:=hr.ltrU m ZA;injection e2 with e2;injection e2 with e2 e3;subst e2 e3;have HL:Hid (jC xs=xs[0].code++⟨#[45]⟩++xs[m].code):=by show _=_;unfold jC;refine' ZR1;simp only[gS,show xs.length - 1=m by omega]
 have s1:=(Cp ((Ep.1 ag).2 0 ZA).2.2.1).1;have s2:=(Cp ((Ep.1 ag).2 m ZA).2.2.1).1;have hl60:=(Ep.1 ag).1;generalize xs[0].code=p at *;generalize xs[m].code=q at *;have HO:=aA ag;refine' ZPi;have jV:0<xs.length:=ZA
 have xp:(m:Int)<(xs.length:Int):=ZA
 obtain k:=_;exact k):=h
abbrev Xl(h:p:=by
 replace aa:=aa ZE;clear hK K
 refine' ZV
 obtain k:=_;exact k):=h
abbrev ZF(h:p:=by simp):=h
abbrev ZX5(h:p:=by
 refine' Zo;show Calls Tryz.prog _ #[.agg (y_ s AL cL AO cO AF cF AH cH AN cN),.string B5,.slice (P_ g) 1 c] w _;refine' YL;have HC:Hid (∀W,stS w w.heap.size 36 (y_ s AL cL AO cO AF cF AH cH AN cN) W->Calls Tryz.prog 110 #[.slice AN s.net.length cN,.string f] W fun e w'=>∃v',e=.returned v'/\own 9 W.heap.size w' v' (n_ s.net f)/\B_ W w'):=fun W h0=>bld _ s.net f W (hS.n.rd.on h0.lay)
 have HO:Hid (∀W,stS w w.heap.size 36 (y_ s AL cL AO cO AF cF AH cH AN cN) W->C_ 111 #[.slice AN s.net.length cN,.string f] W (.int .i64 (Gq s.net f))):=fun W h0=>have hW:=h0.lay;by refine(H7 _ s.net f W (hS.n.rd.on hW)).mono ?_;refine' ZP;exact zv
 obtain k:=_;exact k):=h
abbrev ZYV(h:p:=by
 generalize Cb s.day.held=F at *;refine' ZYP;go_region_held3 (fun W=>duo w 36 (y_ s AL cL AO cO AF cF AH cH AN cN) false W) (first|(with_reducible exact aq)|(with_reducible exact k3)|exact gA|fail) (first|(go_at_call 31;(with_reducible refine(HX.out _ aq.lay).mono ?_);refine' ZLe)|(refine' Vz)|fail)
 all_goals refine' ZLf;exact W6):=h
abbrev ZYN(h:p:=by
 generalize pg s.letters (Am f)=xs at *;generalize Am f=n at *;have ci:(C8.toList==[115,105,122,101])=false:=ZD
 have dh:(C8.toList==[104,111,108,100])=false:=ZD
 have eu:(C8.toList==[102,111,114,119,97,114,100])=false:=ZD
 have fw:(C8.toList==[115,116,97,121])=false:=ZD
 have iq:(C8.toList==[115,119,97,112])=false:=ZD
 generalize C8=wd at *;refine' ZHS;go_region_held3 (fun W=>duo w 36 (y_ s AL cL AO cO AF cF AH cH AN cN) false W) (first|(with_reducible exact aq)|exact N_|fail) (first|(go_at_call 93;(with_reducible refine(HI.out _).mono ?_);refine' ZP)|(go_at_call 98;refine' Ny;refine' Vb;have k1:=aq.below z1;refine' ZZu)|fail)
 all_goals exact ZLT):=h
abbrev ZVC(h:p:=by
 refine' Xv;refine' Pa;have H4:Hid (Calls P 315 #[.slice (some ⟨blk,aw,none⟩) n cap,.int .i64 (0:Int),.int .i64 (20:Int),.int .i64 (40:Int),.func (.func g) #[] cb] w3 fun e w'=>e=.returned (.tuple #[])/\∃d',PermIn 0 40 d3 d'/\SortedIn Dc 0 40 d'/\SWK enc k w0 blk aw d' w'):=HM.out 0 20 40 d3 w3 Z3.out DR.out ZA ZA ZA mw.out kN.out (fun i j i1 i2 j1 j2=>(T3.out).lt (s:=20) ZA ZA ZA);have U4:Aside (Tg n 40 d3):=(T3.out).up;rw[fT]
 go_wp2_with (go_at_call 315;refine H4.out.mono ?_;rintro e w4 ⟨rfl,d4,p4,s4,S4⟩)
 refine' ZVJ;have T4:Aside (Tg n 40 d4):=(U4.out).perm 0 ZA ZA ZA ZE p4 ZKb;have tp:Aside (SortedIn Dc 40 n d4):=Dp qk.out p4 ZA;have ql:Aside (SortedIn Dc 0 40 d4):=s4;clear p4 s4 S4;refine' Xv;obtain k:=_;exact k):=h
abbrev ZPJ(h:p:=by
 go_wp2
 go_loop[5] (fun i=>∃k:Nat,k<=fs.length/\i=.int .i64 k/\Hid (∀j (h:j<fs.length),j<k->zU fs[j].src c=false)) (fun i=>fs.length - (intOf i).toNat)
 case atStart=>exact⟨0,aN _,rfl,fun j _ hj=>absurd hj (aX j)⟩
 case round=>
  refine' YH;by_cases ab:k<fs.length
  .refine' ZZs;cases he:zU x.src c
   .refine' zf;have hq:(x.src.toList==c.toList)=false:=he;clear he;go_wp2
    exact Ws
   .refine' zf;have hq:(x.src.toList==c.toList)=true:=he;clear he;exact Uf
  .have HE:Hid (Gg fs c= -1):=Pk fun j hj=>HG.out j hj ZA
   go_wp2;go_ret;exact⟨Bo HE.out.symm,rfl⟩):=h
abbrev ZP3(h:p:=by
 have hZ:=aA (Ou rs);obtain⟨PN,sv⟩:∃P,Jb rs (k+1)=P:=⟨_,rfl⟩;obtain⟨P,hP⟩:∃P,Jb rs k=P:=⟨_,rfl⟩;refine' ZPt;generalize rs[k]=x at *;obtain⟨p,q⟩:=x;have cm:=me.out;simp only at cm y1 y2;obtain⟨s1,_,s2⟩:=cm;refine' ZGI;refine' zQ;by_cases fp:k=0
 .subst fp
  simp only[fG,bV,dF]at y1 y2;have mJ:Hid (aG (P++p++⟨#[62]⟩++q)=.string (Jb rs (0+1))):=by
   show _=_;have e1:Jb rs (0+1)=Ek ⟨p,q⟩:=uQ.out rfl;have e2:P=⟨#[]⟩:=by{rw[<-JW.out,hZ.out]};rw[e1,e2];unfold Ek
   all_goals congr 1
   all_goals refine Cv ?_
   all_goals simp
  clear bd et;have bd:(0:Int)<(rs.length:Int):=ZA
  have sn:¬9223372036854775807<P.size+p.size:=ZA
  have qj:¬9223372036854775807<P.size+p.size+1:=ZA
  have so:¬9223372036854775807<P.size+p.size+1+q.size:=ZA
  refine' ZC;go_quiet (fail)
  refine' ZC;go_roundw
  case rel=>exact⟨0+1,ZA,ZJ,mJ.out,Ba lr _⟩
  case measure=>exact ZK
 obtain k:=_;exact k):=h
abbrev ZOS(h:p:=by
 refine' ZC;go_loopw[9,10] (fun g i wr=>∃j:Nat,j<=hs.length/\i=.int .i64 j/\g=.bool false/\wr=w2) (fun _ i _=>hs.length - (intOf i).toNat)
 case atStart=>exact⟨0,aN _,rfl,ZOT,rfl⟩
 case round=>
  obtain⟨j,hj,rfl,rfl,rfl⟩:=hrel;by_cases ab:j<hs.length
  .have ly:(j:Int)<(hs.length:Int):=ZA
   refine' ZC;go_roundw
   case rel=>exact⟨j+1,ZA,ZJ,ZL9,ZL9⟩
   case measure=>exact ZK
  .have ly:¬((j:Int)<(hs.length:Int)):=ZA
   exact ZOV):=h
abbrev ZFS(h:p:=by rintro pre A C row ⟨h1,h3,h4,h5⟩ hg hr;refine' ZKN;refine⟨h1,h3.kept hg (ne _ ZA),h4.kept hg (ne _ ZA),h5.grown hg (aI hs h5.size) fun k e=>?_⟩;rcases hr k e with h|⟨h,_⟩<;>omega):=h
abbrev QN(h:p:=by refine' Q9;exact⟨.slice none 0 0,ZKx,Qe,Ai (Ai (Ai mU.out (aC _) _) (aC _) _) (aC _) _⟩):=h
abbrev ZJD(h:p:=by
 have p9:∀k,k<w6.heap.size->k≠w.heap.size+1+1->(w5.setCell ⟨w.heap.size+1+1,0,none⟩ (.slice A5 n5 c5)).heap[k]? =W.heap[k]? :=fun k h1 h2=>by have a1:=(grownBy_setCell' w5 (w.heap.size+1+1) (.slice A5 n5 c5)).block k ZUU (fun e=>h2 (by injection e));have a2:=aj.block k ZH (fun e=>ZZv);exact a1.trans (a2.trans ((dL W2 _ k ZA).trans (hb.block k ZA)))
 obtain k:=_;exact k):=h
abbrev ZYH(h:p:=by
 generalize C5 xs=F at *;have ci:(C4.toList==[115,105,122,101])=false:=ZD
 have dh:(C4.toList==[104,111,108,100])=false:=ZD
 have eu:(C4.toList==[102,111,114,119,97,114,100])=false:=ZD
 refine' ZKn;refine' ZHS;go_region_held3 (fun W=>duo w 36 (y_ s AL cL AO cO AF cF AH cH AN cN) false W) (first|(with_reducible exact aq)|exact N_|fail) (first|(go_at_call 96;refine' ZZw)|fail)
 obtain k:=_;exact k):=h
abbrev ZZb(h:p:=by
 have H1:Hid (Calls P 314 #[.slice (some ⟨blk,aw,none⟩) n cap,.int .i64 (0:Int),.int .i64 (20:Int),.func (.func g) #[] cb] w0 fun e w'=>e=.returned (.tuple #[])/\∃d',PermIn 0 20 d0 d'/\SortedIn Dc 0 20 d'/\SWK enc k w0 blk aw d' w'):=HI.out 0 20 d0 w0 HN.out S0.out ZA ZA (fun i i1 i2=>HT.out i ZA);refine' ZU5;have K1:Aside (∀i,20<=i->(d1[i]!)=(d0[i]!)):=fun i hi=>by rw[p1.2.1 i (gT hi)]
 refine' ZU6;have iw:Aside (SortedIn Dc 0 20 d1):=s1;clear p1 s1 S1;obtain k:=_;exact k):=h
abbrev ZG1(h:p:=by refine' Xq;show Calls Tryz.prog _ #[.agg (y_ s AL cL AO cO AF cF AH cH AN cN),.string st,.string c] w _;refine' YL;obtain k:=_;exact k):=h
abbrev ZMA(h:p:=by obtain⟨AA,mA,cA,rfl,sw,_,_,_⟩:=hA.rd;subst sw;obtain⟨AB,mB,cB,rfl,uS,_,_,_⟩:=hB.rd;subst uS;have HA:=aA hA;have HB:=aA hB;clear hA hB;have uT:=dc.out;have qF:=ig.out;obtain k:=_;exact k):=h
abbrev ZW5(h:p:=by refine' zG;refine LG.out.mono ?_;refine' zh;have o1:own (α:=Value) 27 w.heap.size (w1.alloc (.cells #[] 27)) (.slice (P_ w1.heap.size) 0 0) []:=own.made0 w1 _ (aI bj l1.size);have r1:rd (w1.alloc (.cells #[] 27)) (w1.alloc (.cells #[] 27)).heap.size (.slice (P_ w1.heap.size) 0 0) ([]:List (List Ltr)):=Fu.rd (T1:=27) (T2:=119) (base:=w.heap.size) ⟨[],o1,rfl,fun k h=>absurd h (aX k),fun j k h=>absurd h (aX j),fun k h=>absurd h (aX k)⟩;have o2:own (α:=Ltr) 119 w.heap.size ((w1.alloc (.cells #[] 27)).alloc (.cells #[] 119)) (.slice (some ⟨(w1.alloc (.cells #[] 27)).heap.size,0,none⟩) 0 0) []:=own.made0 _ _ ZMX;have O1:=aA (r1.on (Ae (aF _ _) (.cells #[] 119)));have O2:=aA o2.rd;obtain k:=_;exact k):=h
abbrev ZGt(h:p:=by
 clear k0 aq
 refine' ZC;refine' ZLS;exact Bs.read HS.out HF.out.lay HP.out):=h
abbrev zA(h:p:=by rw[IntKind.wrap_i64];omega):=h
abbrev ZGY(h:p:=by have ga:=aA (bC w (aB #[.int .i64 0,.int .i64 0,.int .i64 0] 147));have kO:Hid (B_ w (w.alloc (aB #[.int .i64 0,.int .i64 0,.int .i64 0] 147))):=(aF _ _).alloc (aC _) _;obtain k:=_;exact k):=h
abbrev ZOb(h:p:=by
 refine' zK;have l2:=Aa l1 b2;replace E2:=aA (E3 E2.out b2);clear k0 k1 k2 k3 kf;refine' ZZr;cases h2:z_ xs
 .have HF:Hid (Ka d xs=false):=Ww
  clear h2
  refine' ZL7;exact ZCS HF.out (Ai (Ai (Ai (Ai (Aa HT.out l2) (p:=⟨w.heap.size+1,0,none⟩) br _) (p:=⟨w.heap.size+1,1,none⟩) br _) (p:=⟨w.heap.size+1,2,none⟩) br _) (p:=⟨w.heap.size+1,3,none⟩) br _)
 have lN:Hid (Ka d xs=true):=by show _=_;rw[HQ.out,H1.out,h2];rfl
 clear h2 k0 k1 k2 k3 kf br;have me:Hid (w.heap.size+1<w2.heap.size):=by have h1:=LC.out;have h2:=b1.size;have h3:=b2.size;show _<_;omega
 clear b1 b2
 refine' ZC;obtain k:=_;exact k):=h
abbrev ZXt(h:p:=by
 have q1:=fun W (h:stS w w.heap.size 36 (y_ s AL cL AO cO AF cF AH cH AN cN) W)=>(Ac h.box).1.2.1
 have q2:=fun W (h:stS w w.heap.size 36 (y_ s AL cL AO cO AF cF AH cH AN cN) W)=>(Ac h.box).1.2.2.1
 have q3:=fun W (h:stS w w.heap.size 36 (y_ s AL cL AO cO AF cF AH cH AN cN) W)=>(Ac h.box).1.2.2.2.1
 obtain k:=_;exact k):=h
abbrev ZNb(h:p:=by
 refine' ZNm;have mP:Hid ((xss.take k).flatten.length+xss[k].length<=1048576):=by
  show _<=_;rw[<-aT,<-HS.out];have:(xss.take (k+1)).flatten.length<=xss.flatten.length:=ZR0
  exact zt
 refine' ZNn;clear nD kG kh fh;refine' ZNo;have RJ:=mP.out
 obtain k:=_;exact k):=h
abbrev zF(h:p:=by rw[bJ];omega):=h
abbrev ZEp(h:p:=by refine' Yk;have HM:=aA (hm.on HT.out);refine' ZEk;clear ah;refine' zT;clear ac hv hb hm;refine' Yj;obtain k:=_;exact k):=h
abbrev zL(h:p:=by rw[dB];omega):=h
abbrev ZS5(h:p:=by
 go_wp2
 go_region_held3 (fun W=>B_ w6 W) (first|exact ld|exact Aa ld b8) (first|(go_at_call 28;refine(HCD.out _ ld).mono ?_;rintro e w8 ⟨rfl,b8⟩))
 have m8:=Aa ld b8;have l8:=Aa l6 m8;have iv:=aA (ot.out.below m8);have KC:=l8.size;have UK:=aA (BI.out.on m8)
 go_wp2_with (at_builtin;refine Cu (α:=Y_) rfl (.tmp 59) (.tmp 60) 28 rfl w.heap.size 9 i0 _ 16 aW hi ah ar ap rfl ZE (.slice A3 zs.length c3) zs rfl iv.out (.slice (some ⟨b',o',none⟩) 1 c6) [y] rfl w8.heap.size (UK.out) ZN ZA KC ?_;intro v7 w7 lM ce _)
 have l7:B_ w w7:=(l8).grown ce KC fun q hq=>(iv.out.blk q hq).1
 exact ZZx):=h
abbrev ZEn(h:p:=by
 refine' zH;have sM:w5.cell? ⟨G,d,none⟩=some (.slice Au qs.length cu):=(aj.cell_far ⟨G,d,none⟩ ZH g7.out).trans zD;have sN:w5.frozen? ⟨G,d,none⟩=false:=(aj.frozen_far ⟨G,d,none⟩ ZH g7.out).trans zD
 obtain k:=_;exact k):=h
abbrev ZRc(h:p:=by
 refine' Te;obtain⟨jw,uy,kG,EU⟩:=HF.out k ab;obtain⟨x,hx⟩:∃x,x=xs[k]:=⟨_,rfl⟩;have HX:=aA hx;have XF:dd<x.code.size:=by rw[hx];exact jw
 have bv:48<=(x.code[dd]).toNat/\(x.code[dd]).toNat<=57:=by simp only[hx];exact⟨uy,kG⟩
 have yP:f xs[k]=(((x.code[dd]).toNat - 48:Nat):Int):=by rw[EU];simp only[hx]
 rw[<-hx]at c1 c2 fq fj;clear hx EU uy kG;obtain⟨bb,DJ⟩:∃bb,x.code[dd]=bb:=⟨_,rfl⟩;rw[DJ]at bv yP;obtain⟨d,hd⟩:∃d:Nat,d=bb.toNat - 48:=⟨_,rfl⟩;rw[<-hd]at yP;have vj:d<10:=ZA
 have HD:Hid (f xs[k]=(d:Int)):=yP;clear yP;refine' YN;have mK:d<(Bm f 10 (xs.take k)).length:=by rw[Hz];exact vj
 have ff:=aA (ZEU (f:=f) (n:=10) (d:=d) ab HD.out mK);obtain k:=_;exact k):=h
abbrev ZNA(h:p:=by
 refine' ZZy;obtain⟨p1,p2,p3⟩:=Eh bu.out jx.out gc.out gi fm jh oI.out tT.out cg aj cy;obtain⟨_,p5,p6⟩:=Eh bu.out FM.out rL.out gi fm jh oI.out tT.out cg aj cy;have p4:=Ex (G:=G) (d:=d) (g:=g) (m:=qs.length+1) (cap:=cap) (Ag (Ae l4 (aB #[aH aD x.id,aG x.code] 119))) aj (fun j hj=>(jW.out.blk j hj).1) nT;refine' ZL6;refine' ZNT;go_roundw
 case rel=>exact⟨q+1,_,ZA,ZJ,p4,by rw[FN.out];exact P1.out,by rw[xN.out];exact P2.out,P5.out,P3.out,P6.out,tb.out⟩
 case measure=>exact ZK):=h
abbrev zO(h:p:=by obtain⟨w2,rfl⟩:∃w2:World,w2=wr:=⟨_,rfl⟩;obtain k:=_;exact k):=h
abbrev ZX6(h:p:=by
 refine' gI;refine' ZY2;have m6:(B5.toList==[102,97,117,108,116])=false:=ZD
 have pG:(B5.toList==[112,97,116,104])=false:=ZD
 generalize B5=wd at *;refine' gB;go_region_held3 (fun W=>stS w w.heap.size 36 (y_ s AL cL AO cO AF cF AH cH AN cN) W) (first|(with_reducible exact aq)|exact N_|fail) (first|(go_at_call 110;first|((with_reducible refine(HC.out _ aq).mono ?_);refine' Vb;have k1:=stS.below aq z1;obtain⟨A5,n5,c5,rfl,DE,_,_,_⟩:=o5.rd;have O5:=aA o5;clear o5)|fail)|fail)
 obtain k:=_;exact k):=h
abbrev ZXZ(h:p:=by
 refine' V9;refine' ZHC;(refine Bl (α:=Y_) ZG (.tmp 44) (.tmp 47) 28 ZG W3.heap.size 9 i0 _ 16 aW hi ah ar ap rfl ZE (.slice (P_ W3.heap.size) 0 0) [] ZG rA _ LT ZG _ (IK.out _ nc) lD lF zw ?_;refine' Z_;have l7:B_ W3 w7:=nc.trans (Ay rA ce zw);refine' Y6;have wv:=(ce.block (W3.heap.size+1) ZF (fun e=>ZHD)).trans rb)
 refine' W5;refine' Mt;(refine Ce (α:=Y_) ZG (.tmp 48) (.tmp 54) 28 ZG W3.heap.size 9 i0 _ 16 aW hi ah ar ap rfl ZE v7 LT x ZG o7 ⟨W3.heap.size+1,0,none⟩ 1 [.string x] ZG ⟨JP.out,rfl⟩ (Oo wv) lC nJ gm ?_;refine' ZZt)
 refine' ZL0;obtain k:=_;exact k):=h
abbrev ZMn(h:p:=by
 refine' ZZz;obtain⟨b',o',rfl,qJ,⟨fq,fj⟩,d1,d2⟩:=HU.out.ltrU m py;have FH:Hid (∀h:f ys[m]=(j:Int),K.set j (D8 f j (ys.take (m+1)))=(K.set j (D8 f j (ys.take m))).set j ((K.set j (D8 f j (ys.take m)))[j]' ZMB ++[ys[m]])/\Gv f j (ys.take (m+1))=Gv f j (ys.take m)):=fun h=>by refine⟨?_,Ak0 py h⟩;rw[AbS py h];exact(An7 (L:=K) (r:=D8 f j (ys.take m)) ZMB rfl).symm
 have yB:Hid (∀h:f ys[m]≠(j:Int),K.set j (D8 f j (ys.take (m+1)))=K.set j (D8 f j (ys.take m))/\Gv f j (ys.take (m+1))=Gv f j (ys.take m)++[ys[m]]):=fun h=>⟨by rw[ZCM py h],AhJ py h⟩
 have yc:=aA (AjI f j (ys.take m));have FI:=aA (AaE f j (ys.take m));have HLJ:Hid (∃h:j<(K.set j (D8 f j (ys.take m))).length,(K.set j (D8 f j (ys.take m)))[j]=D8 f j (ys.take m)):=⟨ZMB,by rw[ZAZ]⟩;obtain⟨x,hx⟩:∃x,x=ys[m]:=⟨_,rfl⟩;rw[<-hx]at d1 d2 fq fj FH yB;clear hx;have yE:(Gv f j (ys.take m)).length<=ys.length/\(D8 f j (ys.take m)).length<=ys.length:=by have h1:=yc.out;have h2:=FI.out;rw[bJ]at h1 h2;omega
 obtain k:=_;exact k):=h
abbrev ZXY(h:p:=by
 (refine Bl (α:=Y_) ZG (.tmp 44) (.tmp 47) 28 ZG W3.heap.size 9 i0 _ 16 aW hi ah ar ap rfl ZE (.slice (P_ W3.heap.size) 0 0) [] ZG oa _ LT ZG _ (IK.out _ lP) lD lF zw ?_;refine' Z_;have l7:B_ W3 w7:=lP.trans (Ay oa ce zw);refine' Y6)
 refine' W5;refine Bk (rs:=[10]) ZB ZF ?_;refine' V9;refine' Mt;(refine Ce (α:=Y_) ZG (.tmp 48) (.tmp 54) 28 ZG W3.heap.size 9 i0 _ 16 aW hi ah ar ap rfl ZE v7 LT x ZG (o7.alloc _) ⟨w7.heap.size,0,none⟩ 1 [.string x] ZG ⟨JP.out,rfl⟩ (Bz w7 _ [.string x]) lC nJ ZH ?_;refine' ZHB;have l8:B_ W3 w8:=(l7.alloc gm _).trans (Ay (o7.alloc _) il ZH))
 refine' ZL0;obtain k:=_;exact k):=h
abbrev ZHv(h:p:=by
 have bu:=aA (Aq6 (ep.out.below ((aF _ _).alloc (aC _) _)) f9.out a6);have b4:B_ w0 w4:=by
  refine(Ae jt (aB #[aH aD x.id,aG x.code] 119)).grown a6 ZH fun j hj=>?_
  exact(ez.out.blk j hj).1
 have ox:Hid (D7 (.slice (P_ g) ((Bn f (xs.take k)).length+1) cap) (.slice (P_ G) N N) vs):=Kj ep.out f9.out mc ZF;go_roundw
 case rel=>exact⟨k+1,vs,ZA,ZJ,b4,by rw[ff.out];exact bu.out,by rw[f8.out,<-HX.out];exact fd,ox⟩
 case measure=>exact ZK):=h
abbrev ZG6(h:p:=by
 refine' W7;have x1:=Bx hf 1 ZF;have y1:=fun W (h:duo w 36 (y_ s AL cL AO cO AF cF AH cH AN cN) false W)=>(h.lay.cell (p:=⟨g,1,none⟩) bz).trans x1
 clear hS hf x0 x1;obtain k:=_;exact k):=h
abbrev ZE2(h:p:=by
 try clear rW
 try clear hd
 obtain⟨wq,pj⟩:∃u,u=wl.drewN nq:=⟨_,rfl⟩;have lq:=Cx ll nq;have bq:=Cx EH nq;rw[<-pj]at lq bq⊢;clear pj;have ku:=aA (bu.out.below bq);have uq:w.heap.size<=wq.heap.size:=lq.size;obtain k:=_;exact k):=h
abbrev ZM4(h:p:=by
 refine' ZZz;obtain⟨b',o',rfl,qJ,⟨fq,fj⟩,d1,d2⟩:=NW.out.rd.rows.ltrU q wQ;have HX:Hid (∀x,x=ws[q]->(f x<0->D9 f K (ws.take (q+1))=D9 f K (ws.take q)/\Bn f (ws.take (q+1))=Bn f (ws.take q)++[x])/\∀d:Nat,f x=(d:Int)->∀hd:d<(D9 f K (ws.take q)).length,D9 f K (ws.take (q+1))=(D9 f K (ws.take q)).set d ((D9 f K (ws.take q))[d]++[x])/\Bn f (ws.take (q+1))=Bn f (ws.take q)):=fun x hx=>by subst hx;exact⟨fun h=>⟨AfR wQ h,ZCK wQ h⟩,fun d hd oe=>⟨AjW wQ hd oe,ZBp wQ ZA⟩⟩
 have qg:=aA (show(Bn f (ws.take q)).length<=60 from aI (ZBX _ ws q) ZA);have pE:Hid (∀d (h:d<(D9 f K (ws.take q)).length),(D9 f K (ws.take q))[d].length<=120):=fun d h=>by have h1:=AcZ f K (ws.take q) d 60 h wO.out;have h2:=List.length_take_le q ws;omega
 have FL:Hid ((D9 f K (ws.take q)).length=xss.length):=by show _=_;rw[ZA1];exact ob.out
 obtain⟨x,hx⟩:∃x,x=ws[q]:=⟨_,rfl⟩;have jk:=aA (HX.out x hx);rw[<-hx]at d1 d2 fq fj;clear hx HX;obtain k:=_;exact k):=h
abbrev ZM8(h:p:=by
 refine' ZHd;have HW5:=aA ((FM.out.below ((aF _ _).alloc (aC _) (aB #[aH aD x.id,aG x.code] 119))).grown aj (Br tb.out));refine' ZZ0;have mC:Hid (D7 (.slice (P_ g) (rs.length+1) cap) (.slice (P_ G) xss.length xss.length) ir):=Kj bu.out gc.out cy ZF;have fk:Hid (apart (.slice (P_ g) (rs.length+1) cap) (.slice (some ⟨b',o',none⟩) ws.length cW)):=Dg tb.out cy fun j hj=>by have:=(FM.out.blk j hj).2;exact ZH
 go_roundw
 case rel=>exact⟨q+1,ir,ZA,ZJ,l5,by rw[FN.out];exact kX.out,by rw[xN.out];exact cg,HW5.out,mC,rL.out,fk⟩
 case measure=>exact ZK):=h
abbrev ZGi(h:p:=by
 have HK:Hid (C_ 51 #[.string am,.string ⟨#[32]⟩] w (.tuple #[.string wd,.string rest,.bool true])):=(Er am 32 w hz).mono fun e w' h=>P9
 obtain k:=_;exact k):=h
abbrev YA(h:p:=by refine' zm;refine' zk;obtain k:=_;exact k):=h
abbrev ZXu(h:p:=by
 refine' ZXr;have q5:=fun W (h:stS w w.heap.size 36 (y_ s AL cL AO cO AF cF AH cH AN cN) W)=>(Ac h.box).1.2.2.2.2.2.1
 have q6:=fun W (h:stS w w.heap.size 36 (y_ s AL cL AO cO AF cF AH cH AN cN) W)=>(Ac h.box).1.2.2.2.2.2.2.1
 obtain k:=_;exact k):=h
abbrev ZRC(h:p:=by
 refine' ZQ6;have HC:=Er x 62 W hx;refine' ZFa;rcases jc:E5 62 x with _|⟨p,q⟩
 .have pK:Calls Tryz.prog 51 #[.string x,.string ⟨#[62]⟩] W fun e w'=>B_ W w'/\e=.returned (.tuple #[.string x,.string ⟨#[]⟩,.bool false]):=HC.mono fun e w' h=>ZI8
  have HP:Hid (Ko (pre++[x])=false):=by show _=_;rw[ZDU];unfold K7;rw[jc];simp
  exact ZUR
 obtain k:=_;exact k):=h
abbrev zQ(h:p:=by
 have et:(0:Int)<=(k:Int):=ZA
 obtain k:=_;exact k):=h
abbrev ZOZ(h:p:=by
 refine' ZHQ;have HD:=aA je;obtain⟨hp,ho,hf,hh,cm⟩:=AbR je;refine' YS;have HF:=aA hf;have HH:=aA hh;clear hp ho hf hv je hh cm;have HB:=aA (hb.on HT.out);refine' ZMC;refine' zT;clear ac hb;refine' fL;obtain⟨W,hW⟩:∃W,W=w0.alloc (aB #[.slice none 0 0,.slice none 0 0,.slice none 0 0,.slice none 0 0] 78):=⟨_,rfl⟩;have lW:B_ w0 W:=by subst hW;exact Ae l0 _
 have E2:Hid (W.heap[w.heap.size+1]? =some (.cells #[.slice none 0 0,.slice none 0 0,.slice none 0 0,.slice none 0 0] 78 (0,0))):=by show _=_;rw[<-ah];subst hW;exact bC w0 _
 have LC:Hid (w.heap.size+1<W.heap.size):=by show _<_;subst hW;exact ZH
 have kA:=aA ah;clear ah;have HW:=aA hW;clear hW;have HQ:Hid (Ka d xs=(Mi d&&z_ xs)):=rfl;obtain k:=_;exact k):=h
abbrev ZLy(h:p:=by obtain⟨wA,ae⟩:∃u,u=w.alloc (aB (y_ s AL cL AO cO AF cF AH cH AN cN) 36):=⟨_,rfl⟩;obtain k:=_;exact k):=h
abbrev ZX(h:p:=by rw[HF.out]<;>rfl):=h
abbrev Yb(h:p:=by
 by_cases dx:j<k
 .exact HG.out j h1 dx
 .refine' iS;exact h):=h
abbrev Th(h:p:=by have L4:=aA k3.lay;obtain⟨r0,r1,r2,r3,r4,r5,r6,r7,cj⟩:=k3.res;have ak:=aA cj;clear cj;obtain k:=_;exact k):=h
abbrev ZZP(h:p:=by
 clear ha
 .skip
  refine' ZC;refine(Am3 _ _ o _ w1 tw.out (by refine' YU;first|(show o.size+3<=_;omega)|(show o.size+(_+1)<=_;omega)) ie).mono ?_;rintro e w2 ⟨rfl,u2,b2,nC⟩;have it:=aA (AdG tw.out);have yy:=aA u2;have kC:=aA (AgN qG.out nC it.out);have im:=aA (AhX mH.out nC it.out ZE ZE);have ig:=aA (dc.out.trans b2);clear u2 b2 nC
  refine' ZC;go_roundw
  case rel=>exact⟨k+1,qz,ZA,ZJ,ig.out,kC.out,by show Yy _ _ _ _;rw[sE.out he,HA.out];exact yy.out,im.out,rP.out,by show _=_;rw[sE.out he,<-HQ.out,qp.out,Vu he ZA ZA],by rw[sE.out he];have:=ZAu (ans k);refine' YU;show o.size+(_+1)<=_;omega⟩
  case measure=>exact ZK):=h
abbrev ZTf(h:p:=by
 go_wp2_with (at_builtin;refine An (α:=Int) rfl (.tmp 42) (.tmp 44) 61 rfl w.heap.size 3 i0 _ 8 iP hi ah ar ap rfl ZE (.slice (P_ g) (p.length+1) cap) (S8 (p++[i])) (j:Int) rfl (ez.out.alloc _) ⟨w3.heap.size,0,none⟩ 1 [.int .i64 j] rfl ⟨⟨ZA,ZA⟩,rfl⟩ (Bz w3 _ [.int .i64 j]) (by rw[Jm,aT];unfold maxLen;simp only[cE];omega) (by rw[Jm,aT];simp only[cE];omega) ZH ?_;refine' ZGH)
 have l5:B_ w w5:=(Ae l3 (aB #[aH aD j] 3)).grown aj ZH fun q hq=>(ez.out.blk q hq).1
 rw[<-AkZ]at cg;have AT:(S8 (p++[i])).length=p.length+1:=by rw[Jm];simp
 refine' Xz;obtain k:=_;exact k):=h
abbrev ZFU(h:p:=by
 refine' Zn;have HR:=aA hR;clear hO hR;have vw:(t.toList==[45])=true:=by unfold zU at cv;rw[bU ⟨#[45]⟩]at cv;exact cv
 clear cv
 obtain k:=_;exact k):=h
abbrev zn(h:p:=by refine' ZH3;simp[hf]):=h
abbrev ZYb(h:p:=by
 (go_at_call 97;first|(refine' Ny;rintro e u1 ⟨AX,nX,cX,rfl,oX,b1⟩;have k1:=aq.below b1;have OX:=aA oX;clear oX)|((with_reducible refine(HC.out _ ka.lay).mono ?_);rintro e u1 ⟨AX,nX,cX,rfl,oX,b1⟩;have k1:=ka.below b1;have qC:u1.heap[wB.heap.size]? =some (.cells #[.int .i64 0,.int .i64 0,.slice none 0 0] 30 (0,0)):=(b1.block _ uc).trans BB;obtain⟨d0,d1,d2,g0,g1,g2⟩:=B7 qC;have OX:=aA oX;clear oX)|((with_reducible refine(HC.out _ kb.lay).mono ?_);rintro e u1 ⟨AX,nX,cX,rfl,oX,b1⟩;have k1:=kb.below b1;have qC:u1.heap[wB.heap.size]? =some (.cells #[.int .i64 0,.int .i64 0,.slice none 0 0] 30 (0,0)):=(b1.block _ uc).trans BB;obtain⟨d0,d1,d2,g0,g1,g2⟩:=B7 qC;have OX:=aA oX;clear oX)|fail)
 obtain k:=_;exact k):=h
abbrev zz(h:p:=by
 show Bu _ _ _ _ _ _ _ _ (Act.put _ (some 60) _) _
 refine' ZV
 obtain k:=_;exact k):=h
abbrev ZYy(h:p:=by
 go_wp2_with (first|refine' ZLl|(refine' ZLm;obtain⟨r0,r1,r2,r3,r4,r5,r6,r7,hr⟩:=k1.res;refine' Va))
 have HF:=aA (duo.set8 k1);refine' ZLS;have h:=Bs.fin (a:=Hg) (x0:=.slice AL s.letters.length cL) (x1:=.int .i64 s.day.plan.bins) (x2:=.int .i64 s.day.plan.passes) (x3:=.slice AO s.day.plan.order.length cO) (x4:=.slice AF s.day.fwds.length cF) (x5:=.slice AH s.day.held.length cH) (x6:=.int .i64 s.day.size) (x7:=.slice AN s.net.length cN) (HS.out.cut k1.lay) k1.lay;rw[dj.out]at h;exact h):=h
abbrev ZLH(h:p:=by
 refine' ZXO;have i6:=aA ew;have L1:=aA l1;clear bv ew l1 lB b1 ml qO
 obtain k:=_;exact k):=h
abbrev ZU(h:p:=by rintro e w1 ⟨rfl,b1⟩;obtain k:=_;exact k):=h
abbrev Vc(h:p:=by have pU:rdP w w.heap.size (.agg #[.int .i64 s.day.plan.bins,.int .i64 s.day.plan.passes,.slice AO s.day.plan.order.length cO]) s.day.plan:=⟨_,rfl,hi.1,hi.2,hS.o.rd⟩;obtain k:=_;exact k):=h
abbrev ZG(h:p:=by rfl):=h
abbrev ZYB(h:p:=by
 generalize C5 xs=F at *;have ci:(Bt.toList==[115,105,122,101])=false:=ZD
 have dh:(Bt.toList==[104,111,108,100])=false:=ZD
 refine' ZKo;refine' ZHS;go_region_held3 (fun W=>duo w 36 (y_ s AL cL AO cO AF cF AH cH AN cN) false W) (first|(with_reducible exact aq)|exact N_|fail) (first|(go_at_call 95;refine' ZZw)|fail)
 obtain k:=_;exact k):=h
abbrev eX(h:p:=by injection hA with hA;injection hA with jr j3;subst jr j3;obtain k:=_;exact k):=h
abbrev ZFW(h:p:=by
 rw[iY]at b1 b2;rw[iY]at b2;have B0:=aA b0;have B1:=aA b1;have B2:=aA b2;have L3:=aA l3;clear b0 b1 b2 l3
 gi_wp2_with (refine' YT;gi_at_call 134;refine(callsIn_wide.2 (HS _)).mono ?_;rintro e w6 ⟨rfl,az,mM,BX⟩)
 obtain k:=_;exact k):=h
abbrev R6(h:p:=by
 .have HE:=aA (show k=xs.length by omega)
  refine' ZC;go_ret3
  rw[HE.out,bA]at hA hB;exact⟨_,_,Bf ZX,by rw[HY.out.1];exact hA,by rw[HY.out.2];exact hB,fe.out,lr⟩):=h
abbrev Vd(h:p:=by
 refine' ZLP;obtain⟨r0,r1,r2,r3,r4,r5,r6,r7,hr⟩:=k1.res;refine' Va
 obtain k:=_;exact k):=h
abbrev ZWh(h:p:=by
 have dz:k<d.data.toList.length:=ZKA
 have lG:=AcR d k ab;have ao:=aA (ZB9 d k ab);rw[mt,fF]at lG;have ij:Fe (d.data.toList.take (k+1))=10*Fe (d.data.toList.take k)+(d[k].toNat - 48):=ZZ1
 have hn:=Jc k (d.data.toList.take k) mt zF;refine' ZZ2;obtain⟨n,j9⟩:∃n,Fe (d.data.toList.take k)=n:=⟨_,rfl⟩;rw[j9]at ij hn⊢;have t6:n<=10000000000000000:=ZA
 clear j9 hn hp mt;obtain⟨b,pn⟩:∃b,d[k]=b:=⟨_,rfl⟩;rw[pn]at lG ij ao;have HS:=aA ij;clear ij;have qR:=aA lG;clear lG;have bd:(k:Int)<(d.size:Int):=ZA
 obtain k:=_;exact k):=h
abbrev ZS3(h:p:=by
 refine' z6;go_wp2_with (at_builtin;refine Cu (α:=Y_) rfl (.tmp 59) (.tmp 60) 28 rfl w.heap.size 9 i0 _ 16 aW hi ah ar ap rfl ZE (.slice A3 zs.length c3) zs rfl (ot.out.below (Ba (aF w6.heap.size w6) nq)) (.slice A6 ys.length c6) ys rfl (w6.drewN nq).heap.size (BI.out.on (Ba (aF w6.heap.size w6) nq)) ZN ZA tk ?_;intro v7 w7 lM ce _)
 have l7:B_ w w7:=(Ba l6 nq).grown ce tk fun q hq=>((ot.out.below (Ba (aF w6.heap.size w6) nq)).blk q hq).1
 exact ZZx):=h
abbrev ZOC(h:p:=by
 refine' Te;have kK:=aA (Al8 (fs:=fs) ab);have jg:=aA (AhU (fs:=fs) ab);have kt:=aA (Af2 (fs:=fs) ab);have io:=aA (AcY (fs:=fs) ab);have dc:=aA (aI (Ak8 fs (xs.take k)) (Fv xs k));have ig:=aA (aI (AfM fs (xs.take k)) (Fv xs k));have tS:(Bc fs xs[k].code).1.size<=maxLen:=ZCm H1.out fj;refine' zu;generalize F9 fs (xs.take k)=sa at *;generalize Lj fs (xs.take k)=bs at *;refine' ZMA;obtain⟨to,dj⟩:∃z,Hid ((Bc fs x.code).1=z):=⟨_,rfl⟩;obtain⟨nn,tr⟩:∃z,Hid ((Bc fs x.code).2.1=z):=⟨_,rfl⟩;rw[dj.out]at tS kK;refine' YN
 obtain k:=_;exact k):=h
abbrev Yj(h:p:=by refine' fL;have bj:w.heap.size<=w0.heap.size:=HT.out.size;obtain k:=_;exact k):=h
abbrev ZP8(h:p:=by
 have j5:((rs.length:Int)==0)=false:=beq_eq_false_iff_ne.2 ZA;have qZ:0<rs.length:=ZA
 clear ag h0;have fo:=Ed (P:=Tryz.prog) 28 9 i0 _ aW hi ah rs.length (by rw[ap];omega) ZA
 refine' ZC;have lk:Ck 9 (w1.alloc (aB (bF #[.string ⟨#[]⟩] rs.length) 9)) w1.heap.size rs.length 0 (rs.map Ek):=Ck.made w1 _ _ _ iG _;have br:B_ w1 (w1.alloc (aB (bF #[.string ⟨#[]⟩] rs.length) 9)):=(aF _ _).alloc (aC _) _;generalize w1.alloc (aB (bF #[.string ⟨#[]⟩] rs.length) 9)=w0 at *;clear fo;have cn:Hid ((rs.map Ek).length=rs.length):=Y8
 go_loopw[17] (fun i wr=>∃k:Nat,k<=rs.length/\i=.int .i64 k/\B_ w1 wr/\Ck 9 wr w1.heap.size rs.length k (rs.map Ek)) (fun i _=>rs.length - (intOf i).toNat)
 case atStart=>exact Y7
 obtain k:=_;exact k):=h
abbrev Zr(h:p:=by
 refine' ZC;rw[<-au.out,<-bt.out]
 obtain k:=_;exact k):=h
abbrev zd(h:p:=by obtain⟨w3,rfl⟩:∃w3:World,w3=wr:=⟨_,rfl⟩;obtain k:=_;exact k):=h
abbrev S7(h:p:=by obtain⟨wl,de⟩:∃wl:World,wl=w3.alloc (aB #[.int .i64 x.id,.string x.code] 119):=⟨_,rfl⟩;refine' ZNi;obtain k:=_;exact k):=h
abbrev h_(h:p:=by obtain⟨A,n,cp,rfl,hn,hc,hm,hr⟩:=hv;obtain k:=_;exact k):=h
abbrev Yz(h:p:=by refine Bi.cons rfl (fun K hK=>?_) Bi.nil;obtain k:=_;exact k):=h
abbrev ZKG(h:p:=by rw[wJ]at LA qQ⊢;clear wJ;refine(HC wA).mono ?_;rintro e w1 ⟨v,rfl,hp,b1⟩;clear HC;have qV:=R8 qQ.out hp (aC _);obtain⟨A,n,c,rfl,hn,DX,bf,_⟩:=hp.rd;have iy:=qQ.out.below b1;have wK:B_ w w1:=LA.out.trans (b1.mono LA.out.size);have i8:=mg.out;clear mg b1;obtain⟨ps,ev⟩:∃ps,Aj 32 t=ps:=⟨_,rfl⟩;rw[ev]at hn i8 hp HR;obtain k:=_;exact k):=h
abbrev ZOa(h:p:=by
 refine' ZU;have l1:=Aa lW b1;replace E2:=aA (E3 E2.out b1);have k0:=Dv E2.out 0 (.slice none 0 0) rfl;have k1:=Dv E2.out 1 (.slice none 0 0) rfl;have k2:=Dv E2.out 2 (.slice none 0 0) rfl;have k3:=Dv E2.out 3 (.slice none 0 0) rfl;have kf:=Nx E2.out;have br:w.heap.size<=w.heap.size+1:=eL _;cases h1:Mi d
 .have HF:Hid (Ka d xs=false):=z7
  clear h1
  refine' ZL7;exact ZCS HF.out (Ai (Ai (Ai (Ai (Aa HT.out l1) (p:=⟨w.heap.size+1,0,none⟩) br _) (p:=⟨w.heap.size+1,1,none⟩) br _) (p:=⟨w.heap.size+1,2,none⟩) br _) (p:=⟨w.heap.size+1,3,none⟩) br _)
 have H1:=aA h1;clear h1
 refine' ZC;obtain k:=_;exact k):=h
abbrev N3(h:p:=by refine' ZY1;rw[<-dj.out];obtain k:=_;exact k):=h
abbrev ZZ3(h:p:=by
 have jX:some G≠(Value.slice Au zs.length cu).ownBlock:=ZZ4
 have g7:=aA jX;clear jX;obtain k:=_;exact k):=h
abbrev ZQK(h:p:=by
 refine' ZMD;have ij:Fe (s.data.toList.take (k+1))=10*Fe (s.data.toList.take k)+(s[k].toNat - 48):=ZZ1
 have hn:=Jc k (s.data.toList.take k) (F3 HD.out k) zF;refine' ZZ2;obtain⟨n,j9⟩:∃n,Fe (s.data.toList.take k)=n:=⟨_,rfl⟩;rw[j9]at ij hn⊢;have t6:n<=10000000000000000:=ZA
 clear j9 hn hp;refine' ZIq
 obtain k:=_;exact k):=h
abbrev ZQF(h:p:=by have sA:=Jd a 3;have sB:=Jd b 2;have sC:=Jd c 2;have HV:Hid (Hf ⟨(a:Int),(b:Int),(c:Int)⟩=Iy a 3++Iy b 2++Iy c 2):=rfl;obtain⟨sa,uX⟩:∃s,Iy a 3=s:=⟨_,rfl⟩;obtain⟨sb,uj⟩:∃s,Iy b 2=s:=⟨_,rfl⟩;obtain⟨sc,KJ⟩:∃s,Iy c 2=s:=⟨_,rfl⟩;rw[uX]at HA sA HV;rw[uj]at HB sB HV;rw[KJ]at HC sC HV;rw[HV.out];have sA:=eS sA;have sB:=eS sB;have sC:=eS sC;clear uX uj KJ;obtain⟨w0,ac⟩:∃u,u=w.alloc (aB #[.int .i64 (a:Int),.int .i64 (b:Int),.int .i64 (c:Int)] 147):=⟨_,rfl⟩;have q0:=Af ac 0 (.int .i64 (a:Int)) rfl;have q1:=Af ac 1 (.int .i64 (b:Int)) rfl;have q2:=Af ac 2 (.int .i64 (c:Int)) rfl;refine' Wn;obtain k:=_;exact k):=h
abbrev ZP9(h:p:=by
 have fx:=aA (fun(W:World) (hF:Ck 9 W w1.heap.size rs.length k (rs.map Ek))=>hF.step za Za (ecs:=[.string (Ek rs[k])]) ZFC);clear mY;generalize rs[k]=x at *;obtain⟨p,q⟩:=x;have cm:=DK.out;simp only at cm y1 y2;obtain⟨s1,_,s2⟩:=cm;have kJ:Hid (Ek ⟨p,q⟩=p++⟨#[62]⟩++q):=rfl;refine' ZGI;refine' zQ;refine' ZFE;have xR:¬9223372036854775807<p.size+1+q.size:=ZA
 have xS:¬9223372036854775807<p.size+1:=ZA
 obtain k:=_;exact k):=h
abbrev ZWj(h:p:=by
 refine' ZIp;have w3:aD.wrap ((n:Int)*10)=(n:Int)*10:=bG _ ZA;have w4:aD.wrap ((n:Int)*10+((b.toNat:Int) - 48))=(n:Int)*10+((b.toNat:Int) - 48):=bG _ ZA;have nE:¬(b.toNat:Int)<48:=ZA
 have qw:¬(57:Int)<(b.toNat:Int):=ZA
 refine' ZC;go_round
 case rel=>exact⟨k+1,ZA,ZJ,by rw[qR.out];exact Yn,by rw[HS.out];congr 1;omega⟩
 case measure=>exact ZK):=h
abbrev ZF9(h:p:=by have qi:w1.cell? ⟨b,o+k*2,none⟩=some (.int .i64 x.id):=(av.cell (p:=⟨b,o+k*2,none⟩) hb).trans c1;obtain k:=_;exact k):=h
abbrev ZKR(h:p:=by
 unfold maxLen at pN;have ap:=lw.size;have NG:aD.wrap ((i:Int)+1)=(i:Int)+1:=bG _ ZA;have ER:(i:Int)<=(x.size:Int):=ZA
 have km:(i:Int)+1<=(x.size:Int):=ZA
 have XT:((i:Int)+1).toNat=i+1:=ZA
 have wM:(0:Int)<=(i:Int):=ZA
 have EZ:(0:Int)<=(i:Int)+1:=ZA
 obtain k:=_;exact k):=h
abbrev ZQX(h:p:=by
 refine' ZMD;have ij:Ni (s.data.toList.take (k+1))=Ni (s.data.toList.take k)++G6 (s[k].toNat - 48):=by rw[aJ dz,ZCE];rfl
 have DC:=M9 k (s.data.toList.take k) (F3 HD.out k) zF;generalize Ni (s.data.toList.take k)=u at *;obtain⟨b,pn⟩:∃b,s[k]=b:=⟨_,rfl⟩;rw[pn]at hb ij;obtain⟨d,hd⟩:∃d,d=b.toNat - 48:=⟨_,rfl⟩;rw[<-hd]at ij;obtain⟨bv,dq⟩:=hb;have uK:d<10:=ZA
 have HS:=aA ij;clear ij;have bd:(k:Int)<7:=ZA
 have lZ:=Ot d uK;have DD:u.size<=36:=ZA
 obtain k:=_;exact k):=h
abbrev ZIE(h:p:=by
 refine' ZOW;have l5:B_ w w5:=(Ae l4 (aB #[aH aD x.id,aG x.code] 119)).grown aj ZH fun q hq=>(jm.out.blk q hq).1
 exact ZIG):=h
abbrev ZPa(h:p:=by
 refine' ZHQ;have HD:=aA je;obtain⟨hp,ho,hf,hh,_⟩:=AbR je;refine' YS;refine' zY;have HF:=aA hf;have HH:=aA hh;refine' ZPZ;unfold maxLen at e4;have HQ:Hid (Nh d s=if Mi d&&Ap s then
  (if(Bc d.fwds s).2.2=true then
    if 0<=y6 d.held (Bc d.fwds s).1 then((Bc d.fwds s).1,Lv 2)
    else if 0<=y6 d.plan.order (Bc d.fwds s).1 then((Bc d.fwds s).1,Lv 3)
    else((Bc d.fwds s).1,Lv 4)
  else(s,Lv 1))else(⟨#[]⟩,⟨#[]⟩)):=rfl
 obtain k:=_;exact k):=h
abbrev ZS(h:p:=by unfold Bj;omega):=h
abbrev ZZ5(h:p:=by refine' ZVq;refine' ZC;obtain k:=_;exact k):=h
abbrev ZKg(h:p:=by
 go_enter func236,ntmps236
 refine' ZC;rw[<-HW.out]
 first
  |(refine Ax rfl rfl ga.out eC rfl Tryz.sizePlc rfl ?_;exact⟨rfl,HT.out⟩)
  |(refine Ax rfl rfl (Bp ga.out) eC rfl Tryz.sizePlc rfl ?_;exact⟨rfl,Ai (Ai (Ai HT.out (aC _) _) (aC _) _) (aC _) _⟩)):=h
abbrev ZOy(h:p:=by have gi:B_ wq (wq.alloc (aB #[aH aD x.id,aG x.code] 119)).drew:=Ag (Ae (aF _ _) _);obtain⟨p1,_,_⟩:=Eh (o:=.slice none 0 0) (rest:=[]) ku.out (own.nil_ _ _ _) ⟨.inl rfl,fun k hk=>.inl rfl⟩ gi fm jh oI.out tT.out cg aj cy;have p4:=Ex (G:=G) (d:=d) (g:=g) (m:=qs.length+1) (cap:=cap) (Ag (Ae lq (aB #[aH aD x.id,aG x.code] 119))) aj (fun j hj=>(jW.out.blk j hj).1) nT;exact ZO6):=h
abbrev ZJV(h:p:=by refine' zJ;refine' ZWD;refine' ZKs;obtain k:=_;exact k):=h
abbrev Tu(h:p:=by refine' zl;subst hn;refine' Yi;obtain k:=_;exact k):=h
abbrev ZMm(h:p:=by
 obtain⟨AO,mO,cO,rfl,qm,_,_,_⟩:=hO.rd
 subst qm;clear hO;obtain⟨b,o,u,rfl,hb,hu,c1⟩:=HR.out.rowU j ab;have ff:=aA (ZA0 (f:=f) ab);have f8:=aA (ZC1 (f:=f) ab);have ij:=aA (ZBx (f:=f) ab);have HL:Hid ((Mh f xss j).length+xss[j].length<=60):=by show _<=_;have h1:=Am6 f xss j ZA;have h2:=ZC3 xss (j+1);rw[aJ ab,bX,aT]at h2;simp only[dC,fU,eI]at h2;have:=oq.out;omega
 generalize xss[j]=ys at *;obtain⟨K,HK⟩:∃K,Hid (Fd f xss j=K):=⟨_,rfl⟩;have ob:Hid (j<K.length):=by show _<_;rw[<-HK.out,G4];exact ab
 rw[HK.out]at j8 ff ij;generalize Mh f xss j=zs at *;obtain⟨A2,m2,c2,rfl,nD,kG,kh,fh⟩:=hu;subst nD;unfold maxLen at kh;have HU:=aA fh;clear fh;have ly:(j:Int)<(xss.length:Int):=ZA
 refine' ZC;obtain k:=_;exact k):=h
abbrev ZHj(h:p:=by
 obtain⟨N,hN⟩:=aK (show 0<=p.bins by omega);have BO:p.bins.toNat=N:=ZA
 have tr:=aA BO;clear BO;have KM:N<=16:=ZA
 obtain⟨i0,hi,m7,ar,ap⟩:=dD Tryz.infoRow;have fo:=Ed (P:=Tryz.prog) 82 27 i0 _ eU hi m7 N zi ZA;rw[<-hN]at fo;have HN:=aA hN;clear hN;obtain⟨i1,ji,dr,du,dw⟩:=dD Tryz.infoLtr;obtain k:=_;exact k):=h
abbrev ZZ6(h:p:=by refine' d_;have bt:=aA ai;clear ae ai;obtain k:=_;exact k):=h
abbrev ZQ(h:p:=by refine' ZC;go_ret2;obtain k:=_;exact k):=h
abbrev ZYS(h:p:=by have HS:=aA hS;refine' Xq;show Calls Tryz.prog _ #[.agg (y_ s AL cL AO cO AF cF AH cH AN cN),.string Cy,.slice (P_ g) 1 c] w _;refine' Mm;refine' f_;obtain k:=_;exact k):=h
abbrev YK(h:p:=by
 show Bu _ _ _ _ _ _ _ _ (Act.put _ (some 61) _) _
 refine' ZV
 obtain k:=_;exact k):=h
abbrev ZOo(h:p:=by
 refine' Te;have mD:=aA (ZCF (s:=s) ab);obtain⟨f1,f2,f3⟩:=VP.out k hk;have rl:Hid (∀k',k=k'+1->∃y:Y_,y.size<=maxLen/\∀W,B_ w W->W.cell? ⟨b,o+k'*2+1,none⟩=some (.string y)):=fun k' gj=>by obtain⟨b',o',rm,_,⟨_,VQ⟩,_,e2⟩:=HR.out.ltrU k' ZA;injection rm with rm;injection rm with jr j3;subst jr j3;exact⟨_,VQ,e2⟩
 refine' zu;obtain⟨L,hL⟩:∃L,Gr s (xs.take k)=L:=⟨_,rfl⟩;rw[hL]at hB mD f1 f2 f3;clear hL;have lX:Hid (∀d (h:d<L.length),L[d].length<=60):=fun d h=>aI (Nn h) ZA
 obtain k:=_;exact k):=h
abbrev ZOL(h:p:=by
 refine' Zl;have hz:(w.alloc (aB #[] 119)).heap.size=w.heap.size+1:=ZF
 have oA:=(own.made0 (α:=Ltr) w 119 (aC w.heap.size)).alloc (aB #[] 119);have oB:=own.made0 (α:=Ltr) (w.alloc (aB #[] 119)) 119 (base:=w.heap.size) ZF;rw[hz]at oB;have lz:B_ w ((w.alloc (aB #[] 119)).alloc (aB #[] 119)):=Ae (Ae (aF _ _) _) _;refine' ZZ7;have OA:=aA oA;have OB:=aA oB;clear oA oB hz;obtain k:=_;exact k):=h
abbrev ZYx(h:p:=by refine' Zq;clear hS;have ci:(wd.toList==[108,101,116,116,101,114,115])=false:=h4 Cf ZF;have dh:(wd.toList==[112,108,97,110])=false:=h4 Df ZF;have eu:(wd.toList==[102,111,114,119,97,114,100,115])=false:=h4 Bg ZF;have fw:(wd.toList==[110,101,116])=false:=h4 Es ZF;clear h4 hz;obtain k:=_;exact k):=h
abbrev ZYW(h:p:=by
 have HS:=aA hS;refine' Xq;show Calls Tryz.prog _ #[.agg (y_ s AL cL AO cO AF cF AH cH AN cN),.string C0,.slice (P_ g) 2 c] w _;have bz:=(hf.blk g rfl).2;have bf:c<=maxLen/\2<=c:=ZHR
 have az:=bf.1;unfold maxLen at az;clear bf;refine' f_;refine' Vc;have uo:=aA (fun W=>Gh a W z0);have EV:=aA (fun W=>Gh b W z1);obtain⟨mp,BA⟩:∃mp,Ei s.day.plan (Am a) (Am b)=mp:=⟨_,rfl⟩;obtain k:=_;exact k):=h
abbrev zW(h:p:=by
 rintro e w' ⟨rfl,rfl⟩
 obtain k:=_;exact k):=h
abbrev ZY(h:p:=by injection e;omega):=h
abbrev ZOr(h:p:=by
 have vJ:B_ wq (wq.alloc (aB #[aH aD x.id,aG x.code] 119)):=Ae (aF _ _) _;have ur:=aA (ku.out.below vJ);have fa:∀j u,[(.slice (P_ wq.heap.size) 1 1:Value)][j]? =some u->((wq.alloc (aB #[aH aD x.id,aG x.code] 119)).alloc (aB #[.slice (P_ wq.heap.size) 1 1] 27)).cell? ((⟨wq.heap.size+1,0,none⟩:Addr).add j)=some u:=by rw[<-oG];exact Bz (wq.alloc (aB #[aH aD x.id,aG x.code] 119)) _ [.slice (P_ wq.heap.size) 1 1]
 clear oG vJ
 obtain k:=_;exact k):=h
abbrev ZM2(h:p:=by
 have FK:=aA (AoC f xss);have wO:Hid (∀d (h:d<(Fd f xss xss.length).length),(Fd f xss xss.length)[d].length<=60):=fun d h=>aI (AaK f xss xss.length d h) oq.out
 have NU:=aA HY.out.1;have HYO:=aA HY.out.2;obtain⟨K,hK⟩:∃K,Fd f xss xss.length=K:=⟨_,rfl⟩;rw[hK]at hB wO NU;have ob:Hid (K.length=xss.length):=by show _=_;rw[<-hK,G4]
 clear hK;generalize Mh f xss xss.length=ws at *;have hws:ws.length<=60:=aI FK.out oq.out;have wP:=aA hB;clear hB j8 HO;obtain⟨AW,mW,cW,rfl,hmW,_,_,_⟩:=hO.rd;subst hmW;have kQ:=aA hO;clear hO;clear HR HB
 refine' ZC;obtain k:=_;exact k):=h
abbrev ZZ8(h:p:=by refine' YP;have l4:=Aa ll b4;have m4:=Aa (aF wl.heap.size wl) b4;have B4:=BL.out.trans (m4.mono BL.out.size);obtain k:=_;exact k):=h
abbrev YU(h:p:=by simp only[aY];obtain k:=_;exact k):=h
abbrev Rd(h:p:=by refine' zX;exact⟨_,_,Bf ZX,ZN9,ZOA,.inl rfl,l1⟩):=h
abbrev ZSV(h:p:=by
 have ow:∀j u,np.flatten[j]? =some u->w.cell? (ad.add j)=some u:=fun j u hu=>by
  have vp:j<np.flatten.length:=(List.getElem?_eq_some_iff.1 hu).1;rw[J8 oy,rQ]at vp;have hk:j/El.size α<ys.length:=Nat.div_lt_of_lt_mul (by rw[Nat.mul_comm];exact vp);have tO:j%El.size α<El.size α:=Nat.mod_lt _ cm;have hj:j=j/El.size α*El.size α+j%El.size α:=by rw[Nat.mul_comm];exact(Nat.div_add_mod j _).symm
  obtain⟨b,o,hA,_,gp⟩:=lY (j/El.size α) ZA hk;injection hA with hA;subst hA;rw[Ii,hj];refine gp _ u ?_;rw[hj]at hu;rw[<-hu,ZBU oy ZA tO]
 obtain k:=_;exact k):=h
abbrev ZL4(h:p:=by rw[<-hu]at df gy kF;clear hu;obtain⟨Au,mu,cu,rfl,lu,_,_,_⟩:=df.rd;subst lu;have jW:=aA df;clear df;have mT:=aA gy;clear gy;obtain k:=_;exact k):=h
abbrev Uo(h:p:=by simp[IntKind.wrap,IntKind.bits,IntKind.signed];omega):=h
abbrev ZPS(h:p:=by
 refine' ZTA
 .refine' ZTB;go_round
  case rel=>
   refine' ZIz
   .refine' iS;rw[hG.out,H1.out,H2.out,<-hS.out,ak.out,H3.out];rfl
  case measure=>exact ZK):=h
abbrev ZQU(h:p:=by
 go_enter func236,ntmps236
 refine' ZC;rw[<-HW.out]
 go_region_held3 (fun _=>True) (first|trivial|fail) (first|(go_at_call 292;refine' ZIs;have bv:=E3 (w:=w0.drew) ga.out b1;obtain⟨c0,c1,c2,f0,f1,f2⟩:=B7 bv;have it:=aA bv;clear bv)|fail)
 all_goals
  clear c0 c1 c2 f0 f1 f2;have K1:=aA (Aa (Ag HT.out) b1);clear b1
  refine' ZC;refine Ax rfl rfl (Bp it.out) eC rfl Tryz.sizePlc rfl ?_;exact⟨rfl,Ai (Ai (Ai K1.out (aC _) _) (aC _) _) (aC _) _⟩):=h
abbrev Y1(h:p:=by
 refine' ZC;refine kv.out.mono ?_;rintro e w1 ⟨rfl,h1⟩
 refine' ZI;exact⟨rfl,h1⟩):=h
abbrev ZLj(h:p:=by
 refine' ZZ9;have dh:(Es.toList==[112,108,97,110])=false:=ZD
 have eu:(Es.toList==[102,111,114,119,97,114,100,115])=false:=ZD
 refine' ZLO;obtain k:=_;exact k):=h
abbrev W9(h:p:=by go_at_call 43;refine' ZLK;obtain k:=_;exact k):=h
abbrev ZUE(h:p:=by
 go_wp2_with (at_builtin;refine Vk (α:=Y_) rfl (.tmp 26) (.tmp 31) _ rfl w.heap.size 9 i0 _ 16 aW hi ah ar ap rfl ZE (.slice A xs.length cp) xs (s.extract fr k) rfl (HO.out.alloc _) ⟨w2.heap.size,0,none⟩ 1 [.string (s.extract fr k)] rfl ⟨FO,rfl⟩ (Bz w2 _ [.string (s.extract fr k)]) ZN ZA ZH ?_;intro v' w4 fd a6 _)
 have ju:Below w.heap.size w2 w4:=((aF _ _).alloc hz _).trans (Ay (HO.out.alloc _) a6 ZH);have jx:=aA fd;clear a6 fd;obtain k:=_;exact k):=h
abbrev zH(h:p:=by intro g cap w5 cg aj cy jn;obtain k:=_;exact k):=h
abbrev ZW9(h:p:=by
 go_wp2_with (at_builtin;refine An (α:=Y_) rfl (.tmp 29) (.tmp 34) 28 rfl w.heap.size 9 i0 _ 16 aW hi ah ar ap rfl ZE (.slice Av L.length cp) L x rfl (HO.out.alloc _) ⟨w2.heap.size,0,none⟩ 1 [.string x] rfl ⟨pI,rfl⟩ (Bz w2 _ [.string x]) ZN ZA ZH ?_;intro g cap w8 uE il FC SE)
 have l8:B_ w w8:=(lr.alloc lr.size (aB #[.string x] 9)).grown il ZH fun r e=>(HO.out.blk r e).1
 have iv:=aA uE;clear uE il FC
 obtain k:=_;exact k):=h
abbrev Pf(h:p:=by rintro e w6 ⟨m,rfl,xJ,ks,k6,kI⟩;have qK:(m:Int)<=(s.size:Int):=(by have:=nQ.out.1;omega);obtain k:=_;exact k):=h
abbrev Ws(h:p:=by
 go_round
 case rel=>exact⟨k+1,ZA,ZJ,HX.out jj.out⟩
 case measure=>exact ZK):=h
abbrev ZPN(h:p:=by
 by_cases bc:r<0
 .refine' zX;exact⟨Bf (by rw[HS.out,ak.out,aQ bc]<;>rfl),l2⟩
 .refine' ZJk;have hq:q<fs.length:=ZA
  obtain⟨b,o,rfl,hb,⟨TE,uJ⟩,c1,c2⟩:=HR.out.fwdU q hq;have HT:=aA (Ah6 ak.out hq);generalize fs[q]=x at *;unfold maxLen at uJ;refine' ZC;go_roundw
  case rel=>exact⟨k+1,x.dst,ZA,ZJ,rfl,uJ,l2,by show _=_;rw[HS.out,ak.out,aM ZA,HT.out]⟩
  case measure=>exact ZK):=h
abbrev ZaA(h:p:=by
 clear hz
 refine' ZC;refine(HD.out _).mono ?_;refine' Zb;refine' ZI;exact⟨B8 uR.out.symm,lr⟩):=h
abbrev zc(h:p:=by obtain⟨i0,hi,ah,ar,ap⟩:=dD Tryz.infoStr;obtain k:=_;exact k):=h
abbrev Nc(h:p:=by have RX:=aA (rdN.of_own (R:=cut R w.heap.size (w.heap.size+2)) kH fun k hk=>.inr ZA);have jk:=aA (fun W (h:B_ W2 W)=>HX.out _ W (kH.rd.on h));obtain k:=_;exact k):=h
abbrev Zl(h:p:=by obtain⟨i1,ji,dr,du,dw⟩:=dD Tryz.infoLtr;obtain k:=_;exact k):=h
abbrev zB(h:p:=by rintro e w3 ⟨rfl,b3⟩;obtain k:=_;exact k):=h
abbrev YW(h:p:=by
 show Bu _ _ _ _ _ _ _ _ (Act.put _ (some 58) _) _
 refine' ZV
 obtain k:=_;exact k):=h
abbrev ZLW(h:p:=by have BF:rdD w w.heap.size (.agg #[.int .i64 s.day.plan.bins,.int .i64 s.day.plan.passes,.slice AO s.day.plan.order.length cO,.slice AF s.day.fwds.length cF,.slice AH s.day.held.length cH,.int .i64 s.day.size]) s.day:=⟨_,_,_,rfl,hi.1,hi.2.1,hi.2.2,hS.o.rd,hS.f.rd,hS.h.rd⟩;obtain k:=_;exact k):=h
abbrev ZMt(h:p:=by
 clear pQ;obtain⟨fm,df,gy⟩:∃fm:j<ir.length,own 119 w0.heap.size w4 ir[j] qs/\apart ir[j] (.slice (P_ G) xss.length xss.length):=by obtain⟨z1,z2,z3,z4,z5⟩:=bu.out;have h3:=z3 j ZA jh;rw[JG]at h3;exact⟨ZA,h3,z5 j ZA⟩
 have kF:w4.cell? ⟨G,j,none⟩=some ir[j]:=Ff bu.out.1 j fm;have tP:w4.frozen? ⟨G,j,none⟩=false:=bu.out.1.freeAt j;obtain⟨u,hu⟩:∃u,u=ir[j]:=⟨_,rfl⟩;refine' ZL3;have ky:G<w4.heap.size:=(bu.out.1.blk G rfl).2;go_wp2
 obtain k:=_;exact k):=h
abbrev ZFR(h:p:=by
 go_enter func135,ntmps135
 refine' ZC;refine' Wf;refine' ZP;obtain k:=_;exact k):=h
abbrev e_(h:p:=by simp only[aO,bD]at h;obtain k:=_;exact k):=h
abbrev ZSJ(h:p:=by refine' Yf;have br:=aA hb;refine' ZFP;clear tx rz jv;obtain⟨A,n,cp,rfl,hn,hc,hm,_⟩:=hb;refine' Zj;refine' ZQ0;obtain⟨k1,k2⟩:=ZBd p xs;have HQ:Hid (F5 p xs=if Jh p xs<0 then -1 else xs.length - Jh p xs):=rfl;obtain k:=_;exact k):=h
abbrev ZJH(h:p:=by refine' ZUW;have oz:=Bd (Bd o2 ⟨w.heap.size,0,none⟩ (.slice A m cp) (by show w.heap.size<_;omega)) ⟨w.heap.size+1,0,none⟩ (.bool true) ZKO;refine' ZUX;obtain k:=_;exact k):=h
abbrev ZGX(h:p:=by
 go_at_call 351;(with_reducible refine HR.out.mono ?_);rintro e w1 ⟨rfl,d1,t1,s1⟩;have R1:Aside (Jq s m en d d1):=t1;have S2:Aside (SWK enc k w0 blk aw d1 w1):=s1;clear t1 s1
 obtain k:=_;exact k):=h
abbrev Wc(h:p:=by refine' ZFb;have z2:Boxed W2 _ _ _:=(hb.block _ jY.out.lt).trans jY.out;obtain k:=_;exact k):=h
abbrev ZYf(h:p:=by
 have jk:=aA (fun W (h:B_ W2 W)=>uA.out _ W ⟨_,rfl,QF.out.1,QF.out.2,RX.rd.on h⟩);have jq:=(Array.getElem?_eq_some_iff.1 dq).1;have g0:=fun W (h:B_ W2 W)=>(B7 ((h.block _ jq).trans dq)).1
 have g1:=fun W (h:B_ W2 W)=>(B7 ((h.block _ jq).trans dq)).2.1
 have g2:=fun W (h:B_ W2 W)=>(B7 ((h.block _ jq).trans dq)).2.2.1
 clear RX dq k0 aq ka kb k1 kU BB y0 y1;refine' Xp;obtain k:=_;exact k):=h
abbrev ZTR(h:p:=by
 obtain⟨u,hu⟩:=aK (show 0<=q by omega);have tc:u<rs.length:=ZA
 obtain⟨b',o',hA,_,⟨FR,_⟩,d1,d2⟩:=HR.out.fwdU u tc;refine' eX;subst hu;have yS:Hid (rs[u].src.size<x.src.size->Ie rs c (k+1)=k):=fun h=>HT.out HP.out (.inr ⟨u,tc,HQ.out,h⟩)
 have JC:=aA (OC.out u tc rfl);clear HT OC HM;generalize rs[u]=y at *;unfold maxLen at FR;refine' ZJz;have wS:decide ((u:Int)<0)=false:=aP ZA;obtain k:=_;exact k):=h
abbrev ZOI(h:p:=by
 refine' Te;have kK:=aA (AjL (hs:=hs) ab);have jg:=aA (Ag8 (hs:=hs) ab);have kt:=aA (Ak5 (hs:=hs) ab);have io:=aA (AgB (hs:=hs) ab);have dc:=aA (aI (AkO hs (xs.take k)) (Fv xs k));have ig:=aA (aI (AjR hs (xs.take k)) (Fv xs k));refine' zu;generalize Kq hs (xs.take k)=sa at *;generalize Ng hs (xs.take k)=bs at *;refine' ZMA;refine' YN
 obtain k:=_;exact k):=h
abbrev ZYt(h:p:=by refine' Tk;refine' ZKi;refine' ZGb;refine' Vy;refine' Wf;rintro e u1 ⟨vX,rfl,oX,z1,fX⟩;refine' V_;obtain⟨AX,nX,cX,rfl,VW,VX,VY,_⟩:=id oX;obtain⟨U1,lf⟩:∃u,u=u1.alloc (aB #[.int .i64 (Ey r).bins,.int .i64 (Ey r).passes,.slice AX nX cX] 30):=⟨_,rfl⟩;obtain k:=_;exact k):=h
abbrev ZQA(h:p:=by
 have kc:=hf.below lb;refine' ZIj;have tG:=aA hf;have mP:=aA av;clear kc hf
 refine' ZC;go_roundw
 case rel=> have:=fx.out _ tG.out;refine' ZJf;have lZ:=mP.out.trans (I6 [.string (p++⟨#[62]⟩++q)] _ k _ (aC _));exact⟨k+1,ZA,ZJ,lZ.alloc lZ.size _,this.below ((aF _ _).alloc (aC _) _)⟩
 case measure=>exact ZK):=h
abbrev ZR8(h:p:=by refine' zJ;obtain⟨vL,vO,vF,vN,_,⟨c0,c1,c2,c3,c4,c5,c6,_⟩,_,hL,hO,hF,hH,_,_⟩:=Ca hD;refine' ZaB;obtain⟨AF,nF,cF,rfl, -, -, -, -⟩:=hF.rd;obtain⟨AH,nH,cH,rfl, -, -, -, -⟩:=hH.rd;have KF:rdD w w.heap.size (.agg #[.int .i64 s.day.plan.bins,.int .i64 s.day.plan.passes,.slice AO nO cO,.slice AF nF cF,.slice AH nH cH,.int .i64 s.day.size]) s.day:=⟨_,_,_,rfl,hi.1,hi.2.1,hi.2.2,hO.rd,hF.rd,hH.rd⟩;obtain k:=_;exact k):=h
abbrev ZYr(h:p:=by
 generalize t_ r=xs at *;have cx:(Cf.toList==[108,101,116,116,101,114,115])=true:=ZD
 generalize Cf=wd at *;go_enter func12,ntmps12
 refine' Zr;go_wp2_with (go_at_call 41;refine' Wf;refine' Vb;have k1:=k0.below z1;refine' ZZu;have rr:=q7 _ k1)
 exact ZLT):=h
abbrev ZSS(h:p:=by
 subst hn;have KN:=As8 (n:=ys.length) (p:=fun k (cs:List Value)=>∀h:k<ys.length,∃b o,A=some ⟨b,o,none⟩/\El.el w B ys[k] cs/\∀j u,cs[j]? =some u->w.cell? ⟨b,o+(k*El.size α+j),none⟩=some u) (fun k hk=>by obtain⟨b,o,cs,h1,_,h3,h4⟩:=nU k hk;exact⟨cs,fun _=>⟨b,o,h1,h3,h4⟩⟩)
 obtain⟨np,rQ,lY⟩:=KN;have oy:∀x∈np,x.length=El.size α:=fun x hx=>by refine' eY;obtain⟨_,_,_,h,_⟩:=lY k hk ZA;exact El.len h
 obtain k:=_;exact k):=h
abbrev ZVa(h:p:=by
 refine' Te;have kK:=aA (Aq7 (f:=f) ab);have jg:=aA (Ak6 (f:=f) ab);have kt:=aA (ApN (f:=f) ab);have io:=aA (AjH (f:=f) ab);have dc:=aA (aI (ApG f (xs.take k)) (Fv xs k));have ig:=aA (aI (An6 f (xs.take k)) (Fv xs k));refine' zu;generalize jI f (xs.take k)=sa at *;generalize jJ f (xs.take k)=bs at *;refine' ZMA;refine' YN
 obtain k:=_;exact k):=h
abbrev ZX0(h:p:=by
 have ci:(Cz.toList==[99,111,100,101])=false:=ZD
 have dh:(Cz.toList==[98,97,114,115])=false:=ZD
 have eu:(Cz.toList==[114,101,97,100])=false:=ZD
 have fw:(Cz.toList==[99,111,117,110,116])=false:=ZD
 have iq:(Cz.toList==[114,97,110,107])=false:=ZD
 have jz:(Cz.toList==[108,111,97,100,115])=false:=ZD
 have kB:(Cz.toList==[114,101,115,111,108,118,101])=false:=ZD
 have lT:(Cz.toList==[102,97,116,101])=false:=ZD
 obtain k:=_;exact k):=h
abbrev ZX3(h:p:=by
 have ci:(Fl.toList==[99,111,100,101])=false:=ZD
 have dh:(Fl.toList==[98,97,114,115])=false:=ZD
 have eu:(Fl.toList==[114,101,97,100])=false:=ZD
 have fw:(Fl.toList==[99,111,117,110,116])=false:=ZD
 have iq:(Fl.toList==[114,97,110,107])=false:=ZD
 have jz:(Fl.toList==[108,111,97,100,115])=false:=ZD
 have kB:(Fl.toList==[114,101,115,111,108,118,101])=false:=ZD
 have lT:(Fl.toList==[102,97,116,101])=false:=ZD
 obtain k:=_;exact k):=h
abbrev ZY2(h:p:=by
 have ci:(B5.toList==[99,111,100,101])=false:=ZD
 have dh:(B5.toList==[98,97,114,115])=false:=ZD
 have eu:(B5.toList==[114,101,97,100])=false:=ZD
 have fw:(B5.toList==[99,111,117,110,116])=false:=ZD
 have iq:(B5.toList==[114,97,110,107])=false:=ZD
 have jz:(B5.toList==[108,111,97,100,115])=false:=ZD
 have kB:(B5.toList==[114,101,115,111,108,118,101])=false:=ZD
 have lT:(B5.toList==[102,97,116,101])=false:=ZD
 obtain k:=_;exact k):=h
abbrev zS(h:p:=by
 refine' fE;clear h1
 obtain k:=_;exact k):=h
abbrev YI(h:p:=by
 show Bu _ _ _ _ _ _ _ _ (Act.put _ (some 56) _) _
 refine' ZV
 obtain k:=_;exact k):=h
abbrev zM(h:p:=by have HS:=aA hS;refine' Xq;obtain k:=_;exact k):=h
abbrev ZND(h:p:=by
 go_wp2;have qd:own (α:=Value) 27 w.heap.size (w.alloc (aB #[] 27)) (.slice (P_ w.heap.size) 0 0) []:=own.made0 w _ (aC _);have l0:B_ w (w.alloc (aB #[] 27)):=(aF _ _).alloc (aC _) _;have uo:Hid (Fi (α:=Ltr) 27 119 w.heap.size (w.alloc (aB #[] 27)) (.slice (P_ w.heap.size) 0 0) [] []):=⟨qd,rfl,fun k h=>absurd h (aX k),fun j k h=>absurd h (aX j),fun k h=>absurd h (aX k)⟩;clear qd;generalize(w.alloc (aB #[] 27))=w0 at *
 obtain k:=_;exact k):=h
abbrev ZRb(h:p:=by
 refine' ZC;have j6:=I3 (α:=Ltr) w0 27 119 10 w0.heap.size (aC _) ZN;have lz:B_ w0 (w0.alloc (aB (bF #[.slice none 0 0] 10) 27)):=Ae NF _;generalize(w0.alloc (aB (bF #[.slice none 0 0] 10) 27))=wz at *;obtain⟨pY,j6⟩:=j6;obtain⟨G,hG⟩:∃G,w0.heap.size=G:=⟨_,rfl⟩;have DW:=aA hG;have lL:Hid (Fi 27 119 w0.heap.size wz (.slice (P_ G) 10 10) (List.replicate 10 ([]:List Ltr)) pY):=by rw[<-hG];exact j6
 rw[hG];clear j6 hG fo;obtain k:=_;exact k):=h
abbrev ZIr(h:p:=by
 obtain⟨w0,ac⟩:∃u,u=w.alloc (aB #[.int .i64 0,.int .i64 0,.int .i64 0] 147):=⟨_,rfl⟩;refine' Wn;have ga:Hid (w0.heap[w.heap.size]? =some (.cells #[.int .i64 0,.int .i64 0,.int .i64 0] 147 (0,0))):=ZK4
 obtain k:=_;exact k):=h
abbrev ZXv(h:p:=by
 have ci:(Dl.toList==[99,111,100,101])=false:=ZD
 have dh:(Dl.toList==[98,97,114,115])=false:=ZD
 have eu:(Dl.toList==[114,101,97,100])=false:=ZD
 have fw:(Dl.toList==[99,111,117,110,116])=false:=ZD
 have iq:(Dl.toList==[114,97,110,107])=false:=ZD
 have jz:(Dl.toList==[108,111,97,100,115])=false:=ZD
 have kB:(Dl.toList==[114,101,115,111,108,118,101])=false:=ZD
 refine' ZWO;obtain k:=_;exact k):=h
abbrev YO(h:p:=by
 have HE:=aA (show k=xs.length by omega)
 obtain k:=_;exact k):=h
abbrev ZPp(h:p:=by
 (with_reducible refine(tN.out _ ld).mono ?_);refine' zB;have l3:=Aa ld b3;have DU:=q0 w3 l3;have DV:=q1 w3 l3;have kc:=BM.out.below l3;refine' ZIj;have KK:=(fun v:Value=>(dK w3 ⟨w1.heap.size,k,none⟩ ⟨w2.heap.size,0,none⟩ v (fun e=>ZY)).trans DU);have KL:=(fun v:Value=>(dK w3 ⟨w1.heap.size,k,none⟩ ⟨w2.heap.size,1,none⟩ v (fun e=>ZY)).trans DV)
 obtain k:=_;exact k):=h
abbrev ZI9(h:p:=by refine' ZL1;exact⟨(Cr hb).trans r2,.inl HP.out,r0,r1,(hB.trans (hb.mono hB.size)).trans (r3 _ (aC _))⟩):=h
abbrev ZFg(h:p:=by refine' ZL1;exact⟨(Cr hb).trans r2,.inr HL.out,r0,r1,(hB.trans (hb.mono hB.size)).trans (r3 _ (aC _))⟩):=h
abbrev ZO0(h:p:=by
 have vJ:B_ wq (wq.alloc (aB #[] 119)):=Ae (aF _ _) _;have ur:=aA (ku.out.below vJ);have fa:∀j u,[(.slice (P_ wq.heap.size) 0 0:Value)][j]? =some u->((wq.alloc (aB #[] 119)).alloc (aB #[.slice (P_ wq.heap.size) 0 0] 27)).cell? ((⟨wq.heap.size+1,0,none⟩:Addr).add j)=some u:=by rw[<-oG];exact Bz (wq.alloc (aB #[] 119)) _ [.slice (P_ wq.heap.size) 0 0]
 clear oG vJ
 obtain k:=_;exact k):=h
abbrev iG(h:p:=by rw[size_madeCells];exact(eF _).symm):=h
abbrev ZX7(h:p:=by
 refine' ZC;go_region_held3 (fun W=>stS w w.heap.size 36 (y_ s AL cL AO cO AF cF AH cH AN cN) W) (first|(with_reducible exact tC)|(with_reducible exact k2)|fail) (first|(go_at_call 111;(with_reducible refine(HO.out _ tC).mono ?_);rintro e u2 ⟨rfl,z2⟩;have k2:=tC.below z2)|fail)
 obtain k:=_;exact k):=h
abbrev ZUe(h:p:=by
 refine' ZHT;obtain⟨F,hF⟩:∃F,Mx (Gl Jl (ps.take k))=F:=⟨_,rfl⟩;rw[hF]at ef⊢;clear hF jt l3;cases hq:zU F t
 .refine' ZZj;exact⟨_,[],G9 ef.out,by rw[HR.out,ef.out];exact isN.none_ (own.made0 _ _ fu.out.size),fu.out.alloc fu.out.size _⟩
 .refine' ZZk;exact⟨_,_,G9 ef.out,ZZl,fu.out⟩):=h
abbrev ZPB(h:p:=by
 have HF:Hid (Tw d xs=Oj d.size (Dh d xs).round):=z7
 have HE:Hid (Eu d xs=Iq d.size (Dh d xs).round):=ZaC
 clear h1;obtain⟨wb,kD⟩:∃u,u=w1.alloc (aB #[.slice R0 (Dh d xs).round.length r0,.slice R1 (Dh d xs).strange.length r1,.slice R2 (Dh d xs).held.length r2,.slice R3 (Dh d xs).stuck.length r3] 78):=⟨_,rfl⟩;have bx:=(Aw kD).1;have lb:=Aa l1 bx;have bt:=aA kD;clear kD
 refine' ZC;rw[<-bt.out];obtain k:=_;exact k):=h
abbrev ZSM(h:p:=by
 go_wp2
 go_quiet (first|(go_at_call 161;refine Da (C2.out _)))
 go_wp2;have lw:=Cx li nq;have QV:(wi.drewN nq).cell? ⟨gk,m,none⟩=some (.int .i64 (a:Nat)):=zD
 have VO:(wi.drewN nq).cell? ⟨gk,k,none⟩=some (.int .i64 ((t+1:Nat):Int)):=zD
 have f2':(wi.drewN nq).frozen? ⟨gk,k,none⟩=false:=zD
 have HOJ:=aA (rK.out.below (Ba (aF _ _) nq));generalize wi.drewN nq=wj at *
 go_still_tail 13,ZB
 change wpList _ _ _ _ _ wj.drew;obtain k:=_;exact k):=h
abbrev ZHE(h:p:=by refine' Wf;rintro e u1 ⟨vX,rfl,oX,z1⟩;refine' V_;refine' ZLU;obtain k:=_;exact k):=h
abbrev ZOs(h:p:=by
 have l5:B_ w w5:=(Ae (Ae lq (aB #[aH aD x.id,aG x.code] 119)) (aB #[.slice (P_ wq.heap.size) 1 1] 27)).grown aj ZH fun q hq=>(ku.out.1.blk q hq).1
 have vM:=aA (Fi.snoc (ur.out.below (Ae (aF _ _) (aB #[.slice (P_ wq.heap.size) 1 1] 27))) ((rX.out.base_ uq).alloc (aB #[.slice (P_ wq.heap.size) 1 1] 27)) rq.out cg aj cy);obtain k:=_;exact k):=h
abbrev ZG3(h:p:=by have uD:=aA (fun(v:Value) (W:World) (h:R_ W v ((Cs s.net st c).1.map (Bw s.net)))=>Fn v ((Cs s.net st c).1.map (Bw s.net)) W h hq ZA);obtain k:=_;exact k):=h
abbrev ZVA(h:p:=by have Z3:Aside (d3.size=n):=p3.1.trans Z2.out;have DR:Aside (SWK enc k w0 blk aw d3 w3):=S3;have P3:Aside (PermIn 0 n d0 d3):=permIn_trans _ _ _ _ _ P2.out (permIn_mono _ _ _ _ _ _ (aN _) ZA ZKZ p3);obtain k:=_;exact k):=h
abbrev ZZT(h:p:=by
 clear r8 fp
 refine' ZC;refine(p_ g q 16 _ ko ZA ZS).mono ?_;rintro e w3 ⟨z,rfl,hz,fy,er⟩;have HG:=aA (vU gr.out er);clear hz er gr;by_cases ah:z=0
 .have ar:(z==0)=true:=by simp[ah]
  clear ah
  refine' ZI;exact⟨_,q+1,rfl,Wp,fy,ZA,HG.out⟩
 .have ar:(z==0)=false:=by simp[ah]
  clear ah
  refine' ZI;exact⟨_,q+1,rfl,ZA,fy,ZA,HG.out⟩):=h
abbrev ZOV(h:p:=by
 refine' ZC;go_loopw[7,8,11] (fun a b i wu=>a=.slice (P_ w.heap.size) 0 0/\b=.slice (some ⟨w.heap.size+1,0,none⟩) 0 0/\i=.int .i64 0/\wu=wr) (fun _ _ _ _=>0)
 case atStart=>exact⟨rfl,rfl,rfl,rfl⟩
 case round=>
  obtain⟨rfl,rfl,rfl,rfl⟩:=hrel;by_cases MV:(0:Int)<(xs.length:Int)
  all_goals exact ZOQ):=h
abbrev Q_(h:p:=by refine' ZJN;refine' ZZm;obtain k:=_;exact k):=h
abbrev P9(h:p:=by
 obtain⟨hb,⟨h,_⟩|⟨p,q,h,he⟩⟩:=h
 .rw[ct]at h;cases h
 .rw[ct]at h;cases h;exact⟨he,hb⟩):=h
abbrev ZSw(h:p:=by
 unfold zU at sy
 go_wp2_with (at_builtin;refine Cu (α:=Y_) rfl (.tmp 68) (.tmp 69) 28 rfl w.heap.size 9 i0 _ 16 aW hi ah ar ap rfl ZE (.slice A3 zs.length c3) zs rfl ot.out (.slice (some ⟨b',o',none⟩) ys.length c6) ys rfl w6.heap.size BI.out ZN ZA tk ?_;intro v7 w7 lM ce _)
 refine' ZSz;obtain k:=_;exact k):=h
abbrev Ox(h:p:=by refine' ZF0;refine' X5;exact ZKr):=h
abbrev ZXs(h:p:=by
 have ci:(Cc.toList==[99,111,100,101])=false:=ZD
 have dh:(Cc.toList==[98,97,114,115])=false:=ZD
 have eu:(Cc.toList==[114,101,97,100])=false:=ZD
 have fw:(Cc.toList==[99,111,117,110,116])=false:=ZD
 have iq:(Cc.toList==[114,97,110,107])=false:=ZD
 have jz:(Cc.toList==[108,111,97,100,115])=false:=ZD
 refine' ZWN;obtain k:=_;exact k):=h
abbrev zP(h:p:=by simpa using hk):=h
abbrev ZLB(h:p:=by
 have oA:own (α:=Y_) 9 w.heap.size wA (.slice (P_ w.heap.size) 0 0) []:=ZLD
 refine' ZLE
 obtain k:=_;exact k):=h
abbrev ZMS(h:p:=by
 by_cases kY:y.id=x.id
 .refine' ZHX;refine' ZO;exact⟨Al (ao.out ZMV).symm,oW.alloc ZA _⟩
 .refine' ZHY;go_wp2
  go_roundw
  case rel=>exact⟨m+1,ZA,ZJ,tB.alloc GF _,ZMW⟩
  case measure=>exact ZK):=h
abbrev za(h:p:=by rw[cn.out];exact ab):=h
abbrev ZUo(h:p:=by
 have h2:=wpOp_putIf xL (hfree j oj xL ly xb rM) (fun cs b=>tf i oi cs b hi) (fun cs b=>tf j oj cs b xL) hQ hy h1;have tg:∀k ok,ops[k]? =some ok->k≠i->(L.setIfInBounds j true).getD k true=false->
  (∀e∈ok.after,Region.binds md e=true->e.on≠i)->oi.apart ops ok=true:=fun k ok hk bd OZ mq=>by
  refine hfree k ok hk bd ?_ mq;by_cases dx:j=k
  .subst dx;exact xb
  .rw[getD_set_ne true dx]at OZ;exact OZ
 obtain k:=_;exact k):=h
abbrev Yc(h:p:=by exact⟨0,aN _,rfl,fun j _ hj=>absurd hj (aX j)⟩):=h
abbrev ZTw(h:p:=by go_at_call 19;(with_reducible refine(sh.out _ _ (ex.alloc (aB #[aH aD 0,aH aD 4,aH aD 5,aH aD 6,aH aD 7,aH aD 2] 3)) (KA.out _ (aB #[aH aD 0,aH aD 4,aH aD 5,aH aD 6,aH aD 7,aH aD 2] 3) k5) (sx.out w5 ex.lt)).mono ?_);refine' Pf;obtain k:=_;exact k):=h
abbrev ZZR(h:p:=by
 have K0:Hid (kept2 g w5.heap.size w5 w5.drew):=⟨rfl,rfl,rfl,aC _,fun _ _ _=>rfl⟩;have K1:Hid (∀o:Obj,kept2 g w5.heap.size w5 (w5.alloc o).drew):=fun o=>ZaD
 have K2:Hid (∀o:Obj,kept2 g w5.heap.size w5 (w5.drew.alloc o)):=fun o=>ZaD
 obtain k:=_;exact k):=h
abbrev ZEZ(h:p:=by
 have oe:=aA hd;clear hd
 go_wp2_with (go_at_call 177;refine(ZAz _ _ hs).mono ?_;rw[oe.out];refine' zW)
 go_ret;refine⟨Al ?_,rfl⟩;have:=oe.out;obtain k:=_;exact k):=h
abbrev ZUu(h:p:=by
 have ri:(i:Int)<(j:Int):=ZA
 obtain⟨q1,q2,q3,q4⟩:=ZB6 (show i<=d.size by omega) (show j<=d.size by omega) lY;obtain⟨h,hh⟩:∃h,(i+j)/2=h:=⟨_,rfl⟩;rw[hh]at q3 q4;have MX:i<=h:=ZA
 have hh2:h<j:=ZA
 clear hh;have eh:((h:Int)).toNat=h:=ZA
 have ph:(0:Int)<=(h:Int):=ZA
 have bh:(h:Int)<(d.size:Int):=ZA
 have wh:aD.wrap ((h:Int))=(h:Int):=zA
 obtain k:=_;exact k):=h
abbrev ZWn(h:p:=by
 have hn:=Jc d.data.toList.length d.data.toList mt rfl;refine' ZQ2;obtain⟨n,j9⟩:∃n,Fe d.data.toList=n:=⟨_,rfl⟩;rw[j9]at HV hn⊢;refine' ZQ3;clear j9 mt hn sj h3
 exact W_):=h
abbrev ZTM(h:p:=by
 by_cases h:p.size<=c.size
 .have h':(p.size:Int)<=(c.size:Int):=ZA
  cases hb:zU (c.extract 0 p.size) p
  exact ZaE;exact ZaE
 .have h':¬(p.size:Int)<=(c.size:Int):=ZA
  have HB:=aA (AkB h);refine' ZO;exact⟨Al HB.out.symm,rfl⟩):=h
abbrev YJ(h:p:=by
 show Bu _ _ _ _ _ _ _ _ (Act.put _ (some 57) _) _
 refine' ZV
 obtain k:=_;exact k):=h
abbrev YE(h:p:=by
 have a1:¬9223372036854775807<F.size+1:=ZA
 obtain k:=_;exact k):=h
abbrev ZZ(h:p:=by rintro e w1 ⟨rfl,rfl⟩;obtain k:=_;exact k):=h
abbrev gB(h:p:=by
 go_enter func48,ntmps48
 refine' Zx;obtain k:=_;exact k):=h
abbrev ZOu(h:p:=by
 obtain⟨fm,df⟩:∃fm:d<vs.length,own 119 w.heap.size wl vs[d] L[d]:=by obtain⟨z1,z2,z3,z4,z5⟩:=bu.out;exact⟨ZA,z3 d ZA jh⟩
 obtain⟨G,VT,_⟩:=AoR bu.out.1 ZA;subst VT;have kF:wl.cell? ⟨G,d,none⟩=some vs[d]:=Ff bu.out.1 d fm;obtain⟨Au,mu,cu,hU,lu,_,_,_⟩:=df.rd;rw[hU,lu]at kF;have oI:=aA hU;clear hU lu df;obtain⟨qn,pW⟩:∃q,L[d].length=q:=⟨_,rfl⟩;rw[pW]at kF;have xV:=aA pW;clear pW;obtain k:=_;exact k):=h
abbrev ZRD(h:p:=by
 have pK:Calls Tryz.prog 51 #[.string x,.string ⟨#[62]⟩] W fun e w'=>B_ W w'/\e=.returned (.tuple #[.string p,.string q,.bool true]):=HC.mono fun e w' h=>ZJA
 have uU:K7 x=some ⟨p,q⟩:=by unfold K7;rw[jc];rfl
 have sI:=Ki jc;have HP:=aA uU;have bz:=L9 pre da;obtain⟨A,m,cp,rfl,hm,_,_,_⟩:=ho.rd;clear HC jc uU y0 y1 hv ho;obtain k:=_;exact k):=h
abbrev ZG8(h:p:=by have eo:=aA (fun W=>ifB (D4 (⟨#[111,107]⟩:Y_) W ZE));have dj:Hid (Em (kR)=⟨#[111,107]⟩++⟨#[10]⟩):=Fh (a:=kR) ZE;obtain k:=_;exact k):=h
abbrev Yk(h:p:=by refine' Rr;have HB:=aA (hb.on HT.out);obtain k:=_;exact k):=h
abbrev zl(h:p:=by obtain⟨A,n,c,rfl,hn,hc,hm,hr⟩:=hv;obtain k:=_;exact k):=h
abbrev ZX8(h:p:=by refine' zM;show Calls Tryz.prog _ #[.agg (y_ s AL cL AO cO AF cF AH cH AN cN),.string Bt,.slice (P_ g) 2 c] w _;refine' ZX2;refine' f_;obtain k:=_;exact k):=h
abbrev ZFa(h:p:=by have g8:=aA y0;have ia:=aA y1;have jY:=aA hv;have p8:=aA ho;obtain k:=_;exact k):=h
abbrev ZRZ(h:p:=by
 obtain⟨i0,hi,m7,ar,ap⟩:=dD Tryz.infoRow;have rH:=Ed (P:=Tryz.prog) 82 27 i0 _ eU hi m7 10 zi ZA;have fo:∀W:World,Sem.run Tryz.prog (Instr.makeSlice 82 (.int .i64 10) (.int .i64 10)) W=.ok (.slice (P_ W.heap.size) 10 10) (W.alloc (aB (bF #[.slice none 0 0] 10) 27)):=fun W=>by have h:=rH W;rw[ar]at h;exact h
 clear rH hr;refine' Zl;obtain k:=_;exact k):=h
abbrev zo(h:p:=by rw[aY];obtain k:=_;exact k):=h
abbrev ZRQ(h:p:=by
 generalize Aj 32 t=ps at *;obtain⟨wA,ae⟩:∃u,u=w.alloc (aB #[.int .i64 0,.int .i64 0,.slice none 0 0] 30):=⟨_,rfl⟩;have LN:B_ w wA:=by rw[ae];exact Vj
 refine' O_;have ml:wA.heap[w.heap.size]? =some (.cells #[.int .i64 0,.int .i64 0,.slice none 0 0] 30 (0,0)):=by rw[ae];exact X1
 refine' d_;obtain k:=_;exact k):=h
abbrev ZOq(h:p:=by
 go_wp2;rw[<-kz.out]
 go_quiet (fail)
 try skip
 refine' ZE2;have oG:(wq.alloc (aB #[aH aD x.id,aG x.code] 119)).heap.size=wq.heap.size+1:=ZF
 have rX:Hid (own (α:=Ltr) 119 wq.heap.size (wq.alloc (aB #[aH aD x.id,aG x.code] 119)) (.slice (P_ wq.heap.size) 1 1) [x]):=own.made1 wq _ (Ltr.cells x) x ⟨⟨fq,fj⟩,rfl⟩ (aC _);obtain k:=_;exact k):=h
abbrev ZOx(h:p:=by
 have kF:wq.cell? ⟨G,d,none⟩=some vs[d]:=Ff ku.out.1 d fm;have tP:wq.frozen? ⟨G,d,none⟩=false:=ku.out.1.freeAt d;have lS:L[d].length<=60:=lX.out d jh;obtain⟨qs,nw⟩:∃qs,qs=L[d]:=⟨_,rfl⟩;have tT:=aA nw;rw[<-nw]at df lS;clear nw;obtain⟨u,hu⟩:∃u,u=vs[d]:=⟨_,rfl⟩;refine' ZL3;have ky:G<wq.heap.size:=(ku.out.1.blk G rfl).2;have nT:w.heap.size<=G:=(ku.out.1.blk G rfl).1;go_wp2
 obtain k:=_;exact k):=h
abbrev ZZO(h:p:=by
 refine' ZC;refine(Am3 _ _ o _ W HU.out (by show o.size+5<=_;omega) SX).mono ?_;rintro e w1 ⟨rfl,u1,b1,_⟩;have tw:=aA u1;have dc:=aA (HL.out.trans b1);have ie:=b1.size;clear u1 b1
 refine' ZC;refine(ZAU _ _ _ w1 tw.out ZA).mono ?_;rintro e w2 ⟨rfl,b2⟩;have ig:=aA (dc.out.trans b2);clear b2
 refine' ZI;exact⟨B8 (by rw[<-HQ.out,qp.out];exact(Wj he ZA).symm),ig.out⟩):=h
abbrev ZWF(h:p:=by
 have UB:Hid (∀W:World,rd (W.alloc (aB #[.int .i64 n1,.int .i64 n2] 170)) (W.alloc (aB #[.int .i64 n1,.int .i64 n2] 170)).heap.size (.slice (P_ W.heap.size) 1 1) [(⟨n1,n2⟩:Mis)]):=fun W=>(own.made1 (α:=Mis) W 170 [.int .i64 n1,.int .i64 n2] ⟨n1,n2⟩ (show Mis.ok ⟨n1,n2⟩/\[aH .i64 n1,aH .i64 n2]=Mis.cells ⟨n1,n2⟩from⟨⟨bv,dq⟩,rfl⟩) (aC _)).rd
 obtain k:=_;exact k):=h
abbrev ZO1(h:p:=by
 have ln:B_ w wn:=(Ae (Ae lq (aB #[] 119)) (aB #[.slice (P_ wq.heap.size) 0 0] 27)).grown CC ZH fun q hq=>(ku.out.1.blk q hq).1
 have vM:=aA (Fi.snoc (ur.out.below (Ae (aF _ _) (aB #[.slice (P_ wq.heap.size) 0 0] 27))) ((rX.out.base_ uq).alloc (aB #[.slice (P_ wq.heap.size) 0 0] 27)) rq.out QP CC tK);obtain k:=_;exact k):=h
abbrev ZWW(h:p:=by
 refine' ZKz;have hz:=Hi (aS hk);have ay:zU ((Aj 10 t).getD k ⟨#[]⟩) ⟨#[]⟩=false:=by
  cases hb:zU ((Aj 10 t).getD k ⟨#[]⟩) ⟨#[]⟩
  .rfl
  .rw[e]at hb
   exact absurd (Lx.1 hb) h0
 have e1:Xw (Aj 10 t) (k+1)=(Qk (Xw (Aj 10 t) k) (Aj 10 t)[k]).1:=by rw[Xw,ay,e];rfl
 rw[e1];unfold X9;rw[e];obtain k:=_;exact k):=h
abbrev ZZA(h:p:=by
 (with_reducible refine HC.out.mono ?_);rintro e u2 h2;obtain⟨yL,yl,yO,yo,yF,yf,yH,yh,yN,yn,rfl,S2,z2⟩:=h2.out;have b2:B_ W u2:=(Ag (aF W.heap.size W)).trans z2;have HZ:=aA b2;have lR:=(b2.block bS av).trans lZ;obtain⟨⟨e0,e1,e2,e3,e4,e5,e6,e7⟩,hf⟩:=Ac lR;have f0:=hf 0;have f1:=hf 1;have f2:=hf 2;have f3:=hf 3;have f4:=hf 4;have f5:=hf 5;have f6:=hf 6;have f7:=hf 7;clear hf
 obtain k:=_;exact k):=h
abbrev ZVV(h:p:=by
 have e:xs.take 0++d'.toList++xs.drop (0+d'.toList.length)=d'.toList:=by simp[hl]
 rw[e,fG]at h2;rw[fG]at h3;rw[e1];refine⟨Al4 h2 os,?_⟩;have h4:=ZAS (Vo (bK w (some g)) bq) h3;exact ZRy):=h
abbrev ZId(h:p:=by
 refine' ZR5;clear ni ol
 refine' ZFF;exact⟨rfl,l3⟩):=h
abbrev ZXh(h:p:=by refine' ZLy;obtain⟨wB,ai⟩:∃u,u=wA.alloc (aB (y_ s AL cL AO cO AF cF AH cH AN cN) 36):=⟨_,rfl⟩;have k0:=duo.made ae ai;refine' Nj;have K0:=aA k0;have M0:=aA m0;obtain k:=_;exact k):=h
abbrev Z8(h:p:=by rw[bG _ ZA];omega):=h
abbrev ZGz(h:p:=by
 first|((with_reducible refine(HC.out _ (by first|exact aq)).mono ?_);rintro e u1 ⟨rfl,z1⟩;have k1:=stS.below (by first|exact aq) z1)|fail
 obtain k:=_;exact k):=h
abbrev z7(h:p:=by show _=_;rw[HQ.out,h1];rfl):=h
abbrev ZQS(h:p:=by
 refine' ZMD;have ij:F8 (s.data.toList.take (k+1))=F8 (s.data.toList.take k)+(s[k].toNat - 48):=by rw[aJ dz,ZCX];rfl
 have hn:=Ow k (s.data.toList.take k) (F3 HD.out k) zF;obtain⟨n,j9⟩:∃n,F8 (s.data.toList.take k)=n:=⟨_,rfl⟩;rw[j9]at ij hn⊢;obtain k:=_;exact k):=h
abbrev Qp(h:p:=by (try simp only[cT,aT]);omega):=h
abbrev iB(h:p:=by refine(js.out _).mono ?_;refine' ZP;obtain k:=_;exact k):=h
abbrev ZRI(h:p:=by
 obtain⟨A,c,rfl⟩:=Gx hv;obtain⟨w0,ac⟩:∃u,u=w.alloc (aB #[.int .i64 p.bins,.int .i64 p.passes,.slice A p.order.length c] 30):=⟨_,rfl⟩;have br:w0.heap[w.heap.size]? =some (.cells #[.int .i64 p.bins,.int .i64 p.passes,.slice A p.order.length c] 30 (0,0)):=ZK4
 have j5:B_ w w0:=by rw[ac];exact Vj
 obtain k:=_;exact k):=h
abbrev ZPM(h:p:=by
 have dz:(k:Int)<=(fs.length:Int):=ZA
 have HS:Hid (Bc fs c=if Gg fs d<0 then(d,k,true)else Gb fs (fs.length+1 - (k+1)) (Vt fs d) (k+1)):=by show _=_;rw[HG.out,show fs.length+1 - k=(fs.length+1 - (k+1))+1 by omega];rfl
 obtain⟨r,ak⟩:∃r,Hid (Gg fs d=r):=⟨_,rfl⟩;have cj:=AbC (fun x:Fwd=>zU x.src d) fs;rw[show o_ (fun x:Fwd=>zU x.src d) fs=r from ak.out]at cj
 refine' ZC;obtain k:=_;exact k):=h
abbrev V8(h:p:=by ·refine' ZO;exact⟨Al (ao.out (by rw[hG.out];exact ZH)).symm,av.alloc cm _⟩):=h
abbrev V3(h:p:=by rw[eB];exact⟨j,ZA,rfl⟩):=h
abbrev Ul(h:p:=by
 have HT:Hid (Jk p=false):=ZAa ZA
 refine' ZI;exact⟨Al HT.out.symm,HB.out⟩):=h
abbrev ZWx(h:p:=by
 have ep:=aA (lJ.out _ b3);have kP:=aA (Aa LE.out b3);obtain⟨d0,d1,d2,f0,f1,f2⟩:=B7 ep.out;clear b3 c0 c1 c2
 refine' ZC;refine Ax rfl rfl (Bp ep.out) eC rfl Tryz.sizePlc rfl ?_;exact⟨⟨0,0,0⟩,by rw[yj.out];rfl,fun h=>absurd (yj.out.symm.trans h) ZF,ZE,Ai (Ai (Ai kP.out (aC _) _) (aC _) _) (aC _) _⟩):=h
abbrev Uc(h:p:=by rw[List.all_cons,aO]at h;obtain⟨y,hy⟩:=Option.isSome_iff_exists.1 h.1;obtain k:=_;exact k):=h
abbrev ZQZ(h:p:=by
 refine' ZIl;have wc:=Ed (P:=Tryz.prog) 24 5 i0 _ dG hi ah 8 zi ZA;have fo:∀W:World,Sem.run Tryz.prog (Instr.makeSlice 24 (.int .i64 8) (.int .i64 8)) W=.ok (.slice (P_ W.heap.size) 8 8) (W.alloc (aB (bF #[.int .u8 0] 8) 5)):=fun W=>by have h:=wc W;rw[ar]at h;exact h
 obtain k:=_;exact k):=h
abbrev ZT(h:p:=by simp only[if_true];obtain k:=_;exact k):=h
abbrev ZMY(h:p:=by
 have SB:B_ w3 w3.drew:=Ag (aF _ _);go_wp2
 go_region_held3 (fun W=>B_ w0 W) (first|exact ld|exact Aa ld b4|exact Aa (Aa ld b4) b5) (first|(go_at_call 75;refine(CJ.out _ SB).mono ?_;rintro e w4 ⟨vf,rfl,o4,b4⟩)|(go_at_call 74;refine(CD.out _ (Aa ld b4) _ o4.rd).mono ?_;rintro e w5 ⟨XM,vO5,XN,rfl,NJ,XO,XP,b5⟩))
 have l5:=Aa (Aa ld b4) b5;obtain k:=_;exact k):=h
abbrev YX(h:p:=by
 show Bu _ _ _ _ _ _ _ _ (Act.put _ (some 59) _) _
 try refine' ZHP
 obtain k:=_;exact k):=h
abbrev V9(h:p:=by
 refine' Yz;go_simp;refine hK.out _ _ (fun _=>?_) (fun aa=>?_)
 .first|exact nc|exact qf|exact l7.alloc gm _
 refine' Xl;obtain k:=_;exact k):=h
abbrev ZYk(h:p:=by
 have k2:duo w 36 #[.slice AL s.letters.length cL,.int .i64 s.day.plan.bins,.int .i64 s.day.plan.passes,.slice AO s.day.plan.order.length cO,.slice AX nX cX,.slice AH s.day.held.length cH,.int .i64 s.day.size,.slice AN s.net.length cN] false W2:=by rw[bg];exact k1.put 4 _
 obtain k:=_;exact k):=h
abbrev zG(h:p:=by refine' ZC;rw[<-di.out];obtain k:=_;exact k):=h
abbrev Qw(h:p:=by refine' h_;have fg:=aA (show R_ w (.slice A n cp) fs from⟨A,n,cp,rfl,hn,hc,hm,hr⟩);obtain k:=_;exact k):=h
abbrev YN(h:p:=by
 have bd:(k:Int)<(xs.length:Int):=ZA
 obtain k:=_;exact k):=h
abbrev ZLR(h:p:=by obtain⟨wB,ai⟩:∃u,u=wA.alloc (aB #[.slice none 0 0,.int .i64 0,.int .i64 0,.slice none 0 0,.slice none 0 0,.slice none 0 0,.int .i64 0,.slice none 0 0] 36):=⟨_,rfl⟩;have k0:=duo.made ae ai;obtain k:=_;exact k):=h
abbrev ZFJ(h:p:=by
 .have HE:Hid (s.data.toList.take k=s.data.toList):=bB ZH
  refine' ZI;exact⟨Bo (by rw[HE.out]),rfl⟩):=h
abbrev ZR(h:p:=by decide+kernel):=h
abbrev ZO4(h:p:=by refine Ce (α:=Ltr) ZG (.tmp 60) (.tmp 65) 27 ZG w.heap.size 119 i1 _ 24 aV ji dr du dw rfl ZE (.slice Au qs.length cu) qs x ZG ((jW.out.alloc _).drew) ⟨wn.heap.size,0,none⟩ 1 (Ltr.cells x) ZG ⟨⟨fq,fj⟩,rfl⟩ (Ft wn _ (Ltr.cells x)) ZN ZA ZH ?_;refine' zH;obtain k:=_;exact k):=h
abbrev ZYL(h:p:=by refine' zM;show Calls Tryz.prog _ #[.agg (y_ s AL cL AO cO AF cF AH cH AN cN),.string C8,.slice (P_ g) 1 c] w _;refine' Mm;refine' f_;have HI:=aA (fun W=>Gh f W hz);obtain k:=_;exact k):=h
abbrev ZYU(h:p:=by
 have HX:Hid (∀W,B_ w W->C_ 31 #[.slice AH s.day.held.length cH] W (.string (Cb s.day.held))):=fun W hW=>ifB (Fn _ s.day.held W (hS.h.rd.on hW) hq ZA)
 have eo:=aA (fun W=>Fa (Cb s.day.held) W);have dj:Hid (Em ⟨#[]⟩=⟨#[110,111,10]⟩):=Jw;refine' W7;refine' ZLg;clear hz ho hq hl;obtain k:=_;exact k):=h
abbrev ZXq(h:p:=by
 have ci:(Ds.toList==[99,111,100,101])=false:=ZD
 have dh:(Ds.toList==[98,97,114,115])=false:=ZD
 have eu:(Ds.toList==[114,101,97,100])=false:=ZD
 have fw:(Ds.toList==[99,111,117,110,116])=false:=ZD
 have iq:(Ds.toList==[114,97,110,107])=false:=ZD
 refine' ZWQ;obtain k:=_;exact k):=h
abbrev ZGP(h:p:=by refine' zO;clear iy wK hp qV;have xK:=aA q_;have fe:=aA oT;have jZ:=aA da;have kQ:=aA ho;clear da;obtain k:=_;exact k):=h
abbrev Q9(h:p:=by refine' ZC;refine Ax rfl rfl (Bp kZ.out) iM rfl Tryz.sizePlK rfl ?_;obtain k:=_;exact k):=h
abbrev ZWz(h:p:=by
 have ep:=aA (lJ.out _ b3);have kP:=aA (Aa LE.out b3);obtain⟨d0,d1,d2,f0,f1,f2⟩:=B7 ep.out;obtain⟨x0,x1,x2,_,_,_⟩:=VL.out _ b3;clear b3 c0 c1 c2
 refine' ZC;refine Ax rfl rfl (Bp ep.out) eC rfl Tryz.sizePlc rfl ?_;exact⟨p,by rw[yj.out];rfl,f8.out,d9.out,Ai (Ai (Ai kP.out (aC _) _) (aC _) _) (aC _) _⟩):=h
abbrev ZXy(h:p:=by
 have x2:=Bx hf 2 ZF;have y2:=fun W (h:stS w w.heap.size 36 (y_ s AL cL AO cO AF cF AH cH AN cN) W)=>(h.lay.cell (p:=⟨g,2,none⟩) bz).trans x2
 clear hS hf x0 x1 x2;obtain k:=_;exact k):=h
abbrev ZJF(h:p:=by
 .refine hB.trans ⟨?_,?_,?_,?_,fun k h1=>p9 k ZA ZA⟩
  .exact aj.os.trans hb.os
  .exact aj.tape.trans hb.tape
  .exact aj.output.trans hb.output
  .exact vy.1):=h
abbrev ZP5(h:p:=by
 refine' ZC;generalize P++(⟨#[32]⟩:Y_)=Q at *;have sn:¬9223372036854775807<Q.size+p.size:=ZA
 have qj:¬9223372036854775807<Q.size+p.size+1:=ZA
 have so:¬9223372036854775807<Q.size+p.size+1+q.size:=ZA
 go_quiet (fail)
 refine' ZC;go_roundw
 case rel=>exact⟨k+1,ZA,ZJ,mJ.out,Ba lr _⟩
 case measure=>exact ZK):=h
abbrev U7(h:p:=by refine' zJ;obtain⟨_,_,vF,_,_,⟨_,_,_,_,c4,_,_,_⟩,_,_,_,hF,_⟩:=Ca hD;obtain k:=_;exact k):=h
abbrev ZXE(h:p:=by
 refine' eN;have sR:=(Ch.1 ag).1;have sg:Hid (∀W,B_ w W->ya 77 #[.slice A fs.length c] W (.bool true)):=fun W hW=>by
  have:=D2 _ fs W (HV.out.on hW)
  rwa [ag]at this
 have HC:Hid (∀k (h:k<fs.length),fs[k].src.size<=maxLen):=fun k h=>by have:=(Cp ((Ch.1 ag).2 k h).1).1;exact ZN
 obtain k:=_;exact k):=h
abbrev ZJC(h:p:=by
 intro v5 w5 o5 aj;have u2:Boxed w5 _ _ _:=(z2.alloc _).kept aj (fun e=>ZZv);have e2:=u2.cell;have g2:=u2.frozen;obtain⟨A5,n5,c5,rfl, -, -, -, -⟩:=o5.rd
 obtain k:=_;exact k):=h
abbrev ZTO(h:p:=by
 obtain⟨b,o,rfl,hb,⟨nz,nC⟩,y1,y2⟩:=HR.out.fwdU k ab
 have HM:=aA (fun h=>AeU (c:=c) ab HQ.out h);have HT:=aA (fun h h'=>AfP (c:=c) ab h h');have OC:=aA (fun(u:Nat) (hu:u<rs.length) (e:q=u) (h:¬rs[u].src.size<rs[k].src.size)=>AeX (c:=c) ab hu (HQ.out.trans e) h);generalize OD:rs[k]=x at *;clear OD;have ry:=nz;unfold maxLen at nz;obtain k:=_;exact k):=h
abbrev ZOd(h:p:=by
 rintro e w4 ⟨vF,vH,rfl,oF,oH,hFH,b4⟩;have l4:=Aa l3 b4;replace E2:=aA (E3 E2.out b4);have GK:Hid (w3.heap.size<=w4.heap.size):=aA b4.size;have rP:=aA (Dd oH OK.out (aC _));replace OK:=aA (OK.out.below b4);have OF:=aA oF;have OH:=aA oH;obtain⟨Ah,nh,ch,rfl,EO,_,_,_⟩:=oH.rd;subst EO;clear oF oH b4 OA
 refine' ZC;obtain k:=_;exact k):=h
abbrev ZW(h:p:=by exact⟨rfl,rfl⟩):=h
abbrev ZaF(h:p:=by
 refine⟨fun h=>absurd hr (by rw[h];simp),fun j hj=>?_⟩;by_cases ly:j=i
 .subst ly
  exact hy.wpOp hi hS ⟨fun _=>hS,H⟩
 obtain k:=_;exact k):=h
abbrev ZLz(h:p:=by
 refine Bk (rs:=[12]) ZB ZF ?_;refine' Yz;go_simp;refine hK.out _ _ (fun h=>absurd rfl h) (fun _=>?_);clear hK K
 refine' ZV;refine J2 ZB ?_ _;obtain k:=_;exact k):=h
abbrev zI(h:p:=by simpa using h):=h
abbrev W_(h:p:=by refine' ZQ;exact⟨by rw[HO.out,HV.out]<;>rfl,rfl⟩):=h
abbrev ZFI(h:p:=by
 refine' ZC;go_round
 case rel=>exact⟨k+1,ZA,ZJ,by rw[HS.out];congr 1;omega⟩
 case measure=>exact ZK):=h
abbrev ZYE(h:p:=by refine' zM;show Calls Tryz.prog _ #[.agg (y_ s AL cL AO cO AF cF AH cH AN cN),.string C4,.slice (P_ g) 1 c] w _;refine' Mm;refine' f_;obtain k:=_;exact k):=h
abbrev zZ(h:p:=by simp at hk;omega):=h
abbrev ZPq(h:p:=by
 have tG:=aA kc;have ep:=aA (Aa mP.out l3);clear kc g0 f0 DU DV KK KL b3 l3 e0 e1
 refine' ZC;go_roundw
 case rel=> have:=fx.out w3 tG.out;refine' ZJf;exact ZPx
 case measure=>exact ZK):=h
abbrev ZEa(h:p:=by refine' ZF9;have pL:w1.cell? ⟨b,o+k*2+1,none⟩=some (.string x.code):=(av.cell (p:=⟨b,o+k*2+1,none⟩) hb).trans c2;obtain k:=_;exact k):=h
abbrev ZLm(h:p:=by go_at_call 9;refine(BS.out _).mono ?_;refine' Vb;refine' V_;obtain⟨g5,c5,rfl,vV⟩:=ZD3 o5 qY.out;have O5:=aA o5;clear o5;obtain k:=_;exact k):=h
abbrev ZRN(h:p:=by
 obtain⟨c0,c1,c2,_,_,_⟩:=B7 bv;have q0:=fun W (hW:B_ w1 W)=>(hW.cell (p:=⟨w.heap.size,0,none⟩) (Az c0)).trans c0
 have q1:=fun W (hW:B_ w1 W)=>(hW.cell (p:=⟨w.heap.size,1,none⟩) (Az c1)).trans c1
 have q2:=fun W (hW:B_ w1 W)=>(hW.cell (p:=⟨w.heap.size,2,none⟩) (Az c2)).trans c2
 obtain k:=_;exact k):=h
abbrev ZRd(h:p:=by
 have pw:(Bm f 10 (xs.take k))[d].length<=1000:=ZZn
 obtain⟨zs,gu⟩:∃zs,zs=(Bm f 10 (xs.take k))[d]:=⟨_,rfl⟩;refine' ZZo;have BQ:(d:Int)<10:=ZA
 refine' ZZ3;obtain k:=_;exact k):=h
abbrev ZZd(h:p:=by
 rw[fT]
 go_wp2_with (go_at_call 314;refine H2.out.mono ?_;rintro e w2 ⟨rfl,d2,p2,s2,S2⟩)
 have Z2:Aside (d2.size=n):=p2.1.trans Z1.out;have xY:Aside (SWK enc k w0 blk aw d2 w2):=S2;have P2:Aside (PermIn 0 n d0 d2):=permIn_trans _ _ _ _ _ P1.out (permIn_mono _ _ _ _ _ _ (aN _) ZA (by rw[Z1.out];omega) p2);obtain k:=_;exact k):=h
abbrev ZKI(h:p:=by refine' ZUf;refine' ZUg;obtain k:=_;exact k):=h
abbrev ZG9(h:p:=by have eo:=aA (fun W=>ifB (Fa (⟨#[111,107]⟩:Y_) W));refine' ZG7;obtain k:=_;exact k):=h
abbrev YY(h:p:=by
 show Bu _ _ _ _ _ _ _ _ (Act.put _ (some 62) _) _
 try refine' ZHP
 obtain k:=_;exact k):=h
abbrev zN(h:p:=by refine' g_;clear h2;obtain k:=_;exact k):=h
abbrev Sm(h:p:=by refine' h_;have fg:=aA (show R_ w (.slice A n cp) net from⟨A,n,cp,rfl,hn,hc,hm,hr⟩);obtain k:=_;exact k):=h
abbrev YF(h:p:=by
 go_enter func11,ntmps11
 refine' Zr;obtain k:=_;exact k):=h
abbrev ZKj(h:p:=by
 refine' ZaG;have dh:(Bg.toList==[112,108,97,110])=false:=ZD
 refine' ZKv;obtain k:=_;exact k):=h
abbrev ZEk(h:p:=by subst e0;refine' ZMC;have kA:=aA ah;obtain k:=_;exact k):=h
abbrev ZFE(h:p:=by
 have ay:w1.heap.size<w2.heap.size:=by obtain⟨cs,h1,_⟩:=hf;exact ZH8
 obtain k:=_;exact k):=h
abbrev ZO2(h:p:=by
 have qI:(vs++[Value.slice (P_ wq.heap.size) 0 0]).length=vs.length+1:=ZF
 have VS:vs.length+1<=61:=ZA
 have qZ:0<vs.length+1:=Nat.succ_pos _;have pB:=vM;clear vM lX;have lX:=tu;clear tu;generalize L++[[]]=L2 at *;generalize vs++[Value.slice (P_ wq.heap.size) 0 0]=ir at *;generalize vs.length+1=n2 at *;obtain k:=_;exact k):=h
abbrev ZXx(h:p:=by
 refine' ZLd;have x1:=Bx hf 1 ZF;have y1:=fun W (h:stS w w.heap.size 36 (y_ s AL cL AO cO AF cF AH cH AN cN) W)=>(h.lay.cell (p:=⟨g,1,none⟩) bz).trans x1
 obtain k:=_;exact k):=h
abbrev Te(h:p:=by
 obtain⟨b,o,rfl,hb,⟨fq,fj⟩,c1,c2⟩:=HR.out.ltrU k ab
 obtain k:=_;exact k):=h
abbrev W5(h:p:=by
 refine hK.out _ _ (fun _=>?_) (fun aa=>?_)
 .exact l7
 refine' Xl;obtain k:=_;exact k):=h
abbrev ZIp(h:p:=by
 have w1:IntKind.wrap .u8 ((b.toNat:Int) - 48)=(b.toNat:Int) - 48:=Uo
 have w2:aD.wrap ((b.toNat:Int) - 48)=(b.toNat:Int) - 48:=bG _ ZA;obtain k:=_;exact k):=h
abbrev ZI5(h:p:=by
 rw[HO.out,HV.out];refine' ZFR;go_wp2_with (first|(go_at_call 220;refine(HA.out _).mono ?_;refine' ZP)|(go_at_call 221;refine(uM.out _).mono ?_;refine' ZP))
 go_ret2;exact ZW):=h
abbrev ZQM(h:p:=by
 obtain⟨h7,_⟩:=Cp hc;have jb:Ea c.data.toList=true:=ZIt
 have hx:∀i j,j<=c.size->Ea (c.extract i j).data.toList=true:=fun i j hj=>by
  refine' Wd;have e:(c.data.extract i j).toList=(c.data.toList.take j).drop i:=by simp[List.drop_take]
  rw[e];exact AaR (F3 jb j) i
 obtain k:=_;exact k):=h
abbrev ZNV(h:p:=by refine' ZNa;obtain⟨r,ak⟩:∃r,Hid (y6 p.order c=r):=⟨_,rfl⟩;obtain⟨q,HQ⟩:∃q,Hid (Ky p.bins k=q):=⟨_,rfl⟩;obtain⟨qa,qb⟩:=ZDv h1 h2 k hk;rw[HQ.out]at qa qb;obtain⟨ra,rb⟩:=ZER p.order c;rw[ak.out]at ra rb;obtain k:=_;exact k):=h
abbrev ZOE(h:p:=by
 have kX:=aA ((bu.out.below ((aF _ _).alloc (aC _) (aB #[aH aD y.id,aG y.code] 119))).grown aj (Br fe.out));have l5:B_ w w5:=(Ae l4 (aB #[aH aD y.id,aG y.code] 119)).grown aj ZH fun q hq=>(jm.out.blk q hq).1
 exact ZIG):=h
abbrev zK(h:p:=by rintro e w2 ⟨rfl,b2⟩;obtain k:=_;exact k):=h
abbrev Xp(h:p:=by have fc:=k2.drew;have l2:=Ag (aF W2.heap.size W2);obtain k:=_;exact k):=h
abbrev OG(h:p:=by
 go_simp;refine hK.out _ _ (fun _=>?_) (fun aa=>?_)
 .first|exact lP|exact oO
 refine' Xl;obtain k:=_;exact k):=h
abbrev X6(h:p:=by have ho:=h.obj;refine' ZJa;obtain k:=_;exact k):=h
abbrev ZF5(h:p:=by
 rintro e w0 ⟨rfl,br⟩;cases ag:z_ xs
 .refine' gL;refine' ZO;exact⟨Bo (by rw[d9.out];rfl),br⟩
 obtain k:=_;exact k):=h
abbrev ZYI(h:p:=by refine' zM;show Calls Tryz.prog _ #[.agg (y_ s AL cL AO cO AF cF AH cH AN cN),.string Dk,.slice (P_ g) 1 c] w _;refine' Mm;obtain k:=_;exact k):=h
abbrev ZPV(h:p:=by
 refine' Zc;go_region_held3 (fun W=>B_ wo W) (first|exact ld|exact Aa ld b3) (first|(go_at_call 231;first|((with_reducible refine(C1.out _).mono ?_);refine' zW)|((with_reducible refine(C2.out _).mono ?_);refine' zW))|(go_at_call 228;refine(C3.out _ ld).mono ?_;refine' zB))
 have l3:=Aa lo (Aa ld b3);go_wp2;obtain k:=_;exact k):=h
abbrev Xo(h:p:=by
 (with_reducible refine(jk.out _ l2).mono ?_);refine' ZHF
 obtain k:=_;exact k):=h
abbrev ZG0(h:p:=by
 go_at_call 43;refine(eo.out _).mono ?_;refine' ZP
 obtain k:=_;exact k):=h
abbrev Wr(h:p:=by refine' ZI;exact⟨B8 HF.out.symm,l1⟩):=h
abbrev ZMz(h:p:=by refine' ZZ0;have mC:Hid (D7 (.slice (P_ g) (zr.length+1) cap) (.slice (P_ G) xss.length xss.length) ir):=Kj bu.out gc.out cy ZF;obtain k:=_;exact k):=h
abbrev ZTD(h:p:=by
 obtain⟨b',o',rfl,qJ,⟨nz,nC⟩,d1,d2⟩:=HUR.out.fwdU m py
 have hT:=aA (Hv (p:=I0 net) x.rules m py);have hI:Hid (I0 net x.rules[m]=false->x.rules.all (I0 net)=false):=fun h=>List.all_eq_false.2 ⟨_,aS py,by simp[h]⟩
 generalize x.rules[m]=y at *;have xp:(m:Int)<(x.rules.length:Int):=ZA
 obtain k:=_;exact k):=h
abbrev Qx(h:p:=by rw[eM];exact .inr (List.all_eq_false.2 ⟨k,zP,by simp[h]⟩)):=h
abbrev ZQa(h:p:=by
 go_enter func153,ntmps153
 refine' ZC;obtain⟨wz,mh⟩:∃u,u=w.alloc (aB (bF #[.int .u8 0] 8) 5):=⟨_,rfl⟩;have hg:E8 wz w.heap.size (List.replicate 8 0):=ZQC
 refine' ZIm;have RC:=aA hg;clear mh fo hg
 obtain k:=_;exact k):=h
abbrev ZXL(h:p:=by
 go_region_held3 (fun W=>B_ w W) (first|exact ld|exact l4|exact l3|fail) (first|(go_at_call 86;(with_reducible refine(mP.out _ (by first|exact ld|exact l4)).mono ?_);rintro e w3 ⟨rfl,l3⟩)|(go_at_call 28;(with_reducible refine(tJ.out _ (by first|exact l3|exact ld)).mono ?_);rintro e w4 ⟨rfl,l4⟩)|fail)
 obtain k:=_;exact k):=h
abbrev ZQj(h:p:=by
 obtain⟨b,o,rfl,hb,ag,c1⟩:=HR.out.str k ab
 have HX:Hid (∀h:zU xs[k] c=false,∀j (h1:j<xs.length),j<k+1->zU xs[j] c=false):=fun h j h1 hj=>Yb
 have HY:Hid (∀h:zU xs[k] c=true,y6 xs c=k):=fun h=>by have e:=Ay4 ab (fun j hj=>HG.out j ZA hj) h;rw[ZDu ZA,e]
 refine' zu;obtain k:=_;exact k):=h
abbrev ZN2(h:p:=by
 have ay:v.ownBlock=none\/v.ownBlock≠some g:=by
  cases hb:v.ownBlock with
  |none=>exact .inl rfl
  |some k=>exact .inr fun e=>by have:=(hv.blk k hb).1;exact ZY
 have HV:=aA (fun(W:World) (hg:w.grownBy W (some g))=>(hv.grown hg ay).rd);obtain⟨A,n,c,rfl,hn,hc,hm,_⟩:=hv.rd;refine' Zj;clear ay hv;obtain k:=_;exact k):=h
abbrev ZKL(h:p:=by
 go_roundw
 case rel=>exact⟨m+1,ZA,ZA,ZJ,pE.out,by rw[g7.out];exact jx.out,FA.out,pu.out,lw.trans bu.out⟩
 case measure=>exact ZK):=h
abbrev ZOY(h:p:=by
 have fk:Hid (apart (.slice (P_ g) (bs.length+1) cap) (.slice AA sa.length cA)):=Dg (Br fe.out) cy fun j hj=>by have:=(jm.out.blk j hj).2;exact ZH
 go_roundw
 case rel=>exact⟨k+1,ZA,ZJ,l5,by rw[ff.out];exact pu.out,by rw[f8.out];exact cg,Br fk.out⟩
 case measure=>exact ZK):=h
abbrev ZR9(h:p:=by
 refine' Py;have q4:=fun W (hW:B_ w W)=>(hW.cell (p:=⟨d,4,none⟩) (Az c4)).trans c4
 have q5:=fun W (hW:B_ w W)=>(hW.cell (p:=⟨d,5,none⟩) (Az c5)).trans c5
 have q6:=fun W (hW:B_ w W)=>(hW.cell (p:=⟨d,6,none⟩) (Az c6)).trans c6
 refine' Y2;obtain k:=_;exact k):=h
abbrev ZSh(h:p:=by
 obtain⟨b,o,rfl,hb,⟨nz,nC⟩,y1,y2⟩:=HR.out.fwdU k ab
 have HS:=aA (BdH (p:=Iz p) rs k ab);have HA:=aA (ArF (p:=Iz p) rs k ab);generalize rs[k]=x at *;have xu:Hid (Iz p x=(decide (p.size<x.src.size)&&pre x.src p)):=rfl;have ry:=nz;unfold maxLen at nz;refine' ZGI
 obtain k:=_;exact k):=h
abbrev ZWV(h:p:=by
 refine' ZGl;rcases hx with rfl|rfl|rfl|rfl|rfl|rfl|rfl|rfl|rfl|rfl|rfl|rfl|rfl
 .exact Ci e0
 .exact Ci e1
 .exact Ci e2
 .exact Ci e3
 .exact Ci e4
 .exact Ci e5
 .exact Ci e6
 .exact Ci e7
 .exact Ci e8
 .exact Ci e9
 .exact Ci sU
 .exact Ci sV
 .exact Ci sW):=h
abbrev ZFd(h:p:=by
 (refine' YT;gi_at_call 135;refine(CallsIn.inRound l (callsIn_wide.2 (HN.out _))).mono ?_;refine' ZP)
 obtain k:=_;exact k):=h
abbrev ZS8(h:p:=by
 refine' Sl;have HX:Hid (∀h:zU fs[k].name c=false,∀j (h1:j<fs.length),j<k+1->zU fs[j].name c=false):=fun h j h1 hj=>Yb
 have HY:Hid (∀h:zU fs[k].name c=true,Gq fs c=k):=fun h=>Sk ab (fun j hj dx=>HG.out j hj dx) h
 clear hu;refine' YR;obtain k:=_;exact k):=h
abbrev ZPl(h:p:=by
 refine' zu;obtain⟨id,code⟩:=x;simp only at km lI jw y1 y2 z1 z2 z4;obtain⟨m,rfl⟩:=aK (show 0<=id by omega);have IL:m<=9999:=ZA
 have kJ:Hid (Ja ⟨(m:Int),code⟩=Cl m++⟨#[58]⟩++code):=by show _=_;unfold Ja;rw[bE]
 refine' YN;refine' zQ;obtain k:=_;exact k):=h
abbrev ZLI(h:p:=by refine Ax rfl rfl (Bp i6.out) iM rfl Tryz.sizePlK rfl ?_;exact AqZ mq (Ai (Ai (Ai L1.out (eL _) _) (eL _) _) (eL _) _)):=h
abbrev ZMs(h:p:=by
 have FJ:(r==(j:Int))=true:=by simp[pQ]
 have lS:qs.length<=60:=zt
 obtain⟨oV,jk⟩:Hid (K.set j (D8 f j (ys.take (m+1)))=(K.set j qs).set j ((K.set j qs)[j]'jh++[x]))/\Hid (Gv f j (ys.take (m+1))=rs):=⟨(FH.out ZHU).1,(FH.out ZHU).2⟩;obtain k:=_;exact k):=h
abbrev ZYh(h:p:=by refine' zM;show Calls Tryz.prog _ #[.agg (y_ s AL cL AO cO AF cF AH cH AN cN),.string Bg,.string r] w _;refine' f_;obtain k:=_;exact k):=h
abbrev ZYp(h:p:=by refine' zM;show Calls Tryz.prog _ #[.agg (y_ s AL cL AO cO AF cF AH cH AN cN),.string Cf,.string r] w _;refine' f_;obtain k:=_;exact k):=h
abbrev eY(h:p:=by obtain⟨k,hk,rfl⟩:=bP hx;obtain k:=_;exact k):=h
abbrev ZTn(h:p:=by
 refine' Zc;go_region_held3 (fun W=>B_ wo W) (first|exact ld|exact Aa ld b3) (first|(go_at_call 288;refine(C1.out _).mono ?_;refine' zW)|(go_at_call 284;refine(C2.out _).mono ?_;refine' zW)|(go_at_call 337;refine(C3.out _ ld).mono ?_;refine' zB))
 have l3:=Aa lo (Aa ld b3);go_wp2;obtain k:=_;exact k):=h
abbrev ZQY(h:p:=by
 have tH:k=s.size:=ZA
 have HL:Hid (s.data.toList.take k=s.data.toList):=bB ZH;have bd:¬((k:Int)<7):=ZA
 rw[HL.out];have DC:=M9 7 s.data.toList HD.out ZH;have lZ:=Ot q uh;generalize Ni s.data.toList=u at *;have DD:u.size<=36:=ZA
 obtain k:=_;exact k):=h
abbrev ZY6(h:p:=by
 have bd:(k:Int)<(ls.length:Int):=ZA
 refine' zQ;have y1:=Bx HO.out k ab;have qp:Hid (ls.drop k=ls[k]::ls.drop (k+1)):=cU ab;have ye:=aA (fx.out k ab);have EA:=aA (uk.out k ab);have yg:=aA (AjE (ans:=ans) ab);have sE:=aA (Al6 (ans:=ans) ab);obtain k:=_;exact k):=h
abbrev ZU5(h:p:=by
 rw[fT]
 go_wp2_with (go_at_call 314;refine H1.out.mono ?_;rintro e w1 ⟨rfl,d1,p1,s1,S1⟩)
 have Z1:Aside (d1.size=n):=p1.1.trans HN.out;have uZ:Aside (SWK enc k w0 blk aw d1 w1):=S1;have P1:Aside (PermIn 0 n d0 d1):=permIn_mono _ _ _ _ _ _ (aN _) ZA (by rw[HN.out];omega) p1;obtain k:=_;exact k):=h
abbrev ZLn(h:p:=by refine Ax rfl rfl (Cj HR.out) gK rfl Tryz.sizeSt rfl ?_;obtain k:=_;exact k):=h
abbrev ZRa(h:p:=by
 have lh:=(Ep.1 ag).1;have HF:Hid (∀k (h:k<xs.length),∃hz:dd<xs[k].code.size,48<=(xs[k].code[dd]).toNat/\(xs[k].code[dd]).toNat<=57/\Lk dd xs[k]=(((xs[k].code[dd]).toNat - 48:Nat):Int)):=fun k h=>ZAl ((Ep.1 ag).2 k h).2.2.1 jb
 clear ag;obtain⟨f,lN⟩:∃f:Ltr->Int,Hid (f=Lk dd):=⟨_,rfl⟩;obtain k:=_;exact k):=h
abbrev ZXd(h:p:=by
 have hn:w.heap.size≠w.heap.size+1:=ZA
 rw[bQ _ _ _ _ hn,bQ _ _ _ _ hn,bQ _ _ _ _ hn,bQ _ _ _ _ hn,bQ _ _ _ _ hn,bQ _ _ _ _ hn,bQ _ _ _ _ hn,bQ _ _ _ _ hn];exact h.box):=h
abbrev ZIq(h:p:=by
 obtain⟨b,pn⟩:∃b,s[k]=b:=⟨_,rfl⟩;rw[pn]at hb ij;obtain⟨bv,dq⟩:=hb;have HS:=aA ij;clear ij;have bd:(k:Int)<(s.size:Int):=ZA
 obtain k:=_;exact k):=h
abbrev ZIn(h:p:=by
 have e:l=l.take k++[l[k]]:=by
  conv=>lhs;rw[<-dQ k l,cU ZA]
  rw[dP ZA]
 obtain k:=_;exact k):=h
abbrev ZJn(h:p:=by unfold Oper.wp execOp;simp only[ho,resolve,invoke,builtin,Sem.run_bind,Sem.run_pure,Result.andThen_ok,List.map_toArray,cD,gE,hs,hx,oC];obtain k:=_;exact k):=h
abbrev zk(h:p:=by have l0:=aF w.heap.size w;obtain k:=_;exact k):=h
abbrev zh(h:p:=by refine' ZU;have l1:=Aa l0 b1;obtain k:=_;exact k):=h
abbrev ZNR(h:p:=by
 have HC:Hid (∀W,B_ w0 W->C_ 171 #[.agg #[.int .i64 p.bins,.int .i64 p.passes,.slice A0 p.order.length c0],.string x.code,.int .i64 k] W (.int .i64 r)):=fun W hW=>by rw[<-ak.out,kJ.out];exact AaD _ p x.code k W (HP.out.on hW) g1 g2 DM pH
 go_wp2
 obtain k:=_;exact k):=h
abbrev Zd(h:p:=by
 have bd:(k:Int)<(fs.length:Int):=ZA
 obtain k:=_;exact k):=h
abbrev P0(h:p:=by have HD:=aA hD;obtain⟨_,_,_,vN,os,⟨_,_,_,_,_,_,_,c7⟩,_,_,_,_,_,hN,_⟩:=Ca hD;obtain k:=_;exact k):=h
abbrev ZXp(h:p:=by
 have ci:(Fj.toList==[99,111,100,101])=false:=ZD
 have dh:(Fj.toList==[98,97,114,115])=false:=ZD
 have eu:(Fj.toList==[114,101,97,100])=false:=ZD
 have fw:(Fj.toList==[99,111,117,110,116])=false:=ZD
 have cx:(Fj.toList==[114,97,110,107])=true:=ZD
 generalize Fj=wd at *;obtain k:=_;exact k):=h
abbrev ZYn(h:p:=by refine' zM;show Calls Tryz.prog _ #[.agg (y_ s AL cL AO cO AF cF AH cH AN cN),.string Es,.string r] w _;refine' f_;obtain k:=_;exact k):=h
abbrev ZYs(h:p:=by refine' zM;show Calls Tryz.prog _ #[.agg (y_ s AL cL AO cO AF cF AH cH AN cN),.string Df,.string r] w _;refine' f_;obtain k:=_;exact k):=h
abbrev ZTZ(h:p:=by
 refine' zY;have ER:(i:Int)<(net.length:Int):=ZA
 have ux:=aA ((D1.1 HK.out).2 i pD).2.2.2.1;have HL:=aA (fun h=>Ao7 (net:=net) (c:=c) pD h);have HH:=aA (fun h h'=>ApK (net:=net) (c:=c) pD h h');have dj:=aA (fun h h'=>AyW HK.out (c:=c) pD h h');have BK:=AoH ux.out c;obtain k:=_;exact k):=h
abbrev iQ(h:p:=by rw[<-HE.out];exact HG.out):=h
abbrev ZWE(h:p:=by have bv:=Bd4 f1;have dq:=Bd4 f2;have HQ:Hid (Jp s.day.plan s.letters (Am f0) (Am f1) (Am f2)=if Lo s.day.plan s.letters (Am f0) [⟨Am f1,Am f2⟩]then Co (Fr s.day.plan s.letters (Am f0) [⟨Am f1,Am f2⟩])else⟨#[]⟩):=rfl;generalize Am f0=n0 at *;generalize Am f1=n1 at *;generalize Am f2=n2 at *;obtain k:=_;exact k):=h
abbrev ZYK(h:p:=by
 refine' ZLg;clear hz ho;refine' ZKw;go_enter func47,ntmps47
 refine' ZC;go_wp2_with (first|(go_at_call 93;refine(HI.out _).mono ?_;refine' ZP)|(go_at_call 92;refine(HZ.out _).mono ?_;refine' ZP))
 rw[<-au.out,<-bt.out]
 obtain k:=_;exact k):=h
abbrev ZSZ(h:p:=by have OL:=aA (isN.snoc (tA.out.below OI) ((HU.out.base_ ZA).alloc _) (T8 fun j h1 h2=>by have:=CM.out j h1;have:=(HN.out.1.blk j h2).2;omega) (fun i hi=>T8 fun j h1 h2=>by have:=CM.out j h1;have:=((HN.out.2.2.1 i hi (by have:=HN.out.2.1;omega)).2.blk j h2).2;omega) o9 gw yJ);obtain k:=_;exact k):=h
abbrev ZXr(h:p:=by
 have q4:=fun W (h:stS w w.heap.size 36 (y_ s AL cL AO cO AF cF AH cH AN cN) W)=>(Ac h.box).1.2.2.2.2.1
 obtain k:=_;exact k):=h
abbrev YV(h:p:=by
 go_enter func58,ntmps58
 obtain k:=_;exact k):=h
abbrev ZZs(h:p:=by
 obtain⟨b,o,rfl,hb,ag,c1,c2⟩:=HR.out.fwdU k ab
 have HX:Hid (∀h:zU fs[k].src c=false,∀j (h1:j<fs.length),j<k+1->zU fs[j].src c=false):=fun h j h1 hj=>Yb
 have HY:Hid (∀h:zU fs[k].src c=true,Gg fs c=k):=fun h=>Sk ab (fun j hj dx=>HG.out j hj dx) h
 refine' YR;obtain k:=_;exact k):=h
abbrev ZGc(h:p:=by
 refine' ZZ5;refine(kv.out _ b1).mono ?_;rintro e w2 ⟨rfl,h2⟩
 refine' ZI;exact Bb.pre b1 ⟨rfl,h2⟩):=h
abbrev ZO5(h:p:=by have gi:B_ wn (wn.alloc (aB #[aH aD x.id,aG x.code] 119)).drew:=Ag (Ae (aF _ _) _);obtain⟨p1,_,_⟩:=Eh (o:=.slice none 0 0) (rest:=[]) pB.out (own.nil_ _ _ _) ⟨.inl rfl,fun k hk=>.inl rfl⟩ gi fm jh oI.out tT.out cg aj cy;obtain k:=_;exact k):=h
abbrev ZNg(h:p:=by generalize(w0.alloc (aB (bF #[.slice none 0 0] N) 27))=wz at *;refine' ZNP;rw[show(Value.slice (P_ w0.heap.size) N N)=(Value.slice (some ⟨w.heap.size+1,0,none⟩) N N) by rw[kA.out]]at jo;clear j6;obtain k:=_;exact k):=h
abbrev Zv(h:p:=by
 have bd:(k:Int)<(ps.length:Int):=ZA
 obtain k:=_;exact k):=h
abbrev ZGj(h:p:=by have h:=ZDb rest 32 W hr;rw[hp]at h;exact h.mono fun e w' h=>⟨h.1,h.2.1,h.2.2.1⟩):=h
abbrev Za(h:p:=by rw[cn.out];exact iE):=h
abbrev ZMR(h:p:=by have hT:=aA (Hv (p:=fun y:Ltr=>y.id != x.id) xs m ZA);have hI:=aA (ZCO (p:=fun y:Ltr=>y.id != x.id) xs m k ZA fo);generalize xs[m]=y at *;refine' ZQz;obtain k:=_;exact k):=h
abbrev ZHu(h:p:=by
 have ff:=aA (ZBV (f:=f) (n:=N) ab (by rw[jf.out];exact bc))
 have f8:=aA (ZCK (f:=f) ab (by rw[jf.out];exact bc));have pw:=IQ.out
 obtain k:=_;exact k):=h
abbrev ZRS(h:p:=by
 have y0:=Bx o1 0 ZA;have y1:=Bx o1 1 ZA;have g0:ps.getD 0 ⟨#[]⟩=ps[0]:=by refine' ZH6;rfl
 have g1:ps.getD 1 ⟨#[]⟩=ps[1]:=by refine' ZH6;rfl
 obtain k:=_;exact k):=h
abbrev ZNt(h:p:=by
 intro L
 induction L with
 |nil=>intro n r h;simp at h
 |cons a L ih=>
  intro n r h;cases n with
  |zero=>exact ZH
  |succ n=> simp only[List.set_cons_succ,dC,aT,ZBi];have:=ih n r zI;omega):=h
abbrev Qj(h:p:=by
 go_wp2_with (go_at_call 240;(with_reducible refine lJ.out.mono ?_);refine' ZP)
 obtain k:=_;exact k):=h
abbrev ZGx(h:p:=by have HX:=aA (fun(v:Value) (W:World) (h:R_ W v xs)=>Et v xs W h);obtain k:=_;exact k):=h
abbrev ZWg(h:p:=by
 clear ah br;go_enter func89,ntmps89
 refine' ZC;go_loop[5,6] (fun t i=>∃k:Nat,k<=d.size/\i=.int .i64 k/\Ea (d.data.toList.take k)=true/\t=.int .i64 (Fe (d.data.toList.take k):Int)) (fun _ i=>d.size - (intOf i).toNat)
 case atStart=>exact⟨0,aN _,rfl,rfl,rfl⟩
 obtain k:=_;exact k):=h
abbrev ZOJ(h:p:=by
 refine' S7;have l4:=Aa lr (Aw de).1;have BL:=aA (Aw de).1;have kz:=aA de;clear de;have m4:=aF wl.heap.size wl;have jm:=aA (HA.out.below BL.out);have bu:=aA (HB.out.below BL.out);have nl:w.heap.size<=wl.heap.size:=l4.size
 refine' ZC;rw[<-kz.out];obtain k:=_;exact k):=h
abbrev ZGO(h:p:=by
 rcases ib with h|h
 .rw[bB ZA,bB ZA]
 obtain k:=_;exact k):=h
abbrev ze(h:p:=by
 rw[bI]
 obtain k:=_;exact k):=h
abbrev ZTh(h:p:=by rw[bI]):=h
abbrev ZW3(h:p:=by obtain⟨vo,e,_,_,h⟩:=hv;refine' YC;refine' YC;injection e with _ e;injection e with _ e;injection e with e _;rw[e];exact h.on hW):=h
abbrev zj(h:p:=by exact own.nil_ _ _ _):=h
abbrev ZVX(h:p:=by
 refine' ZC;first
  |(refine Ax rfl rfl ga.out eC rfl Tryz.sizePlc rfl ?_;exact⟨rfl,kO.out⟩)
  |(refine Ax rfl rfl (Bp ga.out) eC rfl Tryz.sizePlc rfl ?_;exact⟨rfl,Ai (Ai (Ai kO.out (aC _) _) (aC _) _) (aC _) _⟩)):=h
abbrev ZVI(h:p:=by have T3:Aside (Tg n 20 d3):=(T2.out).perm 2 ZA ZA ZA ZE p3 ZKZ;have mw:Aside (SortedIn Dc 0 20 d3):=Dp ix.out p3 ZA;have kN:Aside (SortedIn Dc 20 40 d3):=Dp kM.out p3 ZA;obtain k:=_;exact k):=h
abbrev Xy(h:p:=by rw[eG _ _ _ _ _ _ hb];rfl):=h
abbrev Xn(h:p:=by rw[eG _ _ _ _ _ _ hh];rfl):=h
abbrev ZN3(h:p:=by refine' ZC;refine(p_ g p _ w hr hp ⟨ZA,ZA⟩).mono ?_;rintro e w1 ⟨x,rfl,hx,ew,hg⟩;obtain⟨x0,x1⟩:=hx.2 ZA;obtain⟨q,rfl⟩:=aK x0;obtain⟨A',n',c',e1,_,_,_,nU⟩:=HV.out w1 hg;injection e1 with e1 e2 e3;subst e1;obtain k:=_;exact k):=h
abbrev zT(h:p:=by have di:=aA ac;obtain k:=_;exact k):=h
abbrev ZPe(h:p:=by
 refine' zK;have l2:=Aa l1 b2;clear l1 b1 b2;cases ok
 .refine' ZQ;exact⟨Bf (by rw[HQ.out,H1.out,H2.out,dj.out]<;>rfl),Aa HT.out l2⟩
 have y9:Hid (Nh d s=if 0<=y6 d.held to then(to,Lv 2)else if 0<=y6 d.plan.order to then(to,Lv 3)else(to,Lv 4)):=by show _=_;rw[HQ.out,H1.out,H2.out,dj.out];rfl
 obtain k:=_;exact k):=h
abbrev ZPL(h:p:=by
 go_wp2
 go_loopw[1,7] (fun t i wr=>∃(k:Nat) (d:Y_),k<=fs.length+1/\i=.int .i64 k/\t=.string d/\d.size<=2^63 - 1/\B_ w wr/\Hid (Bc fs c=Gb fs (fs.length+1 - k) d k)) (fun _ i _=>fs.length+1 - (intOf i).toNat)
 case atStart=>exact⟨0,c,aN _,rfl,rfl,ax,l0,HF.out⟩
 obtain k:=_;exact k):=h
abbrev ZJq(h:p:=by obtain⟨wo,ja⟩:∃wo:World,wo=w1.alloc (aB #[.string x.src,.string x.dst] 181):=⟨_,rfl⟩;refine' ZIU;obtain k:=_;exact k):=h
abbrev ZGD(h:p:=by obtain⟨q,hq⟩:=aK (show 0<=r by omega);subst hq;obtain⟨lS,pW⟩:=AsU ak.out;obtain k:=_;exact k):=h
abbrev ZZ7(h:p:=by have lp:Hid (apart (.slice (P_ w.heap.size) 0 0) (.slice (some ⟨w.heap.size+1,0,none⟩) 0 0)):=.inr ZEd;obtain k:=_;exact k):=h
abbrev Nd(h:p:=by refine' ZLx;refine' Nj;have K0:=aA k0;clear m0;obtain k:=_;exact k):=h
abbrev ZKs(h:p:=by have qX:rdP w w.heap.size (.agg #[.int .i64 s.day.plan.bins,.int .i64 s.day.plan.passes,.slice AO nO cO]) s.day.plan:=⟨_,rfl,hi.1,hi.2,hO.rd⟩;obtain k:=_;exact k):=h
abbrev UT(h:p:=by refine' ZI;exact Bb.of_read HD.out rfl (aF _ _)):=h
abbrev ZLJ(h:p:=by refine' ZXM;have jV:=(De.1 hk).2.1;have wp:aD.wrap ((p.order.length:Int) - 1)=(p.order.length:Int) - 1:=bG _ ZA;obtain k:=_;exact k):=h
abbrev ZTU(h:p:=by refine' h_;have fg:=aA (show R_ w (.slice A n cp) rs from⟨A,n,cp,rfl,hn,hc,hm,hr⟩);refine' zm;have FP:=Hm rs c rs.length;obtain⟨q,hq⟩:∃q,Iv rs c=q:=⟨_,rfl⟩;have sH:Ie rs c rs.length=q:=hq;rw[sH]at FP;have HQ:=aA hq;clear hq sH;obtain k:=_;exact k):=h
abbrev Ny(h:p:=by (with_reducible refine(HC.out _ aq.lay).mono ?_);obtain k:=_;exact k):=h
abbrev ZHx(h:p:=by
 have BQ:(d:Int)<(N:Int):=ZA
 have tQ:¬((d:Int)<0):=ZA
 refine' ZZ3;have ky:G<w3.heap.size:=(ep.out.1.blk G rfl).2;go_wp2
 obtain k:=_;exact k):=h
abbrev ZXD(h:p:=by
 rw[fy]at JF HK
 have hk:=HK.out;subst hk;clear fy
 go_wp2_with (first|(refine' ZXC)|(go_at_call 78;refine JF.out.mono ?_;refine' zB))
 have l3:=Aa ig.out b3;obtain k:=_;exact k):=h
abbrev zi(h:p:=by rw[ap];omega):=h
abbrev zt(h:p:=by have:=HL.out;omega):=h
abbrev Ux(h:p:=by have ff:=aA (kK.out hf);have f8:=aA (kt.out hf);obtain k:=_;exact k):=h
abbrev ZFY(h:p:=by have l6:B_ w w6:=L3.out.trans (mM.mono ZA);clear B0 B1 B2 L3 mM HS fu;obtain k:=_;exact k):=h
abbrev Tt(h:p:=by refine' ZC;refine(lO _).mono ?_;refine' ZP;clear lO;obtain k:=_;exact k):=h
abbrev ZFu(h:p:=by refine' ZC;refine(tj.out _).mono ?_;refine' ZP;refine' ZC;refine(qW.out _).mono ?_;refine' ZP;obtain k:=_;exact k):=h
abbrev ZQE(h:p:=by refine' YS;obtain⟨⟨h1,h2⟩,⟨h3,h4⟩,⟨h5,h6⟩⟩:=Ap1.1 hp;clear hp;obtain⟨a,b,c⟩:=p;simp only at h1 h2 h3 h4 h5 h6;obtain⟨a,rfl⟩:=aK h1;obtain⟨b,rfl⟩:=aK h3;obtain⟨c,rfl⟩:=aK h5;obtain k:=_;exact k):=h
abbrev ZOc(h:p:=by
 rintro e w3 ⟨vA,vK,rfl,oA,oK,hAK,b3⟩;refine' YG;replace E2:=aA (E3 E2.out b3);have GJ:Hid (w2.heap.size<=w3.heap.size):=aA b3.size;have OA:=aA oA;have OK:=aA oK;obtain⟨Ak,nk,ck,rfl,hnk,_,_,_⟩:=oK.rd;subst hnk;clear oA oK b3
 refine' ZC;obtain k:=_;exact k):=h
abbrev ZQG(h:p:=by
 first|((with_reducible refine(HA.out _).mono ?_);refine' Zy;have k1:=Aa ld z1)|((with_reducible refine(HB.out _).mono ?_);refine' gY;have k2:=Aa k1 z2)|((with_reducible refine' Wf);refine' gX;have k3:=Aa k2 z3)|fail
 obtain k:=_;exact k):=h
abbrev Zp(h:p:=by refine' YU;show 1<=_+1+_;omega):=h
abbrev U_(h:p:=by
 rw[jv]at HV i8
 have kg:=aA i8;clear i8 jv
 dsimp only
 obtain k:=_;exact k):=h
abbrev ZZy(h:p:=by have gi:B_ w4 (w4.alloc (aB #[aH aD x.id,aG x.code] 119)).drew:=Ag (Ae (aF _ _) _);obtain k:=_;exact k):=h
abbrev ZF8(h:p:=by ·refine' YO;refine' ZO;exact⟨Bo (by rw[HM.out,HE.out,bA,d9.out];rfl),av⟩):=h
abbrev ZSu(h:p:=by refine' ZC;rw[KB.out];refine(UH.out d _ _ JZ.out ZA (fg.out.on l5)).mono ?_;rw[uV.out];rintro e w6 ⟨v6,rfl,o6,b6⟩;have l6:=Aa l5 b6;have ot:=aA (iu.out.below b6);obtain⟨A6,n6,c6,rfl,JS,_,_,uW⟩:=o6.rd;subst JS;have BI:=aA o6.rd;obtain k:=_;exact k):=h
abbrev ZUn(h:p:=by
 have rM:∀e∈oj.after,Region.binds md e=true->e.on≠i:=fun e he hb rG=>by have h1:=da e he hb;have h0:=(mem_ready.1 hr).1;rw[rG]at h1;exact ZUp
 obtain k:=_;exact k):=h
abbrev ZaH(h:p:=by
 clear hq;generalize Pm p=F at *
 refine' ZC;rw[<-om.out];refine(LB.out _).mono ?_;refine' zB;obtain k:=_;exact k):=h
abbrev ZLr(h:p:=by exact⟨b,o,hA,hb,ag,fun W hW=>(hW.cell (p:=⟨b,o+k*2,none⟩) hb).trans c1,fun W hW=>(hW.cell (p:=⟨b,o+k*2+1,none⟩) hb).trans c2⟩):=h
abbrev ZMu(h:p:=by
 refine' zH;have sM:w5.cell? ⟨G,j,none⟩=some (.slice Au qs.length cu):=(aj.cell_far ⟨G,j,none⟩ ZH g7.out).trans zD;have sN:w5.frozen? ⟨G,j,none⟩=false:=(aj.frozen_far ⟨G,j,none⟩ ZH g7.out).trans zD
 obtain k:=_;exact k):=h
abbrev ZUj(h:p:=by
 obtain⟨y,hy⟩:=h n ZA;refine⟨xs++[y],X2,fun i hi=>?_⟩;by_cases pT:i<xs.length
 .rw[bZ pT]
  exact hp i pT
 .have:i=n:=ZLo
  subst this;refine' Wy;simpa [hl]using hy):=h
abbrev Y5(h:p:=by rw[eG _ _ _ _ _ _ h];rfl):=h
abbrev zv(h:p:=by exact⟨rfl,aF _ _⟩):=h
abbrev W6(h:p:=by exact Bs.fin (s':=s) (HS.out.cut L4.out) L4.out):=h
abbrev ZOz(h:p:=by
 try clear vI
 refine' ZE2;have oG:(wq.alloc (aB #[] 119)).heap.size=wq.heap.size+1:=ZF
 have rX:Hid (own (α:=Ltr) 119 wq.heap.size (wq.alloc (aB #[] 119)) (.slice (P_ wq.heap.size) 0 0) []):=own.made0 wq _ (aC _);obtain k:=_;exact k):=h
abbrev Q5(h:p:=by refine' ZEc;simp):=h
abbrev ZJP(h:p:=by
 have kO:=aA l0;clear ag l0
 refine' ZQ;exact⟨.slice none 0 0,[],by rw[HQ.out];rfl,by rw[AcE HQ.out];exact Md _ _ _ _,kO.out⟩):=h
abbrev ZMj(h:p:=by
 have DM:k<=4:=ZA
 obtain⟨f,lN⟩:∃f:Ltr->Int,Hid (f=jD p (k:Int)):=⟨_,rfl⟩;have kJ:Hid (∀x,f x=Dm p x.code k):=fun x=>by rw[lN.out];show Dm p x.code _=_;rw[bE]
 have xr:Hid (∀x, -1<=f x/\f x<xss.length):=fun x=>by rw[kJ.out];have h1:=M2 p x.code k g1;have h2:=vC.out;omega
 obtain k:=_;exact k):=h
abbrev ZJv(h:p:=by have j6:own (α:=Y_) 9 w.heap.size (w.alloc (aB #[] 9)) (.slice (P_ w.heap.size) 0 0) []:=own.made0 w _ (aC _);obtain k:=_;exact k):=h
abbrev ZEe(h:p:=by obtain⟨M,hM⟩:=aK (show 0<=p.passes by omega);have pZ:=aA hM;clear hM;obtain k:=_;exact k):=h
abbrev fL(h:p:=by have l0:=aF w0.heap.size w0;obtain k:=_;exact k):=h
abbrev ZV8(h:p:=by
 have q1:=fun W (hW:B_ w W)=>(hW.cell (p:=⟨d,1,none⟩) (Az c1)).trans c1
 have q2:=fun W (hW:B_ w W)=>(hW.cell (p:=⟨d,2,none⟩) (Az c2)).trans c2
 have q3:=fun W (hW:B_ w W)=>(hW.cell (p:=⟨d,3,none⟩) (Az c3)).trans c3
 obtain k:=_;exact k):=h
abbrev ZXi(h:p:=by
 refine' ZYj;have kH:own 128 wB.heap.size W2 (.slice AX nX cX) xs:=by rw[bg];exact Bd OX.out ⟨w.heap.size,4,none⟩ _ ZGv
 refine' ZYk;obtain k:=_;exact k):=h
abbrev ZXO(h:p:=by
 go_enter func97,ntmps97
 refine' Zr;refine mS.out.mono ?_;refine' ZU;have bv:=(b1.block _ nj).trans ml;have ew:=(b1.block _ s9).trans qO;have l1:=lB.trans (b1.mono lB.size);obtain⟨x0,x1,x2,_,_,_⟩:=B7 bv;obtain⟨r0,r1,r2,f0,f1,f2⟩:=B7 ew;obtain k:=_;exact k):=h
abbrev ZGQ(h:p:=by rw[HT.out,jZ.out,fF]at ef;rw[HT.out]at HR;refine' ZGq;obtain k:=_;exact k):=h
abbrev ZLX(h:p:=by
 refine' Zr;refine' ZGr;have o1:=aA (DL.below b1);have o2:=aA (oB.below b1);have l1:=aA (Aa lB b1)
 obtain k:=_;exact k):=h
abbrev ZVT(h:p:=by
 rw[Sort.get_flatK _ _ _ _ (by simpa using PU),show(xs.toArray)[t/2]! =xs[t/2] by simp[ab],bV];rcases(show t%2=0\/t%2=1 by omega)with e|e
 .rw[e]
  conv=>lhs;rw[show t=t/2*2 by omega]
  exact c1
 .rw[e]
  conv=>lhs;rw[show t=t/2*2+1 by omega]
  exact c2):=h
abbrev ZSE(h:p:=by
 have O1:=aA o1;obtain⟨x0,x1,x2,x3,rfl,p0,p1,p2,p3, -⟩:=o1;obtain⟨A0,n0,m0,rfl, -, -, -, -⟩:=p0.rd;obtain⟨A1,n1,m1,rfl, -, -, -, -⟩:=p1.rd;obtain⟨A2,n2,m2,rfl, -, -, -, -⟩:=p2.rd;obtain⟨A3,n3,m3,rfl, -, -, -, -⟩:=p3.rd;clear p0 p1 p2 p3
 obtain k:=_;exact k):=h
abbrev zC(h:p:=by exact aN _):=h
abbrev ZSU(h:p:=by
 have h0:ys.length=0:=by
  rcases Nat.eq_zero_or_pos ys.length with h|h
  .exact h
  .obtain⟨_,_,_,h1,_⟩:=nU 0 h
   cases h1
 have hy:ys=[]:=bW h0;subst hy;have hd:np=[]:=bW (by simpa using rQ);subst hd;obtain k:=_;exact k):=h
abbrev ZXo(h:p:=by
 have ci:(Eo.toList==[99,111,100,101])=false:=ZD
 have dh:(Eo.toList==[98,97,114,115])=false:=ZD
 have eu:(Eo.toList==[114,101,97,100])=false:=ZD
 refine' ZVs;obtain k:=_;exact k):=h
abbrev ZOt(h:p:=by
 obtain⟨d,hd⟩:∃d,L.length=d+1:=⟨L.length - 1,by have:L.length≠0:=fun e=>fp (f2.1 e);omega⟩
 have jh:d<L.length:=ZA
 obtain⟨k',gj⟩:∃k',k=k'+1:=⟨k - 1,ZA⟩;obtain⟨yp,hyp,e2⟩:=rl.out k' gj;clear f2 rl;subst gj;obtain k:=_;exact k):=h
abbrev ZVb(h:p:=by
 have HQ:Hid (Fw xs f=if Re f xs then((Kw f xs).length:Int)else -1):=by
  show _=_;unfold Fw Kw;show(if Re f xs=true then _ else _)=_
  exact gU
 rw[HQ.out];clear HQ i7;obtain⟨A,n,c,rfl, -, -, -, -⟩:=hb;generalize Kw f xs=L at *;generalize Ts f xs=M at *;obtain k:=_;exact k):=h
abbrev ZN7(h:p:=by
 refine' ZC;refine(BdT g q _ ko ZA).mono ?_;rintro e w3 ⟨s,q',rfl,kq,fy,yi,er⟩;have nQ:=aA kq;have ay:=l_ ho ab;have mz:=ho.grown er ay;have tW:=vU MI er;have fu:=tW.size;have xm:s.size<=maxLen:=ZHJ
 obtain k:=_;exact k):=h
abbrev ZRw(h:p:=by rw[aJ ZF2,ZAZ,List.take_set_of_le (aC _),List.drop_set_of_lt ZA];rw[show k+1+ys.length=k+(ys.length+1) by omega];simp):=h
abbrev ZG2(h:p:=by have:=Ap3 _ s.net st c W (hS.n.rd.on h0.lay) hz;rw[hn]at this;exact this):=h
abbrev ZZN(h:p:=by obtain⟨cb,fb,hb⟩:=hb;rw[hO k _ hc (fun e'=>by injection e' with e';subst e';rw[hb]at hc;refine' ZLt;exact h2 hc.symm) fun c fz e'=>by injection e' with _ e' _;exact h1 e',hc]):=h
abbrev zD(h:p:=by go_simp):=h
abbrev ZJA(h:p:=by
 obtain⟨hb,⟨h,_⟩|⟨p',q',h,he⟩⟩:=h
 .rw[jc]at h;cases h
 .rw[jc]at h;cases h;exact⟨hb,he⟩):=h
abbrev ZYP(h:p:=by
 have ci:(Cy.toList==[115,105,122,101])=false:=ZD
 have cx:(Cy.toList==[104,111,108,100])=true:=ZD
 generalize Cy=wd at *;go_enter func47,ntmps47
 refine' ZC;go_wp2_with (go_at_call 94;refine' iB)
 rw[<-au.out,<-bt.out];obtain k:=_;exact k):=h
abbrev Wz(h:p:=by rw[swp_other _ _ _ _ ZA ZA];obtain k:=_;exact k):=h
abbrev ZU3(h:p:=by
 ((with_reducible refine(sk.out d1 w1 R1.out S2.out ha mQ).mono ?_);rintro e w3 ⟨rfl,d3,⟨p3,q3⟩,s3⟩;have P3:Aside (PermIn a mid d1 d3):=p3;refine' ZU4)
 obtain k:=_;exact k):=h
abbrev ZEo(h:p:=by generalize xss[k]=ys at *;obtain⟨A2,m2,c2,rfl,nD,kG,kh,fh⟩:=hu;obtain k:=_;exact k):=h
abbrev ZEq(h:p:=by injection h1 with h1;injection h1 with h1;simp only[List.cons.injEq,and_true,true_and]at h1;obtain k:=_;exact k):=h
abbrev ZFc(h:p:=by
 have c0:=z0.cell;have c1:=z1.cell;have f0:=z0.frozen;have f1:=z1.frozen
 obtain k:=_;exact k):=h
abbrev ZKK(h:p:=by have jx:=aA fd;have bu:=aA ju;have FA:=aA uC;have pu:=aA cy;rw[bz]at jx;clear gi a6 fd ju uC cy;obtain k:=_;exact k):=h
abbrev ZKq(h:p:=by obtain⟨w0,ac⟩:∃w0,w0=w.alloc (aB #[.int .i64 p.bins,.int .i64 p.passes,.slice A0 p.order.length c0] 30):=⟨_,rfl⟩;obtain k:=_;exact k):=h
abbrev Vj(h:p:=by exact(aF _ _).alloc (aC _) _):=h
abbrev Qs(h:p:=by obtain⟨k,hk,rfl,av,hf⟩:=hrel;refine' zO;obtain k:=_;exact k):=h
abbrev Vy(h:p:=by
 go_enter func12,ntmps12
 refine' Zr;obtain k:=_;exact k):=h
abbrev X5(h:p:=by refine' ZGZ;refine' ZU;obtain k:=_;exact k):=h
abbrev ZIw(h:p:=by refine' YV;refine' ZC;refine kv.out.mono ?_;rintro e w1 ⟨rfl,h1⟩;refine' zS;refine' ZI;exact Bb.of_read HD.out rfl H1.out):=h
abbrev ZJQ(h:p:=by obtain⟨z1,z2,z3,z4,z5⟩:=ep.out;exact⟨ZA,z3 d ZA mK,z5 d ZA⟩):=h
abbrev Sf(h:p:=by
 rintro e w5 ⟨s,rfl,kq,ex,k5,aj⟩;have nQ:=aA kq;clear kq
 obtain k:=_;exact k):=h
abbrev ZJI(h:p:=by rw[HR.out,kg.out,aQ rfl];exact(oz.grown (grownBy_putObj' _ D _) (ZD9 oz qr)).base_ ZA):=h
abbrev ZHG(h:p:=by
 obtain⟨r0,r1,r2,r3,r4,r5,r6,r7,hr⟩:=k3.res;refine' Va
 obtain k:=_;exact k):=h
abbrev Ue(h:p:=by
 by_cases dx:j<k
 .exact HG.out j dx
 obtain k:=_;exact k):=h
abbrev zR(h:p:=by have HV:=aA hv;obtain k:=_;exact k):=h
abbrev ZSI(h:p:=by
 .go_wp2
  go_roundw
  case rel=> refine⟨k+1,ZA,ZJ,by rw[GL.out,CS.out];congr 1;omega,mn.setCell ZH _,zD,by simpa using fu,?_⟩;rw[GL.out,lX.out];exact HSI.out _ ZS
  case measure=>exact ZK):=h
abbrev zJ(h:p:=by have HD:=aA hD;obtain k:=_;exact k):=h
abbrev ZFX(h:p:=by have x1:Boxed w6 (w.heap.size+1) 4 (.bool false):=(mM.block _ ZA).trans B1.out;obtain k:=_;exact k):=h
abbrev gI(h:p:=by have mr:=y0 _ k0;rw[au.out]at mr;obtain k:=_;exact k):=h
abbrev ZG4(h:p:=by clear hq hl hn hz;generalize(Cs s.net st c).1.map (Bw s.net)=L at *;generalize Cb L=F at *;obtain k:=_;exact k):=h
abbrev ZFF(h:p:=by refine' ZC;refine HJ.out.mono ?_;rw[<-HF.out];refine' zB;refine' YG;refine' ZI;obtain k:=_;exact k):=h
abbrev Ya(h:p:=by obtain⟨k,hk,rfl,lr,HG⟩:=hrel;refine' YB;obtain k:=_;exact k):=h
abbrev ZFf(h:p:=by
 have c0:=z0.cell;have c1:=z1.cell;have c2:=z2.cell;have f0:=z0.frozen;have f1:=z1.frozen
 obtain k:=_;exact k):=h
abbrev ZMw(h:p:=by have p4:=Ex (G:=G) (d:=j) (g:=g) (m:=qs.length+1) (cap:=cap) (Ag (Ae l4 (aB #[aH aD x.id,aG x.code] 119))) aj (fun j hj=>(jW.out.blk j hj).1) nT;refine' ZL6;obtain k:=_;exact k):=h
abbrev V6(h:p:=by obtain⟨b,o,u,rfl,hb,hu,c1⟩:=HR.out.rowU k ab;obtain k:=_;exact k):=h
abbrev N7(h:p:=by
 refine hK.out _ _ (fun _=>?_) (fun aa=>?_)
 .exact l8
 refine' Xl;obtain k:=_;exact k):=h
abbrev ZSs(h:p:=by
 have JY:(xx k).size=1:=rfl;have oq:=aA (O0 net s (g+1) (k_ p k));have JZ:Hid ((k_ p k).size+(g+1)=8):=by show _=_;rw[AhN];omega
 obtain⟨d,hd⟩:∃d,k_ p k=d:=⟨_,rfl⟩;have KB:Hid (p++xx k=d):=hd;rw[hd]at fx mZ oq JZ;obtain k:=_;exact k):=h
abbrev ZVJ(h:p:=by have Z4:Aside (d4.size=n):=p4.1.trans Z3.out;have KI:Aside (SWK enc k w0 blk aw d4 w4):=S4;have P4:Aside (PermIn 0 n d0 d4):=permIn_trans _ _ _ _ _ P3.out (permIn_mono _ _ _ _ _ _ (aN _) ZA ZKb p4);obtain k:=_;exact k):=h
abbrev ZSp(h:p:=by generalize net[k]=x at *;refine' Tx;obtain⟨wo,ja⟩:∃wo:World,wo=w1.alloc (aB #[.string x.name,.slice A2 x.rules.length k2] 45):=⟨_,rfl⟩;refine' ZIU;obtain k:=_;exact k):=h
abbrev ZKu(h:p:=by
 first|((with_reducible refine(qW.out _).mono ?_);refine' ZP)|((with_reducible refine(uM.out _).mono ?_);refine' ZP)|fail
 obtain k:=_;exact k):=h
abbrev Yn(h:p:=by unfold Td;exact ZH):=h
abbrev ZMy(h:p:=by
 have FJ:(r==(j:Int))=false:=by simp[pQ]
 obtain⟨oV,jk⟩:Hid (K.set j (D8 f j (ys.take (m+1)))=K.set j qs)/\Hid (Gv f j (ys.take (m+1))=rs++[x]):=⟨(yB.out ZHU).1,(yB.out ZHU).2⟩;obtain k:=_;exact k):=h
abbrev X3(h:p:=by obtain⟨A1,n1,c1,rfl, -, -, -, -⟩:=o1.rd;obtain k:=_;exact k):=h
abbrev ZNI(h:p:=by
 go_wp2
 go_region_held3 (fun W=>B_ w0 W) (first|exact ld|exact Aa ld b3) (first|(refine' ZHq;refine' zB))
 have jt:=Aa ld b3;have B3:B_ w1 w3:=Aa ((aF _ _).drew) b3;obtain k:=_;exact k):=h
abbrev ZIb(h:p:=by refine' Us;exact List.mem_map.2 ⟨x,eA hx,rfl⟩):=h
abbrev ZVc(h:p:=by
 refine' ZC;refine HS.out.mono ?_;rintro e w1 ⟨vA,vB,rfl,oA,oB, -,b1⟩;obtain⟨A1,n1,c1,rfl,dy, -, -, -⟩:=oA.rd;obtain⟨A2,n2,c2,rfl, -, -, -, -⟩:=oB.rd;have HN:=aA dy;have B1:=aA b1;clear oA oB dy b1
 refine' ZI
 obtain k:=_;exact k):=h
abbrev ZUh(h:p:=by have nt:Hid (ps.take (k+1)=ps.take k++[ps[k]]):=aJ gq;obtain k:=_;exact k):=h
abbrev Px(h:p:=by rw[aT,cE];omega):=h
abbrev ZJi(h:p:=by
 obtain⟨b,o,rfl,hb,_,c1,c2⟩:=HR.out.ltr k ab
 obtain⟨i1,i2⟩:=AlN d9.out k ab;obtain k:=_;exact k):=h
abbrev ZQQ(h:p:=by refine' ZC;refine Ax rfl rfl (bC w (aB #[.int .i64 p.area,.int .i64 p.walk,.int .i64 p.point] 147)) eC rfl Tryz.sizePlc rfl ?_;exact⟨rfl,Ag ((aF w.heap.size w).alloc (aC _) _)⟩):=h
abbrev Tm(h:p:=by show w.heap.size<=w.heap.size+1;omega):=h
abbrev ZWv(h:p:=by have VL:=aA (fun W (h:B_ W2 W)=>B7 ((h.block _ (Array.getElem?_eq_some_iff.1 ju).1).trans ju));have lJ:=aA (fun W (h:B_ W2 W)=>(h.block _ (Array.getElem?_eq_some_iff.1 dq).1).trans dq);obtain k:=_;exact k):=h
abbrev ZLZ(h:p:=by
 go_wp2_with (first|(go_at_call 28;refine(tJ.out _).mono ?_;refine' gY;have k2:=k1.below z2)|(refine' ZG0))
 obtain k:=_;exact k):=h
abbrev ZHO(h:p:=by rintro e w4 ⟨x,rfl,pI,ik,a6⟩;have HG:=aA (vU er a6);obtain k:=_;exact k):=h
abbrev ZTp(h:p:=by rw[eB]at hy;obtain⟨j,hj,rfl⟩:=hy;simp only[fJ];exact F6.2 (h3 j ZA)):=h
abbrev ZMD(h:p:=by
 have dz:k<s.data.toList.length:=ZKA
 have hb:=Iw HD.out s[k] (by have:=aS dz;exact this)
 obtain k:=_;exact k):=h
abbrev ZNQ(h:p:=by refine⟨.inr ZEd,fun k hk=>.inr fun e=>?_⟩;obtain⟨z1,z2,z3,_⟩:=jo;have hh:w.heap.size+1+1<wz.heap.size:=((z3 k hk ZA).blk _ e.symm).2;omega):=h
abbrev ZQT(h:p:=by
 have hn:=Ow s.size s.data.toList hd ZF;have HE:Hid (Kv s.data.toList=(10 - F8 s.data.toList%10)%10):=rfl;generalize F8 s.data.toList=n at *;generalize Kv s.data.toList=k at *;have lK:n<=180:=ZA
 clear hd hn;obtain k:=_;exact k):=h
abbrev ZY0(h:p:=by
 rintro e u2 h2;obtain⟨LV,LW,LX,LY,LZ,MA,MB,MC,MD,ME,rfl,S2,z2⟩:=h2.out;have f8:=aA (ZEJ S2 ZA);have k2:=k1.below z2;have L2:=aA k2.lay;refine' ZLQ
 obtain k:=_;exact k):=h
abbrev Y6(h:p:=by
 rw[bT]at o7;have gm:=l7.size
 obtain k:=_;exact k):=h
abbrev YH(h:p:=by obtain⟨k,hk,rfl,HG⟩:=hrel;obtain k:=_;exact k):=h
abbrev YM(h:p:=by simp only[if_true]at hP hZ⊢;obtain k:=_;exact k):=h
abbrev ZEj(h:p:=by show _=_;exact ZEr):=h
abbrev ZGT(h:p:=by rw[aJ h,gW,cG];simp[hf]):=h
abbrev Uz(h:p:=by refine' eP;obtain⟨A,n,c,rfl,hn,hc,hm,hr⟩:=hb;obtain k:=_;exact k):=h
abbrev ZP1(h:p:=by
 clear ag
 refine' ZC;go_loopw[3,4] (fun t i wr=>∃k:Nat,k<=rs.length/\i=.int .i64 k/\t=.string (Jb rs k)/\B_ w wr) (fun _ i _=>rs.length - (intOf i).toNat)
 case atStart=>exact⟨0,aN _,rfl,by rw[Ou],l1⟩
 obtain k:=_;exact k):=h
abbrev ZKD(h:p:=by
 refine' ZFV;have pO:zU t ⟨#[45]⟩=false:=by rw[fC]at cv;exact cv
 obtain k:=_;exact k):=h
abbrev ZKa(h:p:=by
 refine' ZU9;have y2:(40:Int)<=(n:Int):=ZA
 obtain k:=_;exact k):=h
abbrev Mt(h:p:=by refine Bk (rs:=[11]) ZB ZF ?_;refine' Yz;obtain k:=_;exact k):=h
abbrev ZKy(h:p:=by refine' ZZ5;refine(lg.out _).mono ?_;rintro e w2 ⟨rfl,o2,b2⟩;obtain k:=_;exact k):=h
abbrev V4(h:p:=by obtain⟨i0,hi,ah,ar,ap⟩:=dD Tryz.infoLtr;obtain k:=_;exact k):=h
abbrev Tr(h:p:=by obtain⟨i1,ji,dr,du,dw⟩:=dD Tryz.infoFwd;obtain k:=_;exact k):=h
abbrev ZW1(h:p:=by refine' ZQ;exact⟨_,G9 (HO.out.trans HB.out),by rw[HR.out,HB.out];exact own.made0 _ _ lw.size,lw.alloc lw.size _⟩):=h
abbrev ZNW(h:p:=by
 refine' ZZ;by_cases hr:r<0
 .refine' ZI;exact⟨Bo (by rw[ApL (by rw[ak.out];exact hr)]),HT.out⟩
 have fi:0<=r:=ZA
 have HE:Hid (Dm p c k=r/q%p.bins):=by show _=_;rw[AoZ (by rw[ak.out];omega),ak.out,HQ.out]
 obtain k:=_;exact k):=h
abbrev ZHo(h:p:=by
 have IQ:Hid ((Bn f (xs.take k)).length<=1000):=by show _<=_;have:=ZBX (fun x=>decide (f x<0)) xs k;unfold Bn;omega
 obtain k:=_;exact k):=h
abbrev Uf(h:p:=by refine' ZO;exact⟨Bo (HY.out jj.out).symm,rfl⟩):=h
abbrev ZTL(h:p:=by
 refine' Zc;go_region_held3 (fun W=>B_ wo W) (first|exact ld|exact Aa ld b3) (first|(go_at_call 284;refine(C1.out _).mono ?_;refine' zW)|(go_at_call 234;refine(C3.out _ ld).mono ?_;refine' zB))
 obtain k:=_;exact k):=h
abbrev ZFx(h:p:=by obtain⟨a0,a1,a2,e0,e1,e2⟩:=B7 mn;have kZ:=aA mn;have mU:=aA xz;obtain k:=_;exact k):=h
abbrev Xt(h:p:=by refine' YU;show _+1+_<=_;omega):=h
abbrev Xs(h:p:=by refine' ZLx;have aq:=k0.drew;refine' ZZ6;obtain k:=_;exact k):=h
abbrev ZSK(h:p:=by
 refine' ZU;generalize Jh p xs=q at *;have B1:=HB.out.trans (b1.mono HB.out.size);by_cases h:q<0
 .refine' ZI;exact⟨Bo (by rw[HQ.out,aQ h]),B1⟩
 .refine' ZI;exact⟨Bo (by rw[HQ.out,aM ZA]),B1⟩):=h
abbrev ZQ0(h:p:=by have hB:B_ w (w.alloc (aB #[aH aD p.bins,aH aD p.passes,Value.slice Ao p.order.length og] 30)):=(aF _ _).alloc (aC _) _;have HB:=aA hB;clear hB;obtain k:=_;exact k):=h
abbrev ZWA(h:p:=by rw[bH,aR hk];rfl):=h
abbrev ZTA(h:p:=by
 rw[ak.out];refine' ZZ;cases h3:(r==(k:Int))
 .have H3:=aA h3
  have un:(r != (k:Int))=true:=ZFQ
  clear h3
  refine' ZI;exact⟨Al (ao.out (by rw[hG.out,<-hS.out,ak.out,H3.out];simp)).symm,rfl⟩
 obtain k:=_;exact k):=h
abbrev ZWG(h:p:=by obtain⟨an,tK⟩:∃z:Y_,z=Jp s.day.plan s.letters n0 n1 n2:=⟨_,rfl⟩;rw[<-tK]at HQ⊢;generalize Lo s.day.plan s.letters n0 [⟨n1,n2⟩]=ok at *;generalize Fr s.day.plan s.letters n0 [⟨n1,n2⟩]=L at *;obtain k:=_;exact k):=h
abbrev Ug(h:p:=by exact⟨0,aN _,rfl,rfl⟩):=h
abbrev ZZ4(h:p:=by
 have h:=mT.out;unfold apart at h;rcases h with h|h
 .rw[h];simp
 .exact fun e=>h e.symm):=h
abbrev ZPO(h:p:=by
 .have dz:¬(k:Int)<=(fs.length:Int):=ZA
  have HE:Hid (Bc fs c=(⟨#[]⟩,0,false)):=by show _=_;rw[HG.out,show fs.length+1 - k=0 by omega];rfl
  refine' zX;exact⟨Bf ZGK,lr⟩):=h
abbrev ZP4(h:p:=by
 refine' ZFD;have mJ:Hid (aG (P++⟨#[32]⟩++p++⟨#[62]⟩++q)=.string (Jb rs (k+1))):=by
  show _=_;rw[qY.out,lm.out ZA];unfold Ek
  congr 1
  refine Cv ?_;simp[y7]
 obtain k:=_;exact k):=h
abbrev X4(h:p:=by refine' ZF0;refine' ZC;obtain k:=_;exact k):=h
abbrev ZQn(h:p:=by
 have oe:=aA hd;clear hd
 go_wp2_with (first|(go_at_call 231;refine(Cw _ _ ag).mono ?_;refine' V7)|(go_at_call 281;refine(ZBR _ (cs.take k) _ _ (fg.out.take hk)).mono ?_;rw[oe.out];refine' zW))
 obtain k:=_;exact k):=h
abbrev ZNk(h:p:=by refine' YO;go_wp2;go_ret2;have hB:=HB.out;refine' ZNL;exact⟨_,_,vs,rfl,hB.base_ (iA bj),hO.base_ (iA bj),hF,Aa HT.out lr⟩):=h
abbrev Wp(h:p:=by refine' zo;exact ZHM):=h
abbrev ZRz(h:p:=by obtain⟨f1,rY⟩:∃f,(Bc fs p).1=f:=⟨_,rfl⟩;obtain⟨f2,xk⟩:∃f,(Bc fs p).2.1=f:=⟨_,rfl⟩;obtain⟨f3,kc⟩:∃f,(Bc fs p).2.2=f:=⟨_,rfl⟩;rw[rY,xk,kc]at qN;rw[kc]at HY HS;clear rY xk kc;obtain k:=_;exact k):=h
abbrev Uy(h:p:=by obtain⟨k,hk,rfl,lr,hA,hB,fe⟩:=hrel;refine' zd;obtain k:=_;exact k):=h
abbrev ZKP(h:p:=by
 obtain⟨_,jd⟩:=Mr kj;have pD:i<x.size:=ZJ5
 have ax:=Nt kj;have jw:=Ki ax;rw[kj]at lO;obtain k:=_;exact k):=h
abbrev Z9(h:p:=by simp[World.frozen?,h]):=h
abbrev zw(h:p:=by simp<;>omega):=h
abbrev Wy(h:p:=by
 rw[cC ZA]
 obtain k:=_;exact k):=h
abbrev ZIW(h:p:=by first|with_reducible refine Da (C1.out _)|with_reducible refine Da (C2.out _)):=h
abbrev ZQo(h:p:=by have hB:B_ w (w.alloc (aB #[aH aD p.bins,aH aD p.passes,Value.slice A p.order.length cp] 30)):=(aF _ _).alloc (aC _) _;have HB:=aA hB;obtain k:=_;exact k):=h
abbrev ZI8(h:p:=by
 obtain⟨hb,⟨_,he⟩|⟨p,q,h,_⟩⟩:=h
 .exact⟨hb,he⟩
 .rw[jc]at h;cases h):=h
abbrev Sc(h:p:=by refine' Yk;subst e0;refine' zT;clear ac hv hb;refine' Yj;obtain k:=_;exact k):=h
abbrev ZK3(h:p:=by apply Cv;simp only[B6,cZ];obtain k:=_;exact k):=h
abbrev ZJT(h:p:=by apply Cv;simp only[B6,cZ]):=h
abbrev S_(h:p:=by obtain⟨i0,hi,m7,ar,ap⟩:=dD Tryz.infoRow;refine' Zl;obtain k:=_;exact k):=h
abbrev ZPw(h:p:=by obtain⟨A0,c0,A1,c1,A2,c2,A3,c3,e0⟩:=At9 hv;obtain⟨w0,ac⟩:∃w0,w0=w.alloc (aB #[.slice A0 r.round.length c0,.slice A1 r.strange.length c1,.slice A2 r.held.length c2,.slice A3 r.stuck.length c3] 78):=⟨_,rfl⟩;obtain k:=_;exact k):=h
abbrev ZEi(h:p:=by refine' ZC;refine(Cn _ xs _ (HB.out.on l1)).mono ?_;refine' zK;have l2:=Aa l1 b2;obtain k:=_;exact k):=h
abbrev ZRV(h:p:=by have gx:=Lp (d:=Mj p0) (ng:=Kn p0);have dy:=Lp (d:=Mj p1) (ng:=Kn p1);rw[show N5 (Mj p0) (Kn p0)=Hp p0 from rfl]at gx;rw[show N5 (Mj p1) (Kn p1)=Hp p1 from rfl]at dy;generalize Hp p0=v0 at *;generalize Hp p1=v1 at *;obtain k:=_;exact k):=h
abbrev ZGb(h:p:=by
 have cx:(Df.toList==[112,108,97,110])=true:=ZD
 generalize Df=wd at *;obtain k:=_;exact k):=h
abbrev ZQV(h:p:=by have HD:=aA jb;have uh:=AeV s.data.toList;have HE:Hid (Sj s.data.toList=Ni s.data.toList++G6 (Kv s.data.toList)++⟨#[124]⟩):=rfl;obtain⟨q,hq⟩:∃q,Kv s.data.toList=q:=⟨_,rfl⟩;rw[hq]at DB HE uh;obtain k:=_;exact k):=h
abbrev Ph(h:p:=by obtain⟨k,hk,rfl,rfl,lr⟩:=hrel;obtain k:=_;exact k):=h
abbrev Sl(h:p:=by
 obtain⟨b,o,A2,k2,rfl,hb,ag,hu,c1,c2⟩:=HR.out.ofcU k ab
 obtain k:=_;exact k):=h
abbrev ZHn(h:p:=by
 obtain⟨vg,vi⟩:=HF.out x;rw[<-kJ.out]at vg vi;have jf:Hid (f xs[k]=f x):=by show _=_;rw[<-HX.out]
 obtain k:=_;exact k):=h
abbrev ZF7(h:p:=by obtain⟨k,m,hk,rfl,rfl,m0,m1,HM,av⟩:=hrel;refine' YB;have tZ:=av.size;obtain k:=_;exact k):=h
abbrev ZPD(h:p:=by refine' ZHQ;have HD:=aA je;have HB:=aA (hb.on HT.out);refine' zT;clear ac hb hv je;refine' Yj;obtain k:=_;exact k):=h
abbrev Ww(h:p:=by show _=_;rw[HQ.out,h2];simp):=h
abbrev ZS1(h:p:=by have HO:Hid (own (α:=Y_) 9 w.heap.size (w4.alloc (aB #[.string p] 9)) (.slice (P_ w4.heap.size) 1 1) [p]):=own.made1 (α:=Y_) w4 9 [.string p] p ⟨BH,rfl⟩ lq.size;obtain k:=_;exact k):=h
abbrev ZH9(h:p:=by rintro e w1 ⟨n,hn,rfl,ew,ey⟩;refine' ZTr;obtain k:=_;exact k):=h
abbrev ZZf(h:p:=by have T2:Aside (Tg n 20 d2):=(T1.out).perm 1 ZA ZA ZA ZE p2 (by rw[Z1.out];omega);have ix:Aside (SortedIn Dc 0 20 d2):=Dp iw.out p2 ZA;obtain k:=_;exact k):=h
abbrev ZEY(h:p:=by
 rw[bB ZH]at hd
 refine' Uw;obtain k:=_;exact k):=h
abbrev ZRy(h:p:=by exact⟨h4.os,h4.tape,h4.output,aI h4.size (by simp[Go.Sort.grow]),fun k hk ay=>by show(_++os)[k]? =_;rw[ZCI (bR hk h4.size)];exact h4.block k hk ay⟩):=h
abbrev ZTV(h:p:=by
 obtain⟨u,hu⟩:=aK (show 0<=q by omega)
 subst hu;have tc:u<rs.length:=ZA
 obtain⟨b,o,rfl,hb,⟨nz,nC⟩,y1,y2⟩:=HR.out.fwdU u tc;have HS:=aA (Rx HQ.out tc);obtain k:=_;exact k):=h
abbrev fM(h:p:=by rintro e w3 ⟨v3,rfl,o3,b3⟩;obtain k:=_;exact k):=h
abbrev Ye(h:p:=by rintro e w1 ⟨v1,rfl,o1,b1⟩;obtain k:=_;exact k):=h
abbrev ZXR(h:p:=by
 refine' ZV;refine Bh (i:=2) (v:=?zv2) rfl rfl ZB ZB ZB ZB (fun _ _ _ h=>h) (aZ ⟨ZG,?zy2⟩) ZL ?zr2
 case zy2=> exact ZM
 obtain k:=_;exact k):=h
abbrev ZST(h:p:=by obtain⟨cs,ax,UY⟩:=List.mem_flatten.1 hu;obtain⟨k,hk,rfl⟩:=bP ax;obtain⟨_,_,_,h,_⟩:=lY k hk ZA;exact El.one h u UY):=h
abbrev Y7(h:p:=by exact⟨0,aN _,rfl,br,lk⟩):=h
abbrev ZJe(h:p:=by rw[aJ hk,gW,cG];obtain k:=_;exact k):=h
abbrev ZUQ(h:p:=by
 refine' YQ;have hk:=(ho.blk k hb).1;rcases hr k e.symm with h|⟨_,o,iy,kn⟩
 .omega
 .obtain⟨o',mz,fd⟩:=Hn ho hb
  rw[mz]at iy;injection iy with iy;rw[iy,kn]at fd;cases fd):=h
abbrev iS(h:p:=by
 obtain rfl:j=k:=ZA
 obtain k:=_;exact k):=h
abbrev eE(h:p:=by have HV:=aA (ZBA HO.out);obtain k:=_;exact k):=h
abbrev Wa(h:p:=by simp[Lib.compareBytes]at h):=h
abbrev ZZu(h:p:=by
 have ah:=k0.lt;have ar:=k1.lt;have R5:=aA (rdN.of_own (R:=cut R w.heap.size (w.heap.size+2)) o5 fun k hk=>.inr (aI ah hk));obtain⟨A5,n5,c5,rfl, -, -, -, -⟩:=o5.rd;clear o5 ah
 obtain k:=_;exact k):=h
abbrev ZGh(h:p:=by refine' ZC;refine(HN.out _).mono ?_;refine' ZP;obtain k:=_;exact k):=h
abbrev ZXn(h:p:=by
 have ci:(Ga.toList==[99,111,100,101])=false:=ZD
 have dh:(Ga.toList==[98,97,114,115])=false:=ZD
 refine' ZQg;obtain k:=_;exact k):=h
abbrev ZFC(h:p:=by rw[mY];exact⟨by have:=me.out.1;exact ZN,rfl⟩):=h
abbrev ZGR(h:p:=by
 have bd:¬((k:Int)<(ps.length:Int)):=ZA
 have ob:=aA gq;obtain k:=_;exact k):=h
abbrev ZLU(h:p:=by
 have OX:=aA oX;obtain⟨AX,nX,cX,rfl, -, -, -, -⟩:=oX.rd;clear oX
 obtain k:=_;exact k):=h
abbrev ZKX(h:p:=by
 have T4:Aside (SortedIn lt mid b d4):=q4;have S4:Aside (SWK enc k w0 blk aw d4 w4):=s4;clear p4 q4 s4
 obtain k:=_;exact k):=h
abbrev zu(h:p:=by generalize xs[k]=x at *;obtain k:=_;exact k):=h
abbrev ZXK(h:p:=by
 have sn:¬9223372036854775807<P.size+lb.size:=ZA
 have qj:¬9223372036854775807<P.size+lb.size+1:=ZA
 have so:¬9223372036854775807<P.size+lb.size+1+dl.size:=ZA
 obtain k:=_;exact k):=h
abbrev ZKm(h:p:=by
 (with_reducible refine(HN.out _ B1.out).mono ?_);refine' ZJg;clear b2
 obtain k:=_;exact k):=h
abbrev ZUO(h:p:=by
 have sn:¬9223372036854775807<P.size+nm.size:=ZA
 have qj:¬9223372036854775807<P.size+nm.size+1:=ZA
 have so:¬9223372036854775807<P.size+nm.size+1+F.size:=ZA
 obtain k:=_;exact k):=h
abbrev ZGn(h:p:=by show _=_;rw[HT.out];exact ao.out Yn):=h
abbrev zq(h:p:=by rintro e w2 ⟨rfl,rfl⟩;obtain k:=_;exact k):=h
abbrev ZHm(h:p:=by refine' Te;obtain⟨x,hx⟩:∃x,x=xs[k]:=⟨_,rfl⟩;have HX:=aA hx;rw[<-hx]at c1 c2 fq fj;clear hx;obtain k:=_;exact k):=h
abbrev ZOB(h:p:=by
 have kw:=Cq h2;have j7:=(Ch.1 H1.out).1;refine' zN;have HF:Hid (Ve fs xs=true):=ZEj
 have HY:Hid (E6 fs xs=F9 fs xs/\Gu fs xs=Lj fs xs):=by unfold E6 Gu;rw[HF.out];exact ZW
 clear HB
 refine' ZC;obtain k:=_;exact k):=h
abbrev ZXS(h:p:=by
 refine' ZV;refine Bh (i:=3) (v:=?zv3) rfl rfl ZB ZB ZB ZB (fun _ _ _ h=>h) (aZ ⟨ZG,?zy3⟩) ZL ?zr3
 case zy3=> exact ZM
 obtain k:=_;exact k):=h
abbrev Y2(h:p:=by have ld:=Ag (aF w.heap.size w);obtain k:=_;exact k):=h
abbrev ZO(h:p:=by go_wp2;go_ret;obtain k:=_;exact k):=h
abbrev Tx(h:p:=by
 have bd:(k:Int)<(net.length:Int):=ZA
 obtain k:=_;exact k):=h
abbrev ZKi(h:p:=by
 have ci:(Df.toList==[108,101,116,116,101,114,115])=false:=ZD
 obtain k:=_;exact k):=h
abbrev ZEw(h:p:=by obtain⟨gx,dy⟩:=lK;obtain⟨N,rfl⟩:=aK gx;obtain k:=_;exact k):=h
abbrev eK(h:p:=by have kv:=aA HC;clear HC;obtain k:=_;exact k):=h
abbrev ZHc(h:p:=by obtain⟨lv,jp,qP⟩:=Lf.1 h1;obtain⟨mG,nP,pq⟩:=Jz.1 lv;refine' Sa;obtain k:=_;exact k):=h
abbrev ZZr(h:p:=by
 have k0:=Dv E2.out 0 (.slice none 0 0) rfl;have k1:=Dv E2.out 1 (.slice none 0 0) rfl;have k2:=Dv E2.out 2 (.slice none 0 0) rfl;have k3:=Dv E2.out 3 (.slice none 0 0) rfl;have kf:=Nx E2.out
 obtain k:=_;exact k):=h
abbrev ZO9(h:p:=by rintro e w1 ⟨vR,rfl,oR,b1⟩;have l1:=Aa l0 b1;have sY:=oR.rd;obtain⟨R0,r0,R1,r1,R2,r2,R3,r3,eR⟩:=At9 sY;subst eR;obtain⟨pr,_,_,_⟩:=AlF sY;have PR:=aA pr;clear sY pr oR b1;obtain k:=_;exact k):=h
abbrev Rn(h:p:=by simpa [El.size]using hc 0 _ rfl):=h
abbrev ZE5(h:p:=by exact⟨0,aN _,rfl,fun j hj=>absurd hj (aX j)⟩):=h
abbrev ZF6(h:p:=by exact⟨0,0,aN _,rfl,rfl,ZA,ZA,rfl,br⟩):=h
abbrev ZI3(h:p:=by show _=_;unfold x_;rw[aP (show¬d.size<=17 by omega)];simp):=h
abbrev ZFN(h:p:=by
 ((with_reducible refine(H1.out _).mono ?_);refine' ZP)
 obtain k:=_;exact k):=h
abbrev zX(h:p:=by
 refine' ZC;go_ret3
 obtain k:=_;exact k):=h
abbrev ZPg(h:p:=by rw[aJ h,cG,cD,gE,G5];intro e;have:=aU List.length e;rw[bI,bJ,cT]at this;omega):=h
abbrev Ub(h:p:=by rw[HO.out,kg.out]):=h
abbrev ZW4(h:p:=by refine' Q9;exact⟨.slice none 0 0,by rw[HR.out,HQ.out];rfl,by rw[HR.out];exact(own.nil_ _ 9 0).rd,Ai (Ai (Ai mU.out (aC _) _) (aC _) _) (aC _) _,.inl rfl⟩):=h
abbrev ZSv(h:p:=by
 have tk:=l6.size;have pw:zs.length+ys.length<=200000000:=by have h1:=xT.out;have h2:=oq.out;have h3:=IP.out;have h4:k*10^(g+1)<=10*10000000:=bY ZA h3;omega
 obtain k:=_;exact k):=h
abbrev ZS2(h:p:=by have:=HG.out;rw[bB ZA]at this;exact this):=h
abbrev ZNo(h:p:=by have HU:=aA hu;clear hu;generalize kL:(xss.take k).flatten=zs at *;have uV:=aA kL;clear kL;have dm:=aA ho;obtain⟨A3,m3,c3,rfl,vE,_,_,_⟩:=ho.rd;subst vE;clear ho;obtain k:=_;exact k):=h
abbrev ZVS(h:p:=by
 unfold Sort.HoldsK;intro t ht;rw[Sort.size_flatK]at ht;have PU:t<xs.length*2:=by simpa using ht
 have ab:t/2<xs.length:=ZA
 refine⟨?_,by rw[bV];exact h.freeAt _⟩;obtain k:=_;exact k):=h
abbrev ZMP(h:p:=by
 have mh:wo.heap.size=w1.heap.size+1:=by subst ja;simp
 have CT:B_ w wo:=by subst ja;exact av.alloc cm _
 rw[<-ja];have GM:w1.heap.size<wo.heap.size:=ZA
 obtain k:=_;exact k):=h
abbrev Nz(h:p:=by have HF:=aA (duo.set8 (Lg sX.out k1));exact ZGt):=h
abbrev ZaI(h:p:=by rw[hG.out,H1.out,H2.out];rfl):=h
abbrev ZME(h:p:=by rw[HR.out,kg.out];exact zj):=h
abbrev ZGJ(h:p:=by
 go_wp2
 go_quiet (first|(go_at_call 255;refine Da (CB.out _)))
 go_wp2
 obtain k:=_;exact k):=h
abbrev ZPu(h:p:=by
 go_region_held3 (fun W=>B_ w2 W) (first|exact ld|exact l3|fail) (first|(go_at_call 28;(with_reducible refine(tJ.out _).mono ?_);refine' zB;have l3:=Aa ld b3)|fail)
 obtain k:=_;exact k):=h
abbrev ZPG(h:p:=by simp only[aO]at this;refine⟨this.1.1,this.1.2,fun j hj=>?_⟩;have hh:=List.all_eq_true.1 this.2 fs[j] V3;simp only[fJ]at hh;exact F6.1 hh):=h
abbrev YP(h:p:=by
 rintro e w4 ⟨rfl,b4⟩
 obtain k:=_;exact k):=h
abbrev ZGo(h:p:=by rw[HN.out];exact aU aG mJ.out):=h
abbrev Xm(h:p:=by rw[ho]at this;exact this):=h
abbrev ZHd(h:p:=by have kX:=aA (Aq6 (bu.out.below ((aF _ _).alloc (aC _) _)) gc.out aj);obtain k:=_;exact k):=h
abbrev X7(h:p:=by obtain⟨A,n,cp,rfl,hn,hc,px,hr⟩:=hb;obtain k:=_;exact k):=h
abbrev ZUV(h:p:=by refine⟨.tuple #[.slice none 0 0,.bool false],ZUY,_,by rw[kg.out],by rw[HR.out,kg.out];exact⟨[],isN.none_ (own.nil_ _ _ _)⟩,oD⟩):=h
abbrev ZLp(h:p:=by
 rcases h2 with⟨h2,_⟩|⟨g',cap,bw,hv,hg,hh,hc,hm,hs,ht⟩
 .injection h2 with h2
  cases h2
 obtain k:=_;exact k):=h
abbrev ZXT(h:p:=by
 try refine' ZHP
 refine Bh (i:=6) (v:=?zv5) rfl rfl ZB ZB ZB ZB (fun _ _ _ h=>h) (aZ ⟨ZG,?zy5⟩) ZL ?zr5
 case zy5=> exact ZM
 obtain k:=_;exact k):=h
abbrev Yi(h:p:=by refine' iH;clear hr;obtain k:=_;exact k):=h
abbrev ZFP(h:p:=by obtain⟨vo,rfl,km,lI,Ao,no,og,rfl,mq,tx,rz,jv⟩:=hv;subst mq;obtain k:=_;exact k):=h
abbrev zY(h:p:=by have HO:=aA ho;obtain k:=_;exact k):=h
abbrev V0(h:p:=by injection hv with e1 _ _;subst e1;refine' eX;obtain k:=_;exact k):=h
abbrev zp(h:p:=by refine' zS;refine' ZC;obtain k:=_;exact k):=h
abbrev ZKv(h:p:=by
 have cx:(Bg.toList==[102,111,114,119,97,114,100,115])=true:=ZD
 generalize Bg=wd at *;obtain k:=_;exact k):=h
abbrev ZZJ(h:p:=by
 have k5:=kr.next aj fun r e=>.inl (.inl (by refine' YC;exact e.symm))
 have iu:=aA (HO.out.grown aj (.inr (fun e=>by have e':some go=some g:=e;injection e';omega)));obtain k:=_;exact k):=h
abbrev ZSx(h:p:=by
 go_roundw
 case rel=>exact⟨k+1,m,ZA,ZJ,ZJ,LU,ZSy,l7,ZJu⟩
 case measure=>exact ZK):=h
abbrev ZI4(h:p:=by
 refine' ZFR;go_wp2_with (go_at_call 220;refine' ZFK)
 go_ret2;exact ZW):=h
abbrev ZNY(h:p:=by
 have BU:¬q=0:=ZA
 have bv:¬p.bins=0:=ZA
 have d0:0<=r/q:=Int.ediv_nonneg fi ZA;have d1:r/q<=1000:=by have:=Int.ediv_le_self q fi;omega
 go_wp2
 obtain k:=_;exact k):=h
abbrev ZM7(h:p:=by
 obtain⟨FN,xN⟩:Hid (D9 f K (ws.take (q+1))=L)/\Hid (Bn f (ws.take (q+1))=rs++[x]):=⟨(jk.out.1 (by rw[ak.out];exact bc)).1,(jk.out.1 (by rw[ak.out];exact bc)).2⟩
 obtain k:=_;exact k):=h
abbrev ZMU(h:p:=by
 have xc:=aA hid;go_wp2_with (first|(go_at_call 94;refine(Cm _ _ o3).mono ?_;refine' V7)|(go_at_call 167;refine(D0 _ _ _ _).mono ?_;rw[xc.out];refine' zW))
 obtain k:=_;exact k):=h
abbrev ZMQ(h:p:=by
 obtain⟨m,hm,rfl,tB,HA⟩:=hrel;have GF:=tB.size;have sq:=CT.size;have hw3:w1.heap.size<wr.heap.size:=ZA
 have oW:B_ w wr:=CT.trans (tB.mono sq);obtain k:=_;exact k):=h
abbrev ZQJ(h:p:=by
 refine' ZC;go_loop[3,4] (fun t i=>∃k:Nat,k<=s.size/\i=.int .i64 k/\t=.int .i64 (Fe (s.data.toList.take k):Int)) (fun _ i=>s.size - (intOf i).toNat)
 case atStart=>exact Ug
 obtain k:=_;exact k):=h
abbrev ZQR(h:p:=by
 refine' ZC;go_loop[3,4] (fun t i=>∃k:Nat,k<=s.size/\i=.int .i64 k/\t=.int .i64 (F8 (s.data.toList.take k):Int)) (fun _ i=>s.size - (intOf i).toNat)
 case atStart=>exact Ug
 obtain k:=_;exact k):=h
abbrev ZNc(h:p:=by
 have l2:B_ w w2:=lr.trans (Ay dm.out jl lr.size);go_roundw
 case rel=>exact⟨k+1,ZA,ZJ,l2,by rw[HS.out];exact kn⟩
 case measure=>exact ZK):=h
abbrev ZPT(h:p:=by have y0:=Af ja 0 (.string x.src) rfl;have y1:=Af ja 1 (.string x.dst) rfl;refine' Sn;have je:=aA (fg.out.on lo);have na:=aA ja;clear ja;obtain k:=_;exact k):=h
abbrev ZE4(h:p:=by obtain⟨j,hj,rfl⟩:=bP hx;obtain k:=_;exact k):=h
abbrev Uu(h:p:=by
 have HE:=aA (show k=fs.length by omega)
 obtain k:=_;exact k):=h
abbrev ZUP(h:p:=by
 go_region_held3 (fun W=>B_ w W) (first|exact ld|exact l3|fail) (first|(go_at_call 88;(with_reducible refine(HC.out _ ld).mono ?_);rintro e w3 ⟨rfl,l3⟩)|fail)
 obtain k:=_;exact k):=h
abbrev ZGl(h:p:=by intro x hx;simp only[List.mem_cons,List.not_mem_nil,or_false]at hx;obtain k:=_;exact k):=h
abbrev ZEz(h:p:=by have ff:=aA (jg.out hf);have f8:=aA (io.out hf);obtain k:=_;exact k):=h
abbrev ZJc(h:p:=by refine⟨?_,bK _ _⟩;simpa [World.setCells]using h):=h
abbrev Xv(h:p:=by
 rw[fT];go_wp2
 obtain k:=_;exact k):=h
abbrev ZQB(h:p:=by
 have HE:=aA (show k=rs.length by omega)
 have HO:=aA ((HE.out▸hf:Ck _ _ _ _ rs.length _).own cn.out.symm (aC _) ZN);clear hf;have l2:=Aa l1 av;obtain k:=_;exact k):=h
abbrev ZR1(h:p:=by rw[bH,bH,aR (show 0<xs.length by omega),aR (show xs.length - 1<xs.length by omega)];obtain k:=_;exact k):=h
abbrev Yl(h:p:=by have:=pZ.out;omega):=h
abbrev ZU0(h:p:=by clear hg;have lA:=S1.out.ld R ZA P pc ZA;have lB:=S1.out.ld R ZA P c ZA;have gp:=S1.out.cmp HC.out ZA d[pc]! d[c]!;obtain k:=_;exact k):=h
abbrev ZPW(h:p:=by
 go_roundw
 case rel=>
  refine⟨k+1,ZA,ZJ,l3,fun j hj=>?_⟩;refine' Ue
  .refine' iS;rw[hG.out,H1.out,H2.out,CI.out,HD.out];rfl
 case measure=>exact ZK):=h
abbrev ZQs(h:p:=by
 refine' ZI1;go_quiet (first|(go_at_call 169;refine Da (JK.out _))|(go_at_call 167;refine Da (OM.out _))|(go_at_call 170;refine Da (HPW.out _)))
 obtain k:=_;exact k):=h
abbrev fQ(h:p:=by obtain⟨h1,h2,h3,h4,h5⟩:=h;obtain k:=_;exact k):=h
abbrev ZSa(h:p:=by
 have k9:kept2 g w1.heap.size w1 w9:=(kW.trans (kept2.below ((aF _ _).alloc wV _))).trans (kept2.below (Ay (tA.out.1.alloc _) gw ZH));clear gw yJ o9
 obtain k:=_;exact k):=h
abbrev ZKk(h:p:=by
 have cx:(Cf.toList==[108,101,116,116,101,114,115])=true:=ZD
 generalize Cf=wd at *;obtain k:=_;exact k):=h
abbrev ZUv(h:p:=by clear hg;have lA:=S1.out.ld R ZA P h ZA;have lB:=S1.out.ld R ZA P a ZA;have gp:=S1.out.cmp HC.out ZA d[h]! d[a]!;obtain k:=_;exact k):=h
abbrev ZUx(h:p:=by clear hg;have lA:=S1.out.ld R ZA P m ZA;have lB:=S1.out.ld R ZA P h ZA;have gp:=S1.out.cmp HC.out ZA d[m]! d[h]!;obtain k:=_;exact k):=h
abbrev ZRg(h:p:=by
 have P1:=aA p1;clear p1 gi
 refine' ZC;go_roundw
 case rel=>exact⟨k+1,_,ZA,ZJ,p4,ZZq⟩
 case measure=>exact ZK):=h
abbrev ZKN(h:p:=by
 have ne:∀k,k<z->some k≠row:=fun k hk e=>by rcases hr k e.symm with h|⟨h,_⟩<;>omega
 obtain k:=_;exact k):=h
abbrev ZKW(h:p:=by
 (try simp only[Exit.inBlock,Exit.then])
 refine bodyPost_ret (results_none rfl _ _ _) rfl ?_;obtain k:=_;exact k):=h
abbrev ZVQ(h:p:=by rw[show(k+1)*2=k*2+1+1 by omega];simp only[ZDW,Ltr.cells,Fwd.cells,cK,bT,World.setCells]):=h
abbrev ZXQ(h:p:=by
 refine Bh (i:=1) (v:=?zv1) rfl rfl ZB ZB ZB ZB (fun _ _ _ h=>h) (aZ ⟨ZG,?zy1⟩) ZL ?zr1
 case zy1=> exact ZM
 obtain k:=_;exact k):=h
abbrev ZNG(h:p:=by
 obtain⟨f,lN⟩:∃f:Ltr->Int,Hid (f=fun x=>Ej ms x (Dm p x.code k0)):=⟨_,rfl⟩;rw[<-lN.out];have kJ:Hid (∀x,f x=Ej ms x (Dm p x.code k0)):=fun x=>by rw[lN.out]
 rw[tr.out];obtain k:=_;exact k):=h
abbrev ZGA(h:p:=by obtain⟨i0,hi,ah,ar,ap⟩:=dD Tryz.infoInt;obtain k:=_;exact k):=h
abbrev Rw(h:p:=by
 have HE:=aA (show k=xss.length by omega)
 obtain k:=_;exact k):=h
abbrev O_(h:p:=by
 have j4:wA.heap.size=w.heap.size+1:=by rw[ae];simp
 obtain k:=_;exact k):=h
abbrev ZMq(h:p:=by refine' ZC;rw[<-kz.out];refine(ZDD _ p x.code k _ (HP.out.on ll) g1 g2 DM ZA).mono ?_;rw[<-kJ.out,ak.out];refine' ZZ8;have jx:=aA (rK.out.below B4);obtain k:=_;exact k):=h
abbrev ZKo(h:p:=by
 have cx:(Bt.toList==[102,111,114,119,97,114,100])=true:=ZD
 generalize Bt=wd at *;obtain k:=_;exact k):=h
abbrev ZJZ(h:p:=by
 have hj:j=0:=by
  cases j with
  |zero=>rfl
  |succ j=>simp at hu
 subst hj;simp at hu;subst hu;obtain k:=_;exact k):=h
abbrev Ud(h:p:=by rw[decide_eq_decide];omega):=h
abbrev Zi(h:p:=by show _<=_;omega):=h
abbrev ZLf(h:p:=by
 refine' Th;clear k0 aq k3 hr e0 e1 e2 e3 e4 e5 e6 e7 f0 f1 f2 f3 f4 f5 f6 f7
 refine' N3;obtain k:=_;exact k):=h
abbrev ZPZ(h:p:=by obtain⟨A,n,c,e1,e2,e3,e4,cj⟩:=hh;injection e1 with e1 OU xa;subst e1 OU xa;have HR:=aA cj;clear hp ho hf hv je cj e2;refine' zT;clear ac;refine' fL;obtain k:=_;exact k):=h
abbrev Y8(h:p:=by show _=_;exact ZTh):=h
abbrev ZZE(h:p:=by rw[<-Nat.succ_mul];exact ZCf _ ZA):=h
abbrev Yd(h:p:=by rw[aO]at h;obtain k:=_;exact k):=h
abbrev ZFM(h:p:=by
 have EK:IntKind.wrap .u8 (48+(d:Int))=48+(d:Int):=Uo
 obtain k:=_;exact k):=h
abbrev ZQk(h:p:=by
 .have HE:Hid (y6 xs c= -1):=by have e:=AeN (cs:=xs) (c:=c) (fun j hj=>HG.out j hj ZA);exact Ls ZA
  exact ZFO):=h
abbrev Zy(h:p:=by rintro e u1 ⟨rfl,z1⟩;obtain k:=_;exact k):=h
abbrev gX(h:p:=by rintro e u3 ⟨rfl,z3⟩;obtain k:=_;exact k):=h
abbrev Oa(h:p:=by obtain⟨Av,m,cp,rfl,mj,_,_,_⟩:=ho.rd;subst mj;obtain k:=_;exact k):=h
abbrev ZJy(h:p:=by rw[aL ZA,aL ZA];rfl):=h
abbrev ZUt(h:p:=by refine' ZUs;have tM:d1.size=d.size:=q1.1.trans lY;have S2:Aside (SWK enc k w0 blk aw d1 w1):=s1;obtain k:=_;exact k):=h
abbrev ZXc(h:p:=by obtain⟨_,_,_,_,_,_,_,_,hr⟩:=h.res;have h8:=Cj (a:=x0) (b:=x1) (c:=x2) (d:=x3) (e:=x4) (f:=x5) (h:=x6) (i:=x7) hr;have hl:w.heap.size<=w.heap.size+1:=eL _;obtain k:=_;exact k):=h
abbrev ZQN(h:p:=by
 have js:Hid (∀W:World,ya 231 #[.string c] W (.bool true)):=fun W=>by have:=Cw c W ZN;exact We
 obtain k:=_;exact k):=h
abbrev Qg(h:p:=by show _=_;rw[xO.out,HO.out];rfl):=h
abbrev ZOW(h:p:=by have kX:=aA ((bu.out.below ((aF _ _).alloc (aC _) (aB #[aH aD x.id,aG x.code] 119))).grown aj (Br fe.out));obtain k:=_;exact k):=h
abbrev YT(h:p:=by refine⟨trivial,?_⟩;obtain k:=_;exact k):=h
abbrev ZTJ(h:p:=by
 have HE:=aA (show m=x.rules.length by omega)
 have HA2:Hid (x.rules.all (I0 net)=true):=by have:=HA.out;rw[HE.out,bA]at this;exact this
 refine' ZC;obtain k:=_;exact k):=h
abbrev ZKp(h:p:=by refine' ZC;refine HR.out.mono ?_;refine' ZU;exact ZKr):=h
abbrev zf(h:p:=by
 have jj:=aA he
 obtain k:=_;exact k):=h
abbrev ZMh(h:p:=by
 clear h1
 refine' zX;exact⟨_,_,[],Bf ZX,(ca.out HF.out _).1,(ca.out HF.out _).2,⟨.inl rfl,fun k h=>absurd h (aX k)⟩,Aa HT.out l1⟩):=h
abbrev ZWH(h:p:=by
 rcases hrow.2 with⟨h0,_⟩|⟨g',cap,bw,hv,hbg,hg,DX,bf,ax,DA⟩
 .cases h0
 injection hv with e1 _ e3;injection e1 with e1;injection e1 with e1;subst e1 e3;obtain k:=_;exact k):=h
abbrev Zm(h:p:=by
 intro g cap w4 fd a6 mc sD
 obtain k:=_;exact k):=h
abbrev Qo(h:p:=by
 obtain⟨b,o,rfl,hb,_,y1,y2⟩:=HR.out.fwdU k ab
 obtain k:=_;exact k):=h
abbrev ZRf(h:p:=by obtain⟨p1,_,_⟩:=Eh (o:=.slice none 0 0) (rest:=([]:List Ltr)) ep.out (own.nil_ _ _ _) ⟨.inl rfl,fun k hk=>.inl rfl⟩ gi fm mK HU.out tt.out fd a6 mc;obtain k:=_;exact k):=h
abbrev Zw(h:p:=by rintro e u1 ⟨v1,rfl,o1,z1⟩;obtain k:=_;exact k):=h
abbrev Sh(h:p:=by obtain⟨w4,rfl⟩:∃w4:World,w4=wr:=⟨_,rfl⟩;obtain k:=_;exact k):=h
abbrev ZZ0(h:p:=by
 have l5:B_ w0 w5:=(Ae l4 (aB #[aH aD x.id,aG x.code] 119)).grown aj ZH fun q hq=>(jx.out.blk q hq).1
 obtain k:=_;exact k):=h
abbrev ZaB(h:p:=by obtain⟨AL,nL,cL,rfl, -, -, -, -⟩:=hL.rd;obtain⟨AO,nO,cO,rfl, -, -, -, -⟩:=hO.rd;obtain k:=_;exact k):=h
abbrev ZT7(h:p:=by unfold Aj;rw[gZ,show(((fun x:Y_=>x.data.toList) ∘ fun l:List UInt8=>(⟨l.toArray⟩:Y_))=id)from funext fun l=>ZF,List.map_id];obtain k:=_;exact k):=h
abbrev ZXU(h:p:=by
 refine Bh (i:=7) (v:=?zv6) rfl rfl ZB ZB ZB ZB (fun _ _ _ h=>h) (aZ ⟨ZG,?zy6⟩) ZL ?zr6
 case zy6=> exact ZM
 obtain k:=_;exact k):=h
abbrev YS(h:p:=by have HP:=aA hp;obtain k:=_;exact k):=h
abbrev ZVy(h:p:=by
 have qE:=Oy p xs k;have um:=aA qE;have HE:Hid (Gs p xs k=(Fz p xs k).map List.length):=rfl;have vC:Hid (Qm p xs k=false->Fz p xs k=[]):=fun h=>by unfold Fz;rw[h];rfl
 obtain k:=_;exact k):=h
abbrev So(h:p:=by obtain⟨y0,y1⟩:=hy.2 ZA;obtain k:=_;exact k):=h
abbrev ZRX(h:p:=by
 have dq:u2.heap[w.heap.size]? =some (.cells #[.int .i64 0,.int .i64 0,.slice none 0 0] 30 (0,0)):=by rw[rx];exact(dL _ _ _ ZA).trans LQ
 obtain k:=_;exact k):=h
abbrev Zj(h:p:=by subst hn;unfold maxLen at hm;obtain k:=_;exact k):=h
abbrev Y4(h:p:=by rintro e w2 ⟨v2,rfl,o2,b2⟩;obtain k:=_;exact k):=h
abbrev ZIY(h:p:=by
 have ld:=Ag lb;have hkc:k<=cp:=ZA
 have MU:(k:Int)<=(cp:Int):=ZA
 obtain k:=_;exact k):=h
abbrev ZKF(h:p:=by
 clear cv pO lg;have mg:=aA (ZBt 32 t);have HC:=fun W=>I9 t 32 W ht
 refine' ZC;obtain k:=_;exact k):=h
abbrev ZWU(h:p:=by have:=Dz h.plan;have h2:=h.size;unfold Fp at h2;rw[aO,bD,bD]at h2;exact ZS):=h
abbrev ZRh(h:p:=by
 go_wp2_with (go_at_call 200;refine(sG _).mono ?_;refine' zW)
 go_ret;exact⟨rfl,0,_,by rw[Go.Sort.alloc_eq_grow,Go.Sort.alloc_eq_grow,Go.Sort.grow_grow];rfl⟩):=h
abbrev ZIR(h:p:=by ·refine' zS;refine' ZI;exact⟨Al (ao.out (by rw[hG.out,H1.out];rfl)).symm,rfl⟩):=h
abbrev gJ(h:p:=by refine iW 1 ?_;obtain k:=_;exact k):=h
abbrev ZWs(h:p:=by
 go_wp2_with (first|(refine' ZWt)|(go_at_call 28;refine(HD0.out _ l4).mono ?_;rintro e w5 ⟨rfl,l5⟩))
 obtain k:=_;exact k):=h
abbrev ZFT(h:p:=by
 refine(callsIn_wide (n:=9)).1 ?_;have VM:1<=9:=ZA
 obtain k:=_;exact k):=h
abbrev ZOX(h:p:=by have pu:=aA ((jm.out.below ((aF _ _).alloc (aC _) (aB #[aH aD x.id,aG x.code] 119))).grown aj fe.out);obtain k:=_;exact k):=h
abbrev ZO6(h:p:=by
 have P1:=aA p1;clear p1 gi;go_wp2
 go_roundw
 case rel=>exact⟨k'+1+1,_,ZA,ZJ,p4,by rw[fx.out];exact P1.out⟩
 case measure=>exact ZK):=h
abbrev ZHa(h:p:=by rw[cC ZA,cC ZA];obtain k:=_;exact k):=h
abbrev ZE7(h:p:=by simp[List.intercalate,List.intersperse]):=h
abbrev ZIy(h:p:=by have w2:aD.wrap (b.toNat:Int)=(b.toNat:Int):=bG _ ZA;obtain k:=_;exact k):=h
abbrev Ql(h:p:=by refine' ZC;rw[<-HW.out];refine mS.out.mono ?_;obtain k:=_;exact k):=h
abbrev ZL8(h:p:=by have az:=bf.1;unfold maxLen at az;clear bf;obtain k:=_;exact k):=h
abbrev ZPn(h:p:=by
 refine' ZC;rw[<-bt.out];have ld:=Ag (aF wb.heap.size wb);have mh:wb.heap.size=w2.heap.size+1:=by rw[bt.out];simp
 have e0:=q0 _ ld;have e1:=q1 _ ld;obtain k:=_;exact k):=h
abbrev ZGp(h:p:=by have HD:=aA (fun W=>AaL P W);obtain k:=_;exact k):=h
abbrev ZNm(h:p:=by
 refine' V6;have HS:Hid ((xss.take (k+1)).flatten=(xss.take k).flatten++xss[k]):=by show _=_;rw[aJ ab,bX];simp
 obtain k:=_;exact k):=h
abbrev ZEt(h:p:=by rw[aJ h,ZBn];rfl):=h
abbrev ZEX(h:p:=by rw[hd,fF]at lG;have HS:=aA lG;clear lG hd;obtain k:=_;exact k):=h
abbrev ZEl(h:p:=by have BL:=aA (Aw de).1;have kz:=aA de;clear de;obtain k:=_;exact k):=h
abbrev V5(h:p:=by unfold maxLen;exact ZH):=h
abbrev ZSL(h:p:=by
 go_wp2
 go_roundw
 case rel=>exact⟨m+1,ZA,ZJ,Cx li _,by rw[HE.out];exact rK.out.below (Ba (aF _ _) _)⟩
 case measure=>exact ZK):=h
abbrev ZKC(h:p:=by refine' ZFU;go_wp2;go_ret2;exact⟨_,G9 HO.out,by rw[HR.out];exact qQ.out,LA.out⟩):=h
abbrev ZQD(h:p:=by have HB:Hid (B_ w (w.alloc (aB #[.int .i64 p.area,.int .i64 p.walk,.int .i64 p.point] 147))):=(aF _ _).alloc (aC _) _;obtain k:=_;exact k):=h
abbrev ZXA(h:p:=by
 go_enter func96,ntmps96
 go_wp2_with (first|(go_at_call 162;refine SF.out.mono ?_;refine' ZP)|(go_at_call 77;refine sg.out.mono ?_;refine' ZP))
 obtain k:=_;exact k):=h
abbrev Rg(h:p:=by rw[aY,aY];obtain k:=_;exact k):=h
abbrev Zs(h:p:=by exact Ae (aF _ _) _):=h
abbrev ZL7(h:p:=by refine' ZC;refine ZC0 rfl rfl (ZEL E2.out) underlying78 rfl Tryz.sizeRpt rfl ?_;obtain k:=_;exact k):=h
abbrev ZW2(h:p:=by
 refine' fM;have ez:=aA (o3.base_ ig.out.size);have kP:=aA (Aa ig.out b3);obtain⟨A3,n3,c3,rfl, -, -, -, -⟩:=o3.rd;clear o3 b3
 refine' ZQ;obtain k:=_;exact k):=h
abbrev gY(h:p:=by rintro e u2 ⟨rfl,z2⟩;obtain k:=_;exact k):=h
abbrev ZS6(h:p:=by refine' zR;refine' zk;refine' ZJo;have ca:=aA (fun h=>Ax6 (net:=net) (s:=s) h);rw[hr]at ca;have ak:=aA hr;obtain k:=_;exact k):=h
abbrev ZEs(h:p:=by show _=_;rw[HQ.out,h2,Bool.and_false]):=h
abbrev ZV(h:p:=by
 try refine' ZHP
 obtain k:=_;exact k):=h
abbrev ZQw(h:p:=by
 have ah:(w.alloc (aB #[aH aD p.bins,aH aD p.passes,Value.slice Ao p.order.length og] 30)).heap.size=w.heap.size+1:=ZF
 obtain k:=_;exact k):=h
abbrev ZE6(h:p:=by
 obtain⟨b,o,rfl,hb,⟨nz,nC⟩,c1,c2⟩:=HR.out.fwdU k ab
 obtain k:=_;exact k):=h
abbrev Ry(h:p:=by
 have bd:(k:Int)<(xss.length:Int):=ZA
 obtain k:=_;exact k):=h
abbrev z6(h:p:=by
 go_wp2
 go_quiet (fail)
 obtain k:=_;exact k):=h
abbrev ZTj(h:p:=by
 go_wp2
 go_loop[3] (fun i=>∃k:Nat,k<=s.size/\i=.int .i64 k/\jN (s.data.toList.take k)=true) (fun i=>s.size - (intOf i).toNat)
 case atStart=>exact Ug
 obtain k:=_;exact k):=h
abbrev ZMI(h:p:=by
 go_wp2
 go_loop[3] (fun i=>∃k:Nat,k<=s.size/\i=.int .i64 k/\Ea (s.data.toList.take k)=true) (fun i=>s.size - (intOf i).toNat)
 case atStart=>exact Ug
 obtain k:=_;exact k):=h
abbrev ZaJ(h:p:=by show _=_;rw[HS.out,HG.out,HP.out];rfl):=h
abbrev ZFj(h:p:=by ·exact(p9 _ ZA ZA).trans g8.out):=h
abbrev ZW8(h:p:=by have l7:B_ w w7:=(lr.alloc lr.size (aB #[.string s] 9)).grown ce ZH fun r e=>(HO.out.blk r e).1;have pV:=aA lM;obtain k:=_;exact k):=h
abbrev ZPP(h:p:=by unfold Ee;rw[eM];exact .inr (List.all_eq_false.2 ⟨xs[k],aS _,by simp[h]⟩)):=h
abbrev ZVe(h:p:=by refine' Zd;obtain⟨wl,de⟩:∃wl:World,wl=w3.alloc (aB #[.string x.src,.string x.dst] 128):=⟨_,rfl⟩;have y0:=Af de 0 (.string x.src) rfl;obtain k:=_;exact k):=h
abbrev ZWC(h:p:=by
 have ci:(Mf.toList==[108,101,116,116,101,114,115])=false:=ZD
 have cx:(Mf.toList==[115,111,114,116])=true:=ZD
 generalize Mf=wd at *;obtain k:=_;exact k):=h
abbrev S9(h:p:=by obtain⟨k,rfl⟩:=aK nP;obtain k:=_;exact k):=h
abbrev fO(h:p:=by rintro e w4 ⟨rfl,rfl⟩;obtain k:=_;exact k):=h
abbrev Uv(h:p:=by rw[aR hk]):=h
abbrev Us(h:p:=by obtain⟨x,hx,rfl⟩:=List.mem_map.1 hp;obtain k:=_;exact k):=h
abbrev ZGL(h:p:=by exact⟨h.os,h.tape,h.output,h.size,h.block⟩):=h
abbrev Xx(h:p:=by simp only[aO]at h;obtain k:=_;exact k):=h
abbrev ZSO(h:p:=by
 rcases h1.form with⟨a,b⟩|⟨g,c,a,b⟩
 .subst b
  exact .inl ⟨a,bW h2.symm⟩
 .rw[h2]at a b
  exact .inr ⟨g,c,a,b⟩):=h
abbrev ZUB(h:p:=by
 unfold Ek at m
 rw[B6,B6,eJ,eJ]at m;rcases m with(m|m)|m
 .have:=a1 _ m
  simp at this
 .simp at m
 .have:=a2 _ m
  simp at this):=h
abbrev ZYd(h:p:=by
 have e1:=q1 _ kU;have e2:=q2 _ kU;have e3:=q3 _ kU;have f1:=kU.frozenS 1;have f2:=kU.frozenS 2;have f3:=kU.frozenS 3;obtain⟨d0,d1,d2,_,_,_⟩:=B7 lR
 obtain k:=_;exact k):=h
abbrev ZNO(h:p:=by show _=_;rw[HQ.out,show decide (k<p.passes)=decide (k<=p.passes - 1) by exact Ud,h2,H1.out.1,H1.out.2];rfl):=h
abbrev ZOh(h:p:=by have pC:own (α:=Y_) 9 w.heap.size (w.alloc (aB #[] 9)) (.slice (P_ w.heap.size) 0 0) []:=own.made0 w _ (aC _);obtain k:=_;exact k):=h
abbrev ZFv(h:p:=by have mn:=(b3.block w.heap.size ZA).trans dq;obtain k:=_;exact k):=h
abbrev ZJ1(h:p:=by first|exact iu.out|(have h:=iu.out;rw[AT]at h;exact h)):=h
abbrev ZGW(h:p:=by have t22:P.underlying 27=some (TypeDesc.slice 119):=L.t22;obtain k:=_;exact k):=h
abbrev ZLu(h:p:=by refine' ZQ;exact⟨_,As5 (by rw[HF.out]),ZJx,Ae l0 _⟩):=h
abbrev ZKw(h:p:=by
 have cx:(Dk.toList==[115,105,122,101])=true:=ZD
 generalize Dk=wd at *;obtain k:=_;exact k):=h
abbrev ZJ7(h:p:=by refine' Wd;simp):=h
abbrev Rz(h:p:=by have nl:w0.heap.size<=w4.heap.size:=l4.size;obtain k:=_;exact k):=h
abbrev ZHs(h:p:=by ·refine' zS;refine' ZI;exact⟨Al (by rw[HQ.out,H1.out];rfl),Aa HT.out l1⟩):=h
abbrev ZN6(h:p:=by have pC:own (α:=Ltr) 119 w.heap.size (w.alloc (aB #[] 119)) (.slice (P_ w.heap.size) 0 0) []:=own.made0 w _ (aC _);obtain k:=_;exact k):=h
abbrev Sg(h:p:=by
 have HE:=aA (show k=net.length by omega)
 obtain k:=_;exact k):=h
abbrev ZIv(h:p:=by
 have cx:(He.toList==[99,111,100,101])=true:=ZD
 generalize He=wd at *;obtain k:=_;exact k):=h
abbrev ZKn(h:p:=by
 have cx:(C4.toList==[115,116,97,121])=true:=ZD
 generalize C4=wd at *;obtain k:=_;exact k):=h
abbrev ZKt(h:p:=by
 have cx:(C0.toList==[115,119,97,112])=true:=ZD
 generalize C0=wd at *;obtain k:=_;exact k):=h
abbrev ZGv(h:p:=by show w.heap.size<wB.heap.size;omega):=h
abbrev ZLc(h:p:=by
 have cx:(Fl.toList==[112,97,116,104])=true:=ZD
 generalize Fl=wd at *;obtain k:=_;exact k):=h
abbrev ZHL(h:p:=by have:=(HH.out.blk _ e.symm).1;omega):=h
abbrev ZHA(h:p:=by refine Bk (rs:=[9]) ZB ZF ?_;refine' Yz;obtain k:=_;exact k):=h
abbrev ZZx(h:p:=by
 have pV:=aA lM;go_roundw
 case rel=>exact⟨k+1,ZA,ZJ,by rw[xo.out],l7,ZJu⟩
 case measure=>exact ZK):=h
abbrev ZFk(h:p:=by ·exact(p9 _ ZA ZA).trans ia.out):=h
abbrev ZTN(h:p:=by refine' Ph;refine' Yg;have FP:=Hm rs c k;obtain⟨q,hq⟩:∃q,Ie rs c k=q:=⟨_,rfl⟩;rw[hq]at FP;have HQ:=aA hq;rw[HQ.out];clear hq;obtain k:=_;exact k):=h
abbrev gL(h:p:=by have d9:=aA ag;obtain k:=_;exact k):=h
abbrev ZVY(h:p:=by
 have ca:Hid (∀h:Re f xs=false,Kw f xs=[]/\Ts f xs=[]):=fun h=>by unfold Kw Ts;rw[h];exact ZW
 have HQ:Hid (Re f xs=(z_ xs&&Jr f)):=rfl;refine' Zl;obtain k:=_;exact k):=h
abbrev ZHf(h:p:=by obtain⟨A,n,c,rfl,qL,hc,hm,hr⟩:=hv;subst qL;unfold maxLen at hm;refine' Yi;obtain k:=_;exact k):=h
abbrev ZXN(h:p:=by
 go_wp2_with (go_at_call 167;first|(refine' ZLK;refine' ZP)|((with_reducible refine(tN.out _).mono ?_);refine' ZP))
 obtain k:=_;exact k):=h
abbrev ZPz(h:p:=by
 by_cases fp:k=0
 .subst fp
  rw[ZA6 h0];exact hp 0 h0
 .rw[ZEN ZA ZA,aY]
  have:=hp k ZA;omega):=h
abbrev ZOU(h:p:=by
 refine' ZC;go_roundw
 case rel=>exact⟨j+1,ZA,ZJ,by first|(rw[HG.out])|trivial,ZL9⟩
 case measure=>exact ZK):=h
abbrev ZM6(h:p:=by
 have xp:(q:Int)<(ws.length:Int):=ZA
 obtain⟨vg,vi⟩:=xr.out x;obtain⟨r,ak⟩:∃r,Hid (f x=r):=⟨_,rfl⟩;rw[ak.out]at vg vi
 obtain k:=_;exact k):=h
abbrev ZIt(h:p:=by unfold Ap at hc;rw[aO]at hc;exact hc.2):=h
abbrev ZFn(h:p:=by refine' ZFa;have c2:=hv.cell;clear da bp ho hv y0 y1;obtain k:=_;exact k):=h
abbrev ZWa(h:p:=by have:bs=45:=UInt8.toNat_inj.1 (by show bs.toNat=45;omega);rw[this]at sQ;exact absurd sQ ZE):=h
abbrev ZWT(h:p:=by
 rw[bU];cases hb:a.data.toList==b.data.toList
 .rfl
 .exact absurd (Cv (eq_of_beq hb)) h):=h
abbrev ZNC(h:p:=by
 have QL:Hid (Ew p xs (k:Int) ms=Bm (fun x=>Ej ms x (Dm p x.code k)) p.bins.toNat (Cd p 0 k xs)):=by show _=_;unfold Ew fpF;rw[bE]
 obtain k:=_;exact k):=h
abbrev ZOw(h:p:=by obtain⟨z1,z2,z3,z4,z5⟩:=ku.out;exact⟨ZA,z3 d ZA jh,z5 d ZA⟩):=h
abbrev ZQf(h:p:=by
 have cx:(Gn.toList==[98,97,114,115])=true:=ZD
 generalize Gn=wd at *;obtain k:=_;exact k):=h
abbrev ZJJ(h:p:=by obtain⟨q0,q1,q2,_,_,_⟩:=B7 br;have kO:=aA j5;have ga:=aA br;obtain k:=_;exact k):=h
abbrev ZKM(h:p:=by have:=aU List.length e;rw[bJ,cT]at this;omega):=h
abbrev ZSl(h:p:=by
 have vZ:¬(p.size:Int)<(x.src.size:Int):=ZA
 have HP:Hid (Iz p x=false):=by show _=_;rw[xu.out,aP bp];rfl
 refine' ZC;obtain k:=_;exact k):=h
abbrev ZYX(h:p:=by
 have:=(ZCB _ s.day.plan (Am a) (Am b) W (pU.on hW)).mono fun e w' h=>h.out
 rw[BA,ho]at this;exact this):=h
abbrev V1(h:p:=by refine' zo;omega):=h
abbrev Uq(h:p:=by rw[cn.out];omega):=h
abbrev X0(h:p:=by subst xi;go_simp):=h
abbrev ZTa(h:p:=by generalize net[i]=x at *;have HU:=aA hu;obtain⟨N,hN⟩:∃N,Iv x.rules c=N:=⟨_,rfl⟩;obtain⟨S,hS⟩:∃S,Gw x.rules c=S:=⟨_,rfl⟩;obtain k:=_;exact k):=h
abbrev Rc(h:p:=by have nl:w.heap.size<=w4.heap.size:=l4.size;obtain k:=_;exact k):=h
abbrev ZIx(h:p:=by
 ((with_reducible refine(H2.out _).mono ?_);refine' ZP)
 obtain k:=_;exact k):=h
abbrev ZW6(h:p:=by exact⟨_,_,Bf ZX,by rw[(ca.out HF.out).1];exact O1.out,by rw[(ca.out HF.out).2];simpa using O2.out,Aa HT.out (Ae (Ae l1 _) _)⟩):=h
abbrev ZHN(h:p:=by have sZ:=aA (Vo HG.out b5);have ex:=ik.below b5;obtain k:=_;exact k):=h
abbrev ZRR(h:p:=by have bv:=(b1.block w.heap.size ZA).trans ml;have mF:B_ w w1:=LN.trans (b1.mono ZA);have ar:=b1.size;obtain k:=_;exact k):=h
abbrev ZQ2(h:p:=by
 have sj:d.data.toList.length=d.size:=ZF
 have h3:10^d.data.toList.length<=10^17:=gH ZE ZA;obtain k:=_;exact k):=h
abbrev ZYm(h:p:=by
 have fc:=k1.drew
 refine' ZYw;all_goals
  refine' Th;clear k1 fc k3 hr e0 e1 e2 e3 e4 e5 e6 e7 f0 f1 f2 f3 f4 f5 f6 f7
  refine' N3;exact W6):=h
abbrev ZJE(h:p:=by exact Bd o5 ⟨w.heap.size+1+1,0,none⟩ _ (by show w.heap.size+1+1<_;omega)):=h
abbrev YD(h:p:=by have om:=aA bg;obtain k:=_;exact k):=h
abbrev ZIV(h:p:=by refine' ZO;exact⟨Al (ao.out (by rw[hG.out,H1.out];rfl)).symm,Ba lo _⟩):=h
abbrev ZIj(h:p:=by obtain⟨u0,g0⟩:=kc.cell (j:=k) (by show _<_*1;omega);have f0:=kc.free k;obtain k:=_;exact k):=h
abbrev ZJr(h:p:=by rw[aY,dB];omega):=h
abbrev ZLO(h:p:=by
 have cx:(Es.toList==[110,101,116])=true:=ZD
 generalize Es=wd at *;obtain k:=_;exact k):=h
abbrev ZH1(h:p:=by show _=_;rw[HQ.out,h2,H1.out];rfl):=h
abbrev ZHC(h:p:=by refine Bk (rs:=[4]) ZB ZF ?_;refine' Yz;obtain k:=_;exact k):=h
abbrev ZVZ(h:p:=by
 refine' zN;have HF:Hid (Re f xs=true):=ZEj
 have HY:Hid (Kw f xs=jI f xs/\Ts f xs=jJ f xs):=by unfold Kw Ts;rw[HF.out];exact ZW
 clear HB
 obtain k:=_;exact k):=h
abbrev ZOP(h:p:=by refine(C6 _ xs _ (HB.out.on lz)).mono ?_;refine' zK;have l2:=Aa lz b2;replace OA:=aA (OA.out.below b2);replace OB:=aA (OB.out.below b2);obtain k:=_;exact k):=h
abbrev YR(h:p:=by generalize fs[k]=x at *;obtain k:=_;exact k):=h
abbrev ZTe(h:p:=by
 rw[Tl]at lQ;have HE:Hid (Ht net c s=Fc net c f (p++[i]) j):=by show _=_;rw[HG.out,AoN AQ.out e1]
 have xj:=aA (ZDE ou.out AQ.out hj);obtain k:=_;exact k):=h
abbrev ZGy(h:p:=by
 go_wp2_with (refine' ZG0)
 have K:=aA k1.lay;go_ret;obtain k:=_;exact k):=h
abbrev ZQO(h:p:=by
 have g1:(3:Int)<=(c.size:Int):=ZA
 have g2:(5:Int)<=(c.size:Int):=ZA
 refine' ZGY;generalize G0 c=p at *;clear hc h7 jb hx;obtain k:=_;exact k):=h
abbrev ZMC(h:p:=by
 have ah:w0.heap.size=w.heap.size+1:=by subst ac;simp
 obtain k:=_;exact k):=h
abbrev US(h:p:=by first|exact ld):=h
abbrev ZYa(h:p:=by
 (go_at_call 93;first|((with_reducible refine(uo.out _).mono ?_);refine' ZP)|((with_reducible refine(EV.out _).mono ?_);refine' ZP)|fail)
 obtain k:=_;exact k):=h
abbrev ZEb(h:p:=by
 have wW:m=k:=ZA
 have HE:=aA wW;go_wp2
 obtain k:=_;exact k):=h
abbrev ZLS(h:p:=by refine Ax rfl rfl (HF.out.fin rfl) gK rfl Tryz.sizeSt rfl ?_;obtain k:=_;exact k):=h
abbrev ZVR(h:p:=by rw[e];exact⟨h2,ZAS (Gc (p:=⟨g,k*2+1,none⟩) (Gc (p:=⟨g,k*2,none⟩) (bK w (some g)) (.inl rfl) _) (.inl rfl) _) h3⟩):=h
abbrev ZJh(h:p:=by unfold Ee at h;rw[aO,bD,dU]at h;obtain k:=_;exact k):=h
abbrev ZZF(h:p:=by
 by_cases hk:k<xs.length
 .rw[bZ hk,bZ ZA]
  exact Flat.free (he k hk ZA)
 obtain k:=_;exact k):=h
abbrev ZTC(h:p:=by
 obtain⟨A2',n2',pL,e2,_,_,kh,fh⟩:=HU.out;injection e2 with e21 e22 e23;subst e21 e22 e23;have HUR:=aA fh;clear fh
 refine' ZC;obtain k:=_;exact k):=h
abbrev ZaK(h:p:=by show _=_;rw[<-ff.out];exact hq):=h
abbrev ZSr(h:p:=by have xT:=aA (AgY net s (g+1) p k);obtain⟨zs,gu⟩:∃zs,jH net s (g+1) p k=zs:=⟨_,rfl⟩;rw[gu]at ho xT;have HZ:=aA gu;obtain k:=_;exact k):=h
abbrev Zb(h:p:=by rintro e w3 ⟨rfl,rfl⟩;obtain k:=_;exact k):=h
abbrev ZJB(h:p:=by
 (refine' Wc;have c2:=z2.cell;have o2:=p8.out.below hb;have jd:=hb.size)
 obtain k:=_;exact k):=h
abbrev ZSN(h:p:=by
 .go_wp2
  go_roundw
  case rel=>exact⟨k+1,ZA,ZJ,by rw[kV.out];congr 1;omega,li,lX.out⟩
  case measure=>exact ZK):=h
abbrev ZHi(h:p:=by
 obtain⟨AO,mO,cO,rfl,qm,_,_,_⟩:=hB.1.rd
 subst qm;obtain k:=_;exact k):=h
abbrev ZFB(h:p:=by have y1:=y1 w2 (Aa l1 av);have y2:=y2 w2 (Aa l1 av);obtain k:=_;exact k):=h
abbrev ZR3(h:p:=by
 have GP:aD.wrap ((xs.length:Int) - 1)=(m:Int):=Z8
 have sk:=aA c1;have lJ:=aA c2;clear hr ag h0 c1 c2 qq;obtain k:=_;exact k):=h
abbrev V_(h:p:=by have k1:=k0.below z1;have ah:=k0.lt;obtain k:=_;exact k):=h
abbrev ZIT(h:p:=by exact⟨0,aN _,rfl,l0,fun j hj=>absurd hj (aX j)⟩):=h
abbrev ZJm(h:p:=by
 rw[fP ZA,fP ZA]
 obtain k:=_;exact k):=h
abbrev ZHZ(h:p:=by have hh:=h1;rw[aO]at hh;obtain⟨g1,g2,g3,g4,g5⟩:=Dz hh.1;obtain k:=_;exact k):=h
abbrev ZY4(h:p:=by obtain⟨KO,hO⟩:∃O,Qr ans 0 ⟨#[]⟩ ls=O:=⟨_,rfl⟩;have DY:Hid (Qr ans 0 (Sv ans ls 0) (ls.drop 0)=KO):=hO;rw[hO];clear hO;obtain k:=_;exact k):=h
abbrev Qa(h:p:=by first|exact k1|exact ld):=h
abbrev ZT5(h:p:=by
 obtain⟨j,h1,rfl⟩:∃j:Nat,Lib.indexByte s c=(j:Int)/\i=j+1:=by
  split at h
  .omega
  .exact⟨i - 1,ZA,ZA⟩
 obtain k:=_;exact k):=h
abbrev Si(h:p:=by rw[HF.out];exact HO.out):=h
abbrev ZOQ(h:p:=by refine' zX;exact⟨_,_,Bf ZX,ZON,ZOO,lp.out,l2⟩):=h
abbrev ZGs(h:p:=by
 go_at_call 167;refine(rj.out _).mono ?_;refine' ZP
 obtain k:=_;exact k):=h
abbrev ZNN(h:p:=by show _=_;rw[HQ.out,show decide (k<p.passes)=decide (k<=p.passes - 1) by exact Ud,h2];simp):=h
abbrev ZP6(h:p:=by
 have HE:=aA (show k=rs.length by omega)
 have ui:Hid (Jb rs k=Jb rs rs.length):=by show _=_;rw[HE.out]
 generalize Jb rs k=P at *;obtain k:=_;exact k):=h
abbrev ZYz(h:p:=by refine' ZYx;generalize Aj 32 r=ps at *;subst hn;have dy:decide ((ps.length:Int)<0)=false:=aP ZA;refine' Vy;obtain k:=_;exact k):=h
abbrev ZIa(h:p:=by rw[HQ.out,H1.out,H2.out]<;>rfl):=h
abbrev ZVw(h:p:=by
 (go_at_call 144;(with_reducible refine(HC.out _ _ B1.out O1.out).mono ?_);rintro e w2 h2;refine' g_;obtain⟨rfl,_⟩:=h2)
 obtain k:=_;exact k):=h
abbrev ZaG(h:p:=by
 have ci:(Bg.toList==[108,101,116,116,101,114,115])=false:=ZD
 obtain k:=_;exact k):=h
abbrev ZYO(h:p:=by
 refine' ZYS;have js:Hid (∀W:World,ya 94 #[.string f] W (.bool true)):=fun W=>ZYT
 obtain k:=_;exact k):=h
abbrev Wu(h:p:=by obtain⟨k,hk,rfl,lr,ho⟩:=hrel;obtain k:=_;exact k):=h
abbrev ZG7(h:p:=by have dj:Hid (Em (⟨#[]⟩)=⟨#[110,111,10]⟩):=Jw;obtain k:=_;exact k):=h
abbrev ZUN(h:p:=by
 have i7:=zed rs;obtain⟨F,hF⟩:∃F,Jj rs=F:=⟨_,rfl⟩;have kJ:Hid (Ia ⟨nm,rs⟩=nm++⟨#[32]⟩++F):=by show _=_;rw[<-hF];rfl
 obtain k:=_;exact k):=h
abbrev ZRK(h:p:=by obtain⟨bi,rfl⟩:=aK (show 0<=bi by omega);obtain⟨pa,rfl⟩:=aK (show 0<=pa by omega);obtain k:=_;exact k):=h
abbrev ZXg(h:p:=by
 refine' YE;have a2:¬9223372036854775807<F.size+1+G.size:=ZA
 have a3:¬9223372036854775807<F.size+1+G.size+1:=ZA
 obtain k:=_;exact k):=h
abbrev ZMN(h:p:=by
 obtain⟨b,o,rfl,hb,⟨⟨o1,o2⟩,o3⟩,c1,c2⟩:=HR.out.ltr k ab
 have hG:=aA (AaP ab);have ao:=aA (fun h=>AtL ab h);obtain k:=_;exact k):=h
abbrev ZZ9(h:p:=by
 have ci:(Es.toList==[108,101,116,116,101,114,115])=false:=ZD
 obtain k:=_;exact k):=h
abbrev ZKl(h:p:=by refine' zJ;obtain⟨vL,_,_,_,_,⟨c0,_,_,_,_,_,_,_⟩,_,hL,_⟩:=Ca hD;obtain k:=_;exact k):=h
abbrev ZRT(h:p:=by have z0:=ut.out _ (aS (show 0<ps.length by omega));have z1:=ut.out _ (aS (show 1<ps.length by omega));obtain k:=_;exact k):=h
abbrev ZRl(h:p:=by
 have ci:(Gd.toList==[108,101,116,116,101,114,115])=false:=ZD
 have dh:(Gd.toList==[115,111,114,116])=false:=ZD
 obtain k:=_;exact k):=h
abbrev ZR6(h:p:=by
 have ci:(Db.toList==[108,101,116,116,101,114,115])=false:=ZD
 have dh:(Db.toList==[115,111,114,116])=false:=ZD
 obtain k:=_;exact k):=h
abbrev ZSA(h:p:=by
 have ci:(Dq.toList==[108,101,116,116,101,114,115])=false:=ZD
 have dh:(Dq.toList==[115,111,114,116])=false:=ZD
 obtain k:=_;exact k):=h
abbrev ZSC(h:p:=by
 have ci:(G3.toList==[108,101,116,116,101,114,115])=false:=ZD
 have dh:(G3.toList==[115,111,114,116])=false:=ZD
 obtain k:=_;exact k):=h
abbrev ZVk(h:p:=by
 have ci:(Dx.toList==[108,101,116,116,101,114,115])=false:=ZD
 have dh:(Dx.toList==[115,111,114,116])=false:=ZD
 obtain k:=_;exact k):=h
abbrev ZWL(h:p:=by
 have ci:(Fm.toList==[108,101,116,116,101,114,115])=false:=ZD
 have dh:(Fm.toList==[115,111,114,116])=false:=ZD
 obtain k:=_;exact k):=h
abbrev Z0(h:p:=by refine' ZLd;clear hS hf x0;obtain k:=_;exact k):=h
abbrev ZRx(h:p:=by have:=(h.blk k hk).2;show(w.heap++os)[k]? =w.heap[k]?;rw[ZCI this]):=h
abbrev ZFh(h:p:=by rw[h1]at hj;injection hj with hj;rw[<-hj];exact h2):=h
abbrev ZUA(h:p:=by obtain⟨k,hk,rfl⟩:=bP hr;obtain⟨h1,h2,_⟩:=(Ev.1 h).2 k hk;have a1:=Iw (AbX.1 h1).1;have a2:=AgS (Kb.1 h2).1;obtain k:=_;exact k):=h
abbrev ZOD(h:p:=by
 obtain⟨y,hy⟩:∃y:Ltr,y=⟨x.id,to⟩:=⟨_,rfl⟩;have mf:x.id=y.id:=by rw[hy]
 have pJ:to=y.code:=by rw[hy]
 rw[<-hy]at ff;obtain k:=_;exact k):=h
abbrev ZZQ(h:p:=by clear HC ct hp;refine' ZKy;have l2:=Aa b1 b2;have y0:w2.cell? ⟨w1.heap.size,0,none⟩=some (.string f):=Bx o2 0 ZF;obtain k:=_;exact k):=h
abbrev ZH6(h:p:=by rw[bH,aR ZA];obtain k:=_;exact k):=h
abbrev ZI7(h:p:=by exact((aF _ w).alloc (aC _) _).alloc ZF _):=h
abbrev Wx(h:p:=by simp at hj;omega):=h
abbrev ZXC(h:p:=by
 go_at_call 77;first|((with_reducible refine FD.out.mono ?_);refine' ZP)|((with_reducible refine ta.out.mono ?_);refine' ZP)
 obtain k:=_;exact k):=h
abbrev ZU6(h:p:=by have T1:Aside (Tg n 20 d1):=(T0.out).perm 0 ZA ZA ZA ZE p1 (by rw[HN.out];omega);obtain k:=_;exact k):=h
abbrev ZEh(h:p:=by refine' ZI;exact⟨Al HF.out.symm,Aa HT.out l1⟩):=h
abbrev ZPs(h:p:=by rw[bU,Bool.eq_false_iff,Ne,List.isEmpty_iff_length_eq_zero];exact zI):=h
abbrev ZLD(h:p:=by rw[ae];exact own.made0 w _ (aC _)):=h
abbrev ZMr(h:p:=by
 have pw:(zs++rs).length<=60:=by refine' fH;exact zt
 generalize NS:zs++rs=zr at *;have BY:=aA NS;clear NS;obtain k:=_;exact k):=h
abbrev ZZM(h:p:=by rw[h0]at hc;refine' ZLt;rcases he with he|he<;>rw[<-hc]at he<;>exact absurd he ZE):=h
abbrev ZRF(h:p:=by refine⟨.tuple #[.slice none 0 0,.bool false],ZRG,_,Ub,ZME,oD⟩):=h
abbrev ZT0(h:p:=by refine⟨.tuple #[.slice none 0 0,.bool false],ZT1,_,Ub,ZME,oD⟩):=h
abbrev ZHY(h:p:=by
 have qo:(y.id==x.id)=false:=by simpa using kY
 have HY:=aA kY;obtain k:=_;exact k):=h
abbrev ZNv(h:p:=by obtain⟨b,o,cs,hA,hb,⟨hi,rfl⟩,hc⟩:=h k hk;exact⟨b,o,hA,hb,hi,Rn⟩):=h
abbrev U8(h:p:=by refine' ze;omega):=h
abbrev ZUk(h:p:=by
 have ne1:row≠some (w.heap.size+1):=fun e=>by have:=hr _ e;omega
 have ne0:row≠some w.heap.size:=fun e=>by have:=hr _ e;omega
 obtain k:=_;exact k):=h
abbrev ZZo(h:p:=by
 have tt:=aA gu;rw[<-gu]at df pw;clear gu;obtain⟨u,hu⟩:∃u,u=vs[d]:=⟨_,rfl⟩;have HU:=aA hu;refine' ZL4
 obtain k:=_;exact k):=h
abbrev ZVi(h:p:=by
 clear j7;go_enter func145,ntmps145
 refine' X5;refine' ZC;refine(HI.out _ b1).mono ?_;refine' zK;have l2:=Aa b1 b2
 obtain k:=_;exact k):=h
abbrev zm(h:p:=by refine' fS;clear hr;obtain k:=_;exact k):=h
abbrev Zx(h:p:=by refine' ZC;rw[<-au.out];obtain k:=_;exact k):=h
abbrev ZRp(h:p:=by
 have ci:(F4.toList==[108,101,116,116,101,114,115])=false:=ZD
 have dh:(F4.toList==[115,111,114,116])=false:=ZD
 obtain k:=_;exact k):=h
abbrev ZRs(h:p:=by
 have ci:(Ef.toList==[108,101,116,116,101,114,115])=false:=ZD
 have dh:(Ef.toList==[115,111,114,116])=false:=ZD
 obtain k:=_;exact k):=h
abbrev ZGV(h:p:=by have mixed:=L.mixed;have t3:P.underlying 3=_:=L.t3;obtain k:=_;exact k):=h
abbrev PC(h:p:=by obtain⟨A,n,c,rfl, -, -, -, -⟩:=o1.rd;obtain k:=_;exact k):=h
abbrev ZJK(h:p:=by refine' ZU;have bv:=E3 ga.out b1;refine' ZFs;obtain k:=_;exact k):=h
abbrev ZQ9(h:p:=by refine⟨.tuple #[.slice none 0 0,.bool false],ZRA,_,Ub,ZME,oD⟩):=h
abbrev ZTg(h:p:=by
 have l5:B_ w w5:=(Ae lr (aB #[aG d] 9)).grown aj ZH fun q hq=>(HO.out.blk q hq).1
 obtain k:=_;exact k):=h
abbrev ZXl(h:p:=by exact⟨_,_,Bf ZX,by rw[(ca.out HF.out).1];exact o1.out,by rw[(ca.out HF.out).2];exact o2.out,lp.out,l1.out⟩):=h
abbrev ZHD(h:p:=by refine' YC;simp at e):=h
abbrev ZYg(h:p:=by
 refine' Th;have kP:=aA l3;clear k2 fc k3 l2 l3 hr e0 e1 e2 e3 e4 e5 e6 e7 f0 f1 f2 f3 f4 f5 f6 f7 g0 g1 g2
 refine' N3;obtain k:=_;exact k):=h
abbrev ZIZ(h:p:=by exact⟨Al (ao.out (by rw[hG.out,CI.out,HD.out];simp)).symm,l3⟩):=h
abbrev Wg(h:p:=by obtain⟨k,hk,rfl,rfl⟩:=hrel;obtain k:=_;exact k):=h
abbrev ZHX(h:p:=by
 have qo:(y.id==x.id)=true:=by simpa using kY
 have HY:=aA kY;obtain k:=_;exact k):=h
abbrev ZLq(h:p:=by
 injection hv with e1 e2 e3
 injection e1 with e1;injection e1 with e1;obtain k:=_;exact k):=h
abbrev ZVv(h:p:=by
 (with_reducible refine HR.out.mono ?_);refine' Ye;have B1:=aA b1;have O1:=aA (o1.base_ hB);refine' X3;clear b1 o1
 obtain k:=_;exact k):=h
abbrev ZTT(h:p:=by
 .have HE:Hid (Iv rs c=q):=by show _=_;rw[<-HQ.out,show k=rs.length by omega];rfl
  refine' ZI;exact⟨Bo HE.out.symm,lr⟩):=h
abbrev ZMF(h:p:=by unfold Mk;exact ZH):=h
abbrev ZWu(h:p:=by
 have qe:=aA hr;rw[hr]at js
 go_wp2_with (go_at_call 184;refine' iB)
 go_ret2;exact⟨by rw[HT.out,qe.out]<;>rfl,lr⟩):=h
abbrev ZUq(h:p:=by
 .obtain⟨t,rfl⟩:∃t,x=m - i+t:=⟨x - (m - i),ZA⟩
  rw[s3 t ZA];exact(h5 t ZA).symm):=h
abbrev ZQu(h:p:=by refine' ZF9;have pL:w1.cell? ⟨b,o+k*2+1,none⟩=some (.int .i64 x.bin):=(av.cell (p:=⟨b,o+k*2+1,none⟩) hb).trans c2;obtain k:=_;exact k):=h
abbrev ZZh(h:p:=by
 have z0:Boxed W2 _ _ _:=(hb.block _ g8.out.lt).trans g8.out;have z1:Boxed W2 _ _ _:=(hb.block _ ia.out.lt).trans ia.out
 obtain k:=_;exact k):=h
abbrev ZHh(h:p:=by obtain⟨k,vs,hk,rfl,lr,hB⟩:=hrel;refine' YB;have HB:=aA hB;obtain k:=_;exact k):=h
abbrev ZUS(h:p:=by refine' YT;gi_at_call 223;refine(CallsIn.inRound l (callsIn_wide.2 (HPQ.out W2))).mono ?_;rintro e W3 ⟨vq,rfl,AP,mn⟩;obtain k:=_;exact k):=h
abbrev ZRe(h:p:=by
 have XG:(dd:Int)<(x.code.size:Int):=ZA
 clear bv hd;have nT:w0.heap.size<=G:=eS DW.out
 refine' ZC;obtain k:=_;exact k):=h
abbrev ZS9(h:p:=by
 clear he;go_wp2
 go_roundw
 case rel=>exact⟨k+1,ZA,ZJ,Ae lr _,HX.out jj.out⟩
 case measure=>exact ZK):=h
abbrev ZGK(h:p:=by rw[HE.out]<;>rfl):=h
abbrev Tp(h:p:=by rw[HO.out]<;>rfl):=h
abbrev ZIf(h:p:=by show _=_;rw[HF.out,<-ui.out,aQ hz]):=h
abbrev ZIh(h:p:=by show _=_;rw[HF.out,<-ui.out,aM hz]):=h
abbrev Qe(h:p:=by rw[HR.out];exact zj):=h
abbrev YQ(h:p:=by
 refine .inr fun e=>?_
 obtain k:=_;exact k):=h
abbrev zV(h:p:=by simpa using this):=h
abbrev ZXI(h:p:=by
 have lB:B_ w wB:=by rw[ai];exact lA.alloc lA.size _
 refine' ZZ7;refine' d_;have bt:=aA ai;obtain k:=_;exact k):=h
abbrev ZJG(h:p:=by rintro D ys W hD rfl ⟨⟨v,hv,ho⟩,yk,da,bp,y0,y1,hB⟩ hK;obtain k:=_;exact k):=h
abbrev ZUz(h:p:=by refine⟨ZA,ZA,ZA,ZA,ZA,fun c h1 h2=>⟨ZA,ZA⟩⟩):=h
abbrev Od(h:p:=by
 go_enter func89,ntmps89
 obtain k:=_;exact k):=h
abbrev ZIz(h:p:=by
 refine⟨k+1,ZA,ZJ,fun j hj=>?_⟩;refine' Ue
 obtain k:=_;exact k):=h
abbrev ZVP(h:p:=by have h:=hk x;rw[ZDW,ZDy ZA];rfl):=h
abbrev ZZU(h:p:=by have R4:=aA o4.rd;obtain⟨A4,m4,c4,t8,PY,_,_,_⟩:=o4.rd;subst PY t8;refine' ZLv;obtain k:=_;exact k):=h
abbrev ZWq(h:p:=by
 generalize G6 k=X at *;clear hq
 refine' ZC;refine HB.mono ?_;refine' YP;have l4:=lr.trans (b4.mono lr.size);clear HB b4
 obtain k:=_;exact k):=h
abbrev ZRJ(h:p:=by
 have sP:Hid (∀W,B_ w W->R_ W (.slice A p.order.length c) p.order):=fun W hW=>ZW3
 obtain k:=_;exact k):=h
abbrev ZGB(h:p:=by rw[El.len lx,iT]):=h
abbrev ZTY(h:p:=by refine' YB;have pD:=ou.out.2.2.1;have uY:p.length<=net.length:=ZDL _ _ ou.out.1 ou.out.2.1;have j7:=ou.out.2.2.2;obtain k:=_;exact k):=h
abbrev Rj(h:p:=by obtain⟨A,n',c',hv,_,_,_,nU⟩:=h.rd;obtain k:=_;exact k):=h
abbrev ZGU(h:p:=by rw[aM ZA,aM ZA];obtain k:=_;exact k):=h
abbrev ZL1(h:p:=by obtain⟨r0,r1,r2,r3⟩:=AqF z0 z1 (.slice none 0 0) (.bool false);obtain k:=_;exact k):=h
abbrev ZEy(h:p:=by refine' ZZ8;have jm:=aA (HA.out.below B4);obtain k:=_;exact k):=h
abbrev eN(h:p:=by refine' zR;refine' Tu;obtain k:=_;exact k):=h
abbrev ZRj(h:p:=by obtain⟨y,hy,rfl⟩:=List.mem_map.1 hp;exact Aq1 (AeF h y hy).2.2 (.inl rfl)):=h
abbrev Nj(h:p:=by have m0:=duo.madeR ae ai;refine' ZZ6;obtain k:=_;exact k):=h
abbrev ZRn(h:p:=by refine' zJ;obtain⟨vL,vO,_,_,_,⟨c0,_,_,_,_,_,_,_⟩,_,hL,hO,_⟩:=Ca hD;obtain⟨AL,nL,cL,rfl, -, -, -, -⟩:=hL.rd;obtain k:=_;exact k):=h
abbrev ZUp(h:p:=by
 rcases gG i L.size with h'|h'
 .simp[h']at h0 h1
  rw[h0]at h1;cases h1
 .simp[Array.getElem?_eq_none h']at h1):=h
abbrev ZPK(h:p:=by refine' Qw;subst hn;unfold maxLen at hm ax;refine' Yi;refine' zk;have HF:Hid (Bc fs c=Gb fs (fs.length+1) c 0):=rfl;obtain k:=_;exact k):=h
abbrev ZQz(h:p:=by refine' eX;have d1':wr.cell? ⟨b,o+m*2,none⟩=some (.int .i64 y.id):=(oW.cell (p:=⟨b,o+m*2,none⟩) hb).trans d1;obtain k:=_;exact k):=h
abbrev ZZg(h:p:=by have:=((hB.trans (hb.mono hB.size)).trans (r3 _ (aC _))).size;omega):=h
abbrev ZUG(h:p:=by show _=_;rw[ef.out,ny.out (by rw[tz.out];unfold K7;rw[mZ.out];rfl)];rfl):=h
abbrev ZNj(h:p:=by have mQ:w0.heap.size<=w3.heap.size:=jt.size;have ep:=aA (HB.out.below B3);have ez:=aA (HO.out.below B3);obtain k:=_;exact k):=h
abbrev ZNS(h:p:=by have l4:=Aa ld b4;have B4:B_ w3 w4:=Aa ((aF _ _).drew) b4;have jx:=aA (rK.out.below B4);obtain k:=_;exact k):=h
abbrev ZYA(h:p:=by refine' ZGx;have eo:=aA (fun W=>D4 (C5 xs) W ZA);have dj:Hid (Em (C5 xs)=C5 xs++⟨#[10]⟩):=Fh hp;obtain k:=_;exact k):=h
abbrev ZJf(h:p:=by rw[show k*El.size Y_=k from eF k,kJ.out]at this;obtain k:=_;exact k):=h
abbrev ZJk(h:p:=by
 obtain⟨q,rfl⟩:=aK (show 0<=r by omega)
 obtain k:=_;exact k):=h
abbrev ZXG(h:p:=by
 (go_at_call 78;refine(qN.out _ lr).mono ?_;refine' zB;have l3:=lr.trans (b3.mono lr.size);have o3:=HO.out.below b3)
 obtain k:=_;exact k):=h
abbrev ZNl(h:p:=by go_ret;exact⟨_,rfl,iy,Pd (ZEP (cQ w _ _) ey) (aC _) (fun k hk=>by injection hk;omega)⟩):=h
abbrev ZIX(h:p:=by refine' ZO;exact⟨Al (ao.out ZaI).symm,Ba lo _⟩):=h
abbrev ZEd(h:p:=by show some _≠some _;simp):=h
abbrev ZEr(h:p:=by rw[HQ.out,H1.out,H2.out];rfl):=h
abbrev ZF2(h:p:=by rw[eV];omega):=h
abbrev ZTG(h:p:=by
 have H6:Hid (I0 net y=false):=by show _=_;unfold I0;rw[H5.out,IB.out,aP ZA];rfl
 refine' ZI;obtain k:=_;exact k):=h
abbrev ZLi(h:p:=by refine Bk (rs:=[0]) ZB ZF ?_;refine' Yz;obtain k:=_;exact k):=h
abbrev ZNF(h:p:=by
 go_roundw
 case rel=>exact⟨k+1,_,ZA,ZJ,l3,by rw[HS.out];exact ep.out⟩
 case measure=>exact ZK):=h
abbrev ZXX(h:p:=by
 show Bu _ _ _ _ _ _ _ _ (Act.put _ (some 53) _) _
 refine' ZV;refine Bk (rs:=[0,10]) ZB ZF ?_;obtain k:=_;exact k):=h
abbrev ZQl(h:p:=by
 obtain⟨p1,p2⟩:=ZDv h1 h2 (k+1) ZA
 have hp:Ky b (k+1)=m*b:=by rw[HM.out];rfl
 refine' YS;rw[hp]at p1 p2;obtain k:=_;exact k):=h
abbrev ZLA(h:p:=by obtain⟨wA,ae⟩:∃u,u=w.alloc (aB #[] 9):=⟨_,rfl⟩;obtain k:=_;exact k):=h
abbrev ZNs(h:p:=by simp only[aO,bD]):=h
abbrev U2(h:p:=by simp only[ZAZ];obtain k:=_;exact k):=h
abbrev Tz(h:p:=by obtain⟨ic,hrow,hl,he⟩:=ft;obtain k:=_;exact k):=h
abbrev ZGI(h:p:=by
 have bd:(k:Int)<(rs.length:Int):=ZA
 obtain k:=_;exact k):=h
abbrev ZV3(h:p:=by
 have cn:Hid ((L.map fun n:Nat=>(n:Int)).length=bins.length):=by show _=_;rw[bI,HE.out,bI]
 obtain k:=_;exact k):=h
abbrev ZGg(h:p:=by simp only[if_true,if_false,ZDB];obtain k:=_;exact k):=h
abbrev ZXk(h:p:=by
 have hs:F8 (v_ (u_ b) 8).data.toList=N1 b 8:=by rw[AeJ 8 (aC _) fun k _=>AmW b k,Am1 b 8 (aC _)]
 obtain k:=_;exact k):=h
abbrev ZFz(h:p:=by refine' ZI;exact Bb.of_read HD.out rfl K2.out):=h
abbrev ZTd(h:p:=by
 have HE:Hid (Ht net c s=(p++[i],0)):=by show _=_;rw[HG.out,AeW AQ.out (HH.out ZA lQ)]
 rw[Tl]at lQ
 obtain k:=_;exact k):=h
abbrev ZK2(h:p:=by show w.heap.size<=w0.heap.size;omega):=h
abbrev Tk(h:p:=by refine' Zq;clear hS;clear hz ho;obtain k:=_;exact k):=h
abbrev Pr(h:p:=by exact⟨0,aN _,rfl,rfl,l0⟩):=h
abbrev X1(h:p:=by exact bC w _):=h
abbrev ZWo(h:p:=by
 .rw[ho]at HN HF
  clear ho;go_enter func93,ntmps93
  refine' ZGh;refine' ZI;exact⟨Bo HF.out.symm,rfl⟩):=h
abbrev ZRM(h:p:=by
 have a1:¬9223372036854775807<B1.size+1:=ZA
 have a2:¬9223372036854775807<B1.size+1+B2.size:=ZA
 obtain k:=_;exact k):=h
abbrev ZTH(h:p:=by
 have H6:Hid (I0 net y=true):=by show _=_;unfold I0;rw[H5.out,IB.out,aL ZA];rfl
 refine' ZC;obtain k:=_;exact k):=h
abbrev ZK8(h:p:=by refine' zY;obtain⟨Ad,md,cd,rfl,LK,_,_,_⟩:=ho.rd;subst LK;obtain k:=_;exact k):=h
abbrev ZO7(h:p:=by
 have E1:=aA (HEM.out w1)
 refine' ZQ;exact⟨_,Bf ZX,by rw[ca.out HF.out];exact E1.out,Ae b1 _⟩):=h
abbrev ZWk(h:p:=by
 have HE:Hid (d.data.toList.take k=d.data.toList):=bB ZH
 rw[HE.out]at mt;rw[HE.out];obtain k:=_;exact k):=h
abbrev ZPQ(h:p:=by
 .refine' ZC;go_round
  case rel=>exact⟨k+1,ZA,ZJ,HX.out ak.out⟩
  case measure=>exact ZK):=h
abbrev ZE1(h:p:=by rw[xV.out];exact HS.out):=h
abbrev ZHM(h:p:=by show _+1<=_;omega):=h
abbrev ZWp(h:p:=by
 have sn:¬9223372036854775807<P.size+1:=ZA
 have qj:¬9223372036854775807<P.size+1+x.size:=ZA
 obtain k:=_;exact k):=h
abbrev ZNM(h:p:=by show _=_;rw[HQ.out];rcases Bool.and_eq_false_iff.1 h1 with h|h<;>simp[h]):=h
abbrev ZEv(h:p:=by
 obtain⟨k,hk,rfl⟩:=bP kL
 obtain k:=_;exact k):=h
abbrev ZFp(h:p:=by rintro D pre W hD lV ⟨ao,y0,y1,hB⟩ hK;obtain k:=_;exact k):=h
abbrev ZJd(h:p:=by have bq:B_ w (w.drewN q):=Cx (aF _ _) q;obtain k:=_;exact k):=h
abbrev ZKH(h:p:=by exact⟨0,aN _,ZA,rfl,rfl,iy,hp,qV,wK⟩):=h
abbrev ZHS(h:p:=by
 go_enter func47,ntmps47
 refine' Zr;obtain k:=_;exact k):=h
abbrev ZSq(h:p:=by
 obtain⟨g,rfl⟩:∃g,f=g+1:=⟨f - 1,ZA⟩;have ce:g+1<=7:=ZA
 have IP:=aA (AsT ce);obtain k:=_;exact k):=h
abbrev V2(h:p:=by simpa using h2):=h
abbrev ZRO(h:p:=by have qt:Hid (I8 t=⟨Hp ((Aj 32 t).getD 0 ⟨#[]⟩),Hp ((Aj 32 t).getD 1 ⟨#[]⟩),(Aj 32 t).drop 2⟩):=rfl;obtain k:=_;exact k):=h
abbrev ZHt(h:p:=by rw[HQ.out,H1.out,H2.out,H3.out];rfl):=h
abbrev ZJO(h:p:=by show w.heap.size<w1.heap.size;omega):=h
abbrev ZK5(h:p:=by show w.heap.size<wA.heap.size;omega):=h
abbrev ZVG(h:p:=by
 rw[fT]
 go_wp2_with (go_at_call 314;refine H3.out.mono ?_;rintro e w3 ⟨rfl,d3,p3,s3,S3⟩)
 refine' ZVA;obtain k:=_;exact k):=h
abbrev ZMJ(h:p:=by
 .go_round
  case rel=>exact⟨k+1,ZA,ZJ,by rw[HS.out];exact Yn⟩
  case measure=>exact ZK):=h
abbrev ZIo(h:p:=by have hb:=Iw h _ (aS (show k<l.length by omega));obtain k:=_;exact k):=h
abbrev ZTl(h:p:=by
 .go_round
  case rel=>exact⟨k+1,ZA,ZJ,by rw[HS.out];exact ZMF⟩
  case measure=>exact ZK):=h
abbrev ZV1(h:p:=by
 go_enter func227,ntmps227
 refine' zG;refine HP.out.mono ?_;refine' ZK7;obtain k:=_;exact k):=h
abbrev ZFV(h:p:=by
 have vw:(t.toList==[45])=false:=by rw[fC]at cv;unfold zU at cv;rw[bU ⟨#[45]⟩]at cv;exact cv
 obtain k:=_;exact k):=h
abbrev ZE0(h:p:=by have:=ku.out.2.1;omega):=h
abbrev ZFG(h:p:=by unfold maxLen;exact Qp):=h
abbrev ZSz(h:p:=by
 have l7:B_ w w7:=l6.grown ce tk fun q hq=>(ot.out.blk q hq).1
 have pV:=aA lM;clear lM;obtain k:=_;exact k):=h
abbrev ZWi(h:p:=by
 refine' eE;have nE:¬(b.toNat:Int)<48:=ZA
 have qw:(57:Int)<(b.toNat:Int):=ZA
 exact W_):=h
abbrev fH(h:p:=by rw[aT];obtain k:=_;exact k):=h
abbrev ZEu(h:p:=by obtain⟨i,hi,rfl⟩:=bP hx;obtain k:=_;exact k):=h
abbrev ZFw(h:p:=by have xz:=vz.trans (b3.mono ZA);obtain k:=_;exact k):=h
abbrev ZMc(h:p:=by rw[bZ xM,cC ZA];simp only[e1,dE];obtain k:=_;exact k):=h
abbrev ZMd(h:p:=by
 rw[cC ZA,bZ lH]
 simp only[e1,dE];obtain k:=_;exact k):=h
abbrev ZII(h:p:=by rw[eG _ _ _ _ _ _ h2];rfl):=h
abbrev ZOG(h:p:=by
 have HY:Hid (Jf hs xs=Kq hs xs/\Je hs xs=Ng hs xs):=by unfold Jf Je;rw[HF.out];exact ZW
 clear HB
 refine' ZC;obtain k:=_;exact k):=h
abbrev ZGN(h:p:=by refine' Yd;obtain⟨ha,he⟩:=h;rw[Ec]at he;obtain k:=_;exact k):=h
abbrev ZKz(h:p:=by
 have e:(Aj 10 t).getD k ⟨#[]⟩=(Aj 10 t)[k]:=ZWA
 obtain k:=_;exact k):=h
abbrev N_(h:p:=by (with_reducible exact k1)):=h
abbrev ZMX(h:p:=by simp;exact aI (aI bj l1.size) (eL _)):=h
abbrev ZIS(h:p:=by refine' ZI;exact⟨Al (ao.out ZaI).symm,rfl⟩):=h
abbrev ZOi(h:p:=by
 refine bodyPost_ret ?_ hf hR;have BV:a.tmps[p]?.getD undef=.pointer (P_ g):=by simpa using hp
 obtain k:=_;exact k):=h
abbrev ZKS(h:p:=by obtain⟨h1,h2,h3,h4,h5,h6⟩:=h;obtain⟨s1,s2,s3,s4⟩:=hs;obtain k:=_;exact k):=h
abbrev ZHl(h:p:=by obtain⟨AO,mO,cO,rfl,qm,_,_,_⟩:=hO.rd;subst qm;clear hO;obtain k:=_;exact k):=h
abbrev ZPA(h:p:=by
 have HF:Hid (Tw d xs=false):=z7
 have HE:Hid (Eu d xs=[]):=ZaC
 clear h1
 obtain k:=_;exact k):=h
abbrev ZLY(h:p:=by
 refine(HC.out _ k0).mono ?_;refine' Zy;have k1:=k0.below z1
 obtain k:=_;exact k):=h
abbrev ZMB(h:p:=by rw[eV];exact ob.out):=h
abbrev ZYu(h:p:=by rw[lf];exact bC u1 _):=h
abbrev ZJj(h:p:=by show _=_;rw[HS.out,<-HM.out];rfl):=h
abbrev ZZY(h:p:=by
 obtain⟨pp,xd⟩:∃pp,q+1=pp:=⟨_,rfl⟩
 rw[xd]at fh;have hF2:F.size<=60000:=ZA
 exact ZZZ):=h
abbrev Sn(h:p:=by have lb:=aF wo.heap.size wo;obtain k:=_;exact k):=h
abbrev Rv(h:p:=by rw[dH,ZCu];exact lL.out):=h
abbrev ZPF(h:p:=by
 unfold Vt;cases hx:fs[(Gg fs c).toNat]? with
 |none=>exact zC
 |some x=>exact hf x (List.mem_of_getElem? hx)):=h
abbrev ZPU(h:p:=by obtain⟨r,ak⟩:∃r,Hid (Gg (fs.take k) x.src=r):=⟨_,rfl⟩;have CI:=aA (AtD fs k x.src ak.out);obtain k:=_;exact k):=h
abbrev ZPr(h:p:=by rw[bU,List.isEmpty_iff_length_eq_zero];exact zI):=h
abbrev ZPb(h:p:=by
 refine' zh;cases h1:Mi d
 .refine' zS;refine' ZQ;exact⟨Bf (by rw[HQ.out,H1.out]<;>rfl),Aa HT.out l1⟩
 obtain k:=_;exact k):=h
abbrev ZL6(h:p:=by have P1:=aA p1;have P2:=aA p2;have P3:=aA p3;obtain k:=_;exact k):=h
abbrev ZFA(h:p:=by refine' Qs;clear lk br;have ie:=l1.size;obtain k:=_;exact k):=h
abbrev Rs(h:p:=by rintro e w4 ⟨v4,rfl,o4,b4⟩;obtain k:=_;exact k):=h
abbrev Zg(h:p:=by simp[Bj]):=h
abbrev ZJL(h:p:=by first|exact k2|exact k1|exact ld):=h
abbrev Vb(h:p:=by rintro e u1 ⟨v5,rfl,o5,z1⟩;obtain k:=_;exact k):=h
abbrev ZV4(h:p:=by rw[HE.out];exact List.mem_map.2 ⟨_,aS ab,rfl⟩):=h
abbrev ZOn(h:p:=by
 have HF:Hid (Oj s xs=true):=ZH1
 have HY:Hid (Iq s xs=Gr s xs):=by show _=_;unfold Iq;rw[aQ HF.out]
 obtain k:=_;exact k):=h
abbrev ZO3(h:p:=by refine' ZL3;have ky:G<wn.heap.size:=(pB.out.1.blk G rfl).2;have nT:w.heap.size<=G:=(pB.out.1.blk G rfl).1;obtain k:=_;exact k):=h
abbrev ZGe(h:p:=by obtain⟨A2,n2,c2,rfl, -, -, -, -⟩:=vD.rd;obtain k:=_;exact k):=h
abbrev ZRE(h:p:=by
 have HY:Hid (Fwd.ok ⟨p,q⟩):=⟨by show p.size<=_;omega,by show q.size<=_;omega⟩;clear rV hm bz sI
 obtain k:=_;exact k):=h
abbrev iH(h:p:=by have HR:=aA hr;obtain k:=_;exact k):=h
abbrev Wn(h:p:=by have HT:=aA (Aw ac).1;obtain k:=_;exact k):=h
abbrev WH(h:p:=by go_ret;exact⟨rfl,K.out⟩):=h
abbrev Ze(h:p:=by refine' h_;refine' YA;obtain k:=_;exact k):=h
abbrev Rf(h:p:=by simp at hn;omega):=h
abbrev Uh(h:p:=by have HW:=aA ac;clear ac;obtain k:=_;exact k):=h
abbrev ZUl(h:p:=by
 refine' ZaF
 .have:=ready_mono hj ly
  rw[H.1]at this;cases this):=h
abbrev ZKQ(h:p:=by show _=_;rw[tz.out,sf.out];rfl):=h
abbrev ZLa(h:p:=by refine' YU;show _+1+4<=_;omega):=h
abbrev ZXj(h:p:=by refine' ZGu;rintro e u1 ⟨vR,rfl,oR,z1⟩;have k1:=k0.below z1;have RR:=aA oR.rd;obtain k:=_;exact k):=h
abbrev ZI2(h:p:=by
 obtain⟨b,o,rfl,hb,⟨o1,o2⟩,c1,c2⟩:=HR.out.mis k ab
 obtain k:=_;exact k):=h
abbrev ZNy(h:p:=by
 clear hm hx
 induction xs with
 |nil=>rfl
 |cons x xs ih=>simp[ih]):=h
abbrev ZGF(h:p:=by rw[ak.out];exact fi):=h
abbrev ZHU(h:p:=by rw[ak.out];exact pQ):=h
abbrev ZP2(h:p:=by
 have uQ:Hid (k=0->Jb rs 1=Ek rs[k]):=fun h=>by subst h;exact ZA6 ab
 have lm:=aA (fun h=>ZEN ab h);obtain k:=_;exact k):=h
abbrev ZVN(h:p:=by
 gi_wp2_with (refine' YT;gi_at_call 114;refine(callsIn_wide.2 kj).mono ?_;refine' zW)
 refine hR.mono ?_;obtain k:=_;exact k):=h
abbrev ZLQ(h:p:=by
 obtain⟨r0,r1,r2,r3,r4,r5,r6,r7,hr⟩:=k2.res;refine' Va
 obtain k:=_;exact k):=h
abbrev ZPo(h:p:=by unfold Ap at z4;rw[aO,dI]at z4;exact z4.1):=h
abbrev ZWB(h:p:=by have GG:J6.findIdx (fun x=>zU x g)<J6.length:=hl;have h1:=List.findIdx_getElem (w:=GG);rw[ZDj GG]at h1;obtain k:=_;exact k):=h
abbrev ZPc(h:p:=by
 refine' zq;cases h2:Ap s
 .refine' zN;refine' ZQ;exact⟨Bf ZIa,Aa HT.out l1⟩
 refine' zN;obtain k:=_;exact k):=h
abbrev ZVo(h:p:=by obtain⟨_,_,_,_,_,⟨_,c1,c2,c3,_,_,_,_⟩,hf,_⟩:=Ca kC.out;have f1:=hf 1;have f2:=hf 2;have f3:=hf 3;obtain k:=_;exact k):=h
abbrev ZMk(h:p:=by have fo:=Ed (P:=Tryz.prog) 82 27 i0 _ eU hi m7 xss.length zi ZA;obtain k:=_;exact k):=h
abbrev ZNB(h:p:=by
 .have HF:=aA h1;clear h1
  refine' ZQ;exact⟨_,Bf ZX,ca.out HF.out _,Aa HT.out l1⟩):=h
abbrev ZNh(h:p:=by obtain⟨wl,de⟩:∃wl:World,wl=w1.alloc (aB #[.int .i64 x.id,.string x.code] 119):=⟨_,rfl⟩;obtain k:=_;exact k):=h
abbrev Xu(h:p:=by simpa using h1):=h
abbrev ZJ0(h:p:=by unfold q_;rw[aR hi];obtain k:=_;exact k):=h
abbrev ZKh(h:p:=by rw[HQ.out.2.1 HO.out];exact zj):=h
abbrev ZX9(h:p:=by have:=ZBQ _ s.day.fwds a b W (hS.f.rd.on hW) hk z0 z1;exact Xm):=h
abbrev ZMo(h:p:=by generalize Gv f j (ys.take m)=rs at *;generalize D8 f j (ys.take m)=qs at *;obtain⟨jh,JG⟩:=HLJ.out;obtain k:=_;exact k):=h
abbrev ZU1(h:p:=by obtain⟨xA,oP⟩:∃z,z=d[pc]! :=⟨_,rfl⟩;obtain⟨xB,oQ⟩:∃z,z=d[c]! :=⟨_,rfl⟩;refine' ZL5;obtain k:=_;exact k):=h
abbrev ZWd(h:p:=by
 have wY:¬(17:Int)<(d.size:Int):=ZA
 have tQ:0<d.size:=ZA
 have ah:=AgG (d:=d) tQ;obtain k:=_;exact k):=h
abbrev ZUL(h:p:=by
 cases ag:Di net
 .have HF:=aA (AeI ag)
  clear ag
  exact Wr
 refine' gL;have lh:=(D1.1 ag).1.2;obtain k:=_;exact k):=h
abbrev Zo(h:p:=by refine' Xq;refine' Mm;obtain k:=_;exact k):=h
abbrev ZUf(h:p:=by refine' zQ;obtain⟨A',n',c',rG,_,_,_,se⟩:=q_.rd;obtain⟨b,o,rm,hb,pN,y1⟩:=rdA.strU se k gq;obtain k:=_;exact k):=h
abbrev Sa(h:p:=by obtain⟨g1,g2,g3,g4,g5⟩:=Dz mG;obtain k:=_;exact k):=h
abbrev ZH3(h:p:=by rw[aJ h,gW];obtain k:=_;exact k):=h
abbrev ZUJ(h:p:=by have ju:Below w.heap.size w2 w4:=(gi.mono ap).trans (Ay ((kQ.out.alloc _).drew) a6 ZH);obtain k:=_;exact k):=h
abbrev ZWI(h:p:=by rw[bZ ZH,ZBs]):=h
abbrev Sb(h:p:=by rw[bV]at this;exact this):=h
abbrev ZMv(h:p:=by refine' ZZy;obtain⟨p1,p2,p3⟩:=Eh bu.out jx.out gc.out gi fm jh oI.out JG.symm cg aj cy;obtain k:=_;exact k):=h
abbrev ZJ3(h:p:=by refine' So;obtain⟨N,rfl⟩:=aK y0;obtain k:=_;exact k):=h
abbrev ZYj(h:p:=by obtain⟨W2,bg⟩:∃u,u=u1.setCell ⟨w.heap.size,4,none⟩ (.slice AX nX cX):=⟨_,rfl⟩;rw[<-bg];obtain k:=_;exact k):=h
abbrev ZJp(h:p:=by refine' ZQ;rw[HF.out];exact⟨_,rfl,own.nil_ _ _ _,l2⟩):=h
abbrev ZSX(h:p:=by intro x hx;simp at hx;rcases hx with rfl|rfl|rfl|rfl<;>decide):=h
abbrev ZUw(h:p:=by obtain⟨xA,oP⟩:∃z,z=d[h]! :=⟨_,rfl⟩;obtain⟨xB,oQ⟩:∃z,z=d[a]! :=⟨_,rfl⟩;refine' ZL5;obtain k:=_;exact k):=h
abbrev ZUy(h:p:=by obtain⟨xA,oP⟩:∃z,z=d[m]! :=⟨_,rfl⟩;obtain⟨xB,oQ⟩:∃z,z=d[h]! :=⟨_,rfl⟩;refine' ZL5;obtain k:=_;exact k):=h
abbrev YC(h:p:=by injection e with e;obtain k:=_;exact k):=h
abbrev ZPj(h:p:=by
 have fo:=Ed (P:=Tryz.prog) 28 9 i0 _ aW hi ah xs.length zi ZA
 obtain k:=_;exact k):=h
abbrev V7(h:p:=by
 rw[ii.out];refine' zW
 obtain k:=_;exact k):=h
abbrev We(h:p:=by rw[hc]at this;exact this):=h
abbrev ZU4(h:p:=by
 have T3:Aside (SortedIn lt a mid d3):=q3;have S3:Aside (SWK enc k w0 blk aw d3 w3):=s3;clear p3 q3 s3
 obtain k:=_;exact k):=h
abbrev ZZp(h:p:=by
 have jX:some G≠(Value.slice Au qs.length cu).ownBlock:=ZZ4
 have g7:=aA jX;clear jX
 obtain k:=_;exact k):=h
abbrev ZV5(h:p:=by
 go_enter func156,ntmps156
 refine' ZC;refine HR.out.mono ?_;refine' Ye;have mH:=aA o1;obtain k:=_;exact k):=h
abbrev ZHb(h:p:=by refine' zG;refine(ZCt _ p k _ HP.out).mono ?_;refine' zh;obtain k:=_;exact k):=h
abbrev Y0(h:p:=by rintro e w5 ⟨rfl,b5⟩;obtain k:=_;exact k):=h
abbrev ZPh(h:p:=by
 cases ag:z_ xs
 .have HF:=aA (AeH ag)
  clear ag
  exact Wr
 refine' gL;have lh:=(Ep.1 ag).1;obtain k:=_;exact k):=h
abbrev ZIN(h:p:=by rw[aO,bD,dU];obtain k:=_;exact k):=h
abbrev ZFH(h:p:=by rw[ZAx ZA ZA]at h1;obtain k:=_;exact k):=h
abbrev Wd(h:p:=by rw[ByteArray.data_extract];obtain k:=_;exact k):=h
abbrev ZFm(h:p:=by obtain⟨A,m,cp,rfl, -, -, -, -⟩:=ho.rd;obtain k:=_;exact k):=h
abbrev ZJW(h:p:=by (with_reducible refine(HM.out _ US).mono ?_);obtain k:=_;exact k):=h
abbrev ZGE(h:p:=by
 have EG:(0:Int)<=(j:Int):=ZA
 obtain k:=_;exact k):=h
abbrev d_(h:p:=by have au:=aA ae;obtain k:=_;exact k):=h
abbrev ZLG(h:p:=by
 (go_at_call 77;refine(sg.out _ lr).mono ?_;refine' ZP)
 obtain k:=_;exact k):=h
abbrev gA(h:p:=by (exact duo.set8f k3)):=h
abbrev ZZI(h:p:=by
 .intro z hz
  rcases List.mem_or_eq_of_mem_set hz with h|h
  .exact HX.out z h
  .rw[h];exact nQ.out):=h
abbrev ZFO(h:p:=by refine' ZO;exact⟨Bo HE.out.symm,rfl⟩):=h
abbrev ZY9(h:p:=by rw[<-HQ.out,qp.out];exact(Wj rT.out ZA).symm):=h
abbrev ZSt(h:p:=by obtain⟨ys,kL⟩:∃ys,Dt net s (g+1) d=ys:=⟨_,rfl⟩;rw[kL]at fx mZ oq;have uV:=aA kL;obtain k:=_;exact k):=h
abbrev ZTx(h:p:=by go_at_call 22;(with_reducible refine(HP3.out _ ks k6).mono ?_);rintro e w7 ⟨t,rfl,ht,rZ,k7,ce⟩;obtain k:=_;exact k):=h
abbrev ZOR(h:p:=by refine' YP;have l4:=Aa lr b4;have jm:=aA (HA.out.below b4);have bu:=aA (HB.out.below b4);obtain k:=_;exact k):=h
abbrev ZRH(h:p:=by
 cases ag:Be rs
 .have HF:=aA (Ag2 ag)
  clear ag
  exact Wr
 refine' gL;have lh:=(Ch.1 ag).1;obtain k:=_;exact k):=h
abbrev ZWR(h:p:=by
 refine' ZKy;have L2:=aA (Aa b1 b2);clear o2 b1 b2
 refine' ZI;exact Bb.of_read HD.out rfl L2.out):=h
abbrev ZOF(h:p:=by
 have ca:Hid (∀h:Qt hs xs=false,Jf hs xs=[]/\Je hs xs=[]):=fun h=>by unfold Jf Je;rw[h];exact ZW
 obtain k:=_;exact k):=h
abbrev ZUd(h:p:=by rw[aJ hk,ZDJ,h,fF]):=h
abbrev ZN1(h:p:=by refine' ZO;exact⟨w.heap.size,rfl,aC _,HH.out,(aF _ _).alloc (aC _) _⟩):=h
abbrev Qz(h:p:=by have:=su.out;omega):=h
abbrev ZQ6(h:p:=by
 rintro l pre x W ⟨⟨v,hv,ho⟩,yk,da,bp,y0,y1,hB⟩ _ hx;have hd:1<=9 - 1 - 1:=ZA
 obtain k:=_;exact k):=h
abbrev ZVD(h:p:=by
 rw[fT]
 go_wp2_with (go_at_call 315;refine H5.out.mono ?_;rintro e w5 ⟨rfl,d5,p5,s5,S5⟩)
 obtain k:=_;exact k):=h
abbrev ZSj(h:p:=by
 go_roundw
 case rel=>exact⟨k+1,ZA,ZJ,lo,ZaJ⟩
 case measure=>exact ZK):=h
abbrev ZSn(h:p:=by
 go_roundw
 case rel=>exact⟨k+1,ZA,ZJ,lr,ZaJ⟩
 case measure=>exact ZK):=h
abbrev ZSk(h:p:=by
 have HP:Hid (Iz p x=true):=by show _=_;rw[xu.out,yz,aL bp];rfl
 clear yz
 refine' ZI;obtain k:=_;exact k):=h
abbrev ZP0(h:p:=by
 cases ag:C7 rs
 .have HF:=aA (Ad4 ag)
  clear ag
  exact Wr
 refine' gL;have lh:=(Ev.1 ag).1;obtain k:=_;exact k):=h
abbrev ZPf(h:p:=by rw[aJ h,dH,bT,cD,gE,Kp]):=h
abbrev ZPx(h:p:=by exact⟨k+1,ZA,ZJ,ep.out.trans (I6 [.string _] w3 k _ (aC _)),this⟩):=h
abbrev iE(h:p:=by exact aC _):=h
abbrev ZLs(h:p:=by refine' ZC;refine(T7 g q _ ko ZA).mono ?_;obtain k:=_;exact k):=h
abbrev ZN8(h:p:=by
 have ca:Hid (∀h:Ve fs xs=false,E6 fs xs=[]/\Gu fs xs=[]):=fun h=>by unfold E6 Gu;rw[h];exact ZW
 obtain k:=_;exact k):=h
abbrev ZIl(h:p:=by obtain⟨i0,hi,ah,ar,ap⟩:=dD Tryz.infoByte;obtain k:=_;exact k):=h
abbrev gV(h:p:=by have HK:=aA hk;obtain k:=_;exact k):=h
abbrev ZKT(h:p:=by ·rw[s2 x ZA ZA];exact h4 x ke):=h
abbrev ZHk(h:p:=by obtain⟨k,vs,hk,rfl,lr,hB,hO,f9⟩:=hrel;refine' YB;obtain k:=_;exact k):=h
abbrev ZJ9(h:p:=by refine' e_;exact bB ZA):=h
abbrev ZIB(h:p:=by
 rcases List.mem_append.1 hx with h|h
 .exact HX.out x h
 obtain k:=_;exact k):=h
abbrev ZSR(h:p:=by obtain⟨⟨_,q⟩,rfl⟩:=he;exact⟨⟨hy.1,q⟩,rfl⟩):=h
abbrev ZZS(h:p:=by rw[aY,aY,dB,dB];omega):=h
abbrev ZaD(h:p:=by have h:=(kept2.refl g w5.heap.size w5).allocO o;exact ZGL):=h
abbrev ZHr(h:p:=by refine' zG;refine(Fq _ p _ HP.out).mono ?_;refine' zh;obtain k:=_;exact k):=h
abbrev ZTq(h:p:=by intro x hx;simp at hx;rcases hx with rfl|rfl|rfl<;>decide):=h
abbrev ZKE(h:p:=by
 rw[aM cv]
 split
 .rename_i h;rw[lg.out.2 h]
 .rfl):=h
abbrev ZVx(h:p:=by unfold Qm Ku at h;rw[aO,aO]at h;have h1:=(De.1 h.1.1).1;have h2:=Cq h.2;obtain k:=_;exact k):=h
abbrev ZFt(h:p:=by have ld:=Ag (aF w1.heap.size w1);obtain k:=_;exact k):=h
abbrev ZMH(h:p:=by rw[List.all_eq_false];exact⟨s[k],by simp[ByteArray.getElem_eq_getElem_data],by simpa using hd⟩):=h
abbrev ZY7(h:p:=by show _=_;rw[yg.out HE.out,<-HQ.out,qp.out,T_ HE.out]):=h
abbrev ZI0(h:p:=by rw[E0.out,H1.out,H2.out];rfl):=h
abbrev ZFQ(h:p:=by rw[bne,h3];rfl):=h
abbrev ZV2(h:p:=by have:=qE.1;rw[HE.out,bI]at this;exact this):=h
abbrev ZPX(h:p:=by refine' ZHQ;obtain⟨hp,ho,hf,hh,_⟩:=AbR je;refine' YS;have HF:=aA hf;have HH:=aA hh;obtain k:=_;exact k):=h
abbrev ZVd(h:p:=by obtain⟨AA,mA,cA,rfl,sw,_,_,_⟩:=hA.rd;subst sw;have HA:=aA hA;clear hA;have uT:=dc.out;obtain k:=_;exact k):=h
abbrev ZOv(h:p:=by
 have hkp:(k':Int)<(xs.length:Int):=ZA
 have ky:G<wl.heap.size:=(bu.out.1.blk G rfl).2;obtain k:=_;exact k):=h
abbrev ZPd(h:p:=by
 obtain⟨to,OW,ok,dj⟩:∃to OW ok,Hid (Bc d.fwds s=(to,OW,ok)):=⟨_,_,_,rfl⟩
 refine' ZC;obtain k:=_;exact k):=h
abbrev ZYM(h:p:=by have:=ZBz _ s.letters (Am f) W (hS.l.rd.on hW);exact Xm):=h
abbrev ZTy(h:p:=by
 obtain⟨ic,⟨h1,h2⟩,_⟩:=h;rcases h2 with⟨rfl,_⟩|⟨g,cap,bw,rfl,hg,hh,_⟩
 .cases hk
 obtain k:=_;exact k):=h
abbrev ZTQ(h:p:=by rw[HT.out HP.out (.inl (by rw[HQ.out];exact IY.out))]):=h
abbrev Uw(h:p:=by have HD:=aA hd;clear hd;obtain k:=_;exact k):=h
abbrev ZVH(h:p:=by rw[p3.2.1 i (gT hi)];exact K2.out i ZA):=h
abbrev ZYF(h:p:=by have:=ZDX _ s.day.fwds a W (hS.f.rd.on hW) hk;exact Xm):=h
abbrev ZZe(h:p:=by rw[p2.2.1 i (gT hi)];exact K1.out i ZA):=h
abbrev ZM3(h:p:=by obtain⟨q,ir,hq,rfl,li,qy,nI,NV,gc,rL,tb⟩:=hrel;refine' zd;have rJ:=aA qy;obtain k:=_;exact k):=h
abbrev ZWw(h:p:=by
 have sH:((Pm p).toList==t.toList)=false:=hq
 have yj:Hid (Fk t=false):=ZaK
 refine' ZaH;obtain k:=_;exact k):=h
abbrev ZTE(h:p:=by show _=true;rw[hT.out,HA.out];unfold I0;rw[H5.out];rfl):=h
abbrev ZHp(h:p:=by generalize hG:w.heap.size+1=G at *;have DW:=aA hG;obtain k:=_;exact k):=h
abbrev ZKB(h:p:=by have LA:=aA lA;have qQ:=aA pC;clear lA pC;obtain k:=_;exact k):=h
abbrev ZHW(h:p:=by simp only[aO,bD]at this;obtain k:=_;exact k):=h
abbrev ZIM(h:p:=by exact List.all_eq_true.2 fun k hk=>h k zP):=h
abbrev ZFD(h:p:=by
 have xQ:(0:Int)<(k:Int):=ZA
 obtain k:=_;exact k):=h
abbrev ZFi(h:p:=by ·have:=aj.size;simp at this;exact ZH):=h
abbrev ZGM(h:p:=by
 have hb:b≠c:=fun e=>h (by rw[e];simp)
 obtain k:=_;exact k):=h
abbrev ZKY(h:p:=by
 have R0:Aside (Jq s m en d d):=WZ.out ZA
 obtain k:=_;exact k):=h
abbrev ZGq(h:p:=by obtain⟨Av,m,cp,rfl,hm,_,_,_⟩:=ho.rd;obtain k:=_;exact k):=h
abbrev Wm(h:p:=by rw[ZBn];rfl):=h
abbrev ZNf(h:p:=by have lz:B_ w0 (w0.alloc (aB (bF #[.slice none 0 0] N) 27)):=Ae l0 _;obtain k:=_;exact k):=h
abbrev ZIm(h:p:=by have lz:B_ w wz:=(Aw mh).1;rw[<-mh];obtain k:=_;exact k):=h
abbrev ZIs(h:p:=by
 (with_reducible refine(HP.out _).mono ?_);refine' ZU
 obtain k:=_;exact k):=h
abbrev ZRt(h:p:=by
 have cx:(Ef.toList==[115,101,113,117,101,110,99,101])=true:=ZD
 generalize Ef=wd at *;obtain k:=_;exact k):=h
abbrev ZT2(h:p:=by
 go_enter func116,ntmps116
 go_wp2_with (go_at_call 193;refine kj.mono ?_;refine' zW)
 obtain k:=_;exact k):=h
abbrev Qv(h:p:=by refine' Ph;refine' zO;clear l1;obtain k:=_;exact k):=h
abbrev ZQH(h:p:=by
 have K3:=aA (Aa HT.out k3);clear k1 k2 k3 z1 z2 z3 ld b1
 refine' ZQ;exact⟨rfl,K3.out⟩):=h
abbrev ZXf(h:p:=by go_at_call 28;(with_reducible refine(HD.out _ k1.lay).mono ?_);refine' gY;have k2:=k1.below z2;obtain k:=_;exact k):=h
abbrev ZMe(h:p:=by refine' Yk;have HM:=aA (hm.on HT.out);subst e0;refine' zT;clear ac hv hb hm;refine' Yj;obtain k:=_;exact k):=h
abbrev ZPE(h:p:=by rw[run_convert_bytes_string _ _ _ 5 _ _ _ dG ZAq ZBl];obtain k:=_;exact k):=h
abbrev Rm(h:p:=by show _=_;simp):=h
abbrev ZMp(h:p:=by
 have xp:(m:Int)<(ys.length:Int):=ZA
 obtain⟨r,ak⟩:∃r,Hid (f x=r):=⟨_,rfl⟩
 obtain k:=_;exact k):=h
abbrev ZNn(h:p:=by refine' ZEo;have hu:R_ w (.slice A2 m2 c2) ys:=⟨A2,m2,c2,rfl,nD,kG,kh,fh⟩;obtain k:=_;exact k):=h
abbrev ZKO(h:p:=by show w.heap.size+1<_;omega):=h
abbrev ZT6(h:p:=by
 conv=>rhs;rw[<-List.map_id ps]
 refine List.map_congr_left fun p _=>?_
 exact Cv ZF):=h
abbrev ZWy(h:p:=by
 have sH:((Pm p).toList==t.toList)=true:=hq
 have yj:Hid (Fk t=true):=ZaK
 refine' ZaH;obtain k:=_;exact k):=h
abbrev ZLE(h:p:=by
 have lA:B_ w wA:=by rw[ae];exact Vj
 obtain k:=_;exact k):=h
abbrev ZEx(h:p:=by have:=su.out;exact ZH):=h
abbrev ZQx(h:p:=by rintro e w0 ⟨rfl,b0⟩;have B0:B_ w w0:=ga.out.trans (b0.mono ga.out.size);obtain k:=_;exact k):=h
abbrev ZR0(h:p:=by
 conv=>rhs;rw[<-dQ (k+1) xss,bX,aT]
 omega):=h
abbrev ZNe(h:p:=by
 refine' ZMC;have bj:w.heap.size<w0.heap.size:=ZA
 have kA:=aA ah;refine' zT;obtain k:=_;exact k):=h
abbrev ZVK(h:p:=by have m1:x∈y::l2:=hp.mem_iff.1 ZF;have m2:y∈x::l1:=hp.mem_iff.2 ZF;obtain k:=_;exact k):=h
abbrev ZPH(h:p:=by simp only[aO];refine⟨⟨h1,h2⟩,List.all_eq_true.2 fun y hy=>?_⟩;exact ZTp):=h
abbrev ZPm(h:p:=by have lb:=(Aw kD).1;refine' ZFE;have BM:=aA (hf.below lb);have mP:=aA (Aa av lb);obtain k:=_;exact k):=h
abbrev ZQe(h:p:=by obtain⟨cc,gp⟩:∃cc,c_ ds=cc:=⟨_,rfl⟩;rw[gp]at yA;have kv:=aA gp;clear gp;obtain k:=_;exact k):=h
abbrev ZFL(h:p:=by rw[HS.out]):=h
abbrev ZEg(h:p:=by simp only[this,dE];obtain k:=_;exact k):=h
abbrev ZQm(h:p:=by
 .have HE:=aA (show k=n by omega)
  refine' ZO;exact⟨Bo (by rw[HM.out,HE.out]),rfl⟩):=h
abbrev eD(h:p:=by have it:=aA b1;obtain k:=_;exact k):=h
abbrev ZTK(h:p:=by
 .have HF:=aA (AjA (net:=net) ZA)
  refine' ZO;exact⟨Al HF.out.symm,l0⟩):=h
abbrev ZHK(h:p:=by obtain⟨z0,z1⟩:=hz.2 ZA;obtain k:=_;exact k):=h
abbrev ZM0(h:p:=by rw[jk.out,<-cZ,BY.out];exact cg):=h
abbrev ZOm(h:p:=by refine' ZQ;exact⟨_,Bf ZX,by rw[ca.out HF.out];exact⟨[],Md _ _ _ _⟩,l1⟩):=h
abbrev ZJu(h:p:=by rw[fx.out];exact pV.out):=h
abbrev ZR7(h:p:=by
 have cx:(Db.toList==[101,110,100,108,101,115,115])=true:=ZD
 generalize Db=wd at *;obtain k:=_;exact k):=h
abbrev ZWN(h:p:=by
 have cx:(Cc.toList==[114,101,115,111,108,118,101])=true:=ZD
 generalize Cc=wd at *;obtain k:=_;exact k):=h
abbrev ZGw(h:p:=by refine' ZC;refine' ZLn;rw[<-dj.out];obtain k:=_;exact k):=h
abbrev ZXw(h:p:=by
 refine' Xq;have bz:=(hf.blk g rfl).2;have bf:c<=maxLen/\3<=c:=ZHR
 refine' ZL8;obtain k:=_;exact k):=h
abbrev ZVp(h:p:=by
 go_enter func147,ntmps147
 refine' ZC;refine js.out.mono ?_;refine' ZP;exact UT):=h
abbrev ZZw(h:p:=by
 refine' Ny;rintro e u1 ⟨vX,rfl,oX,z1⟩;have k1:=aq.below z1;have ah:=k0.lt;refine' ZLU
 obtain k:=_;exact k):=h
abbrev g_(h:p:=by have H2:=aA h2;obtain k:=_;exact k):=h
abbrev ZSm(h:p:=by
 .have HE:Hid (rs.any (Iz p)=false):=ZS2
  refine' ZO;exact⟨Al HE.out.symm,lr⟩):=h
abbrev ZHB(h:p:=by intro G8 c8 w8 o8 il _ CH;obtain k:=_;exact k):=h
abbrev ZH2(h:p:=by rw[Bd3];omega):=h
abbrev ZNx(h:p:=by rw[ZBh ZA];rfl):=h
abbrev ZSQ(h:p:=by
 have hw:Region.wanted o (yielded ops a.tmps)=true:=by simp[Region.wanted,nW]
 rw[aQ hw];obtain k:=_;exact k):=h
abbrev ZJt(h:p:=by obtain⟨A3,n3,c3,rfl,qI,_,_,_⟩:=ho.rd;subst qI;obtain k:=_;exact k):=h
abbrev ZUm(h:p:=by refine' ZaF;have h1:=H.2 j (ready_mono hj ly);obtain⟨xb,oj,xL,da⟩:=mem_ready.1 hj;obtain k:=_;exact k):=h
abbrev Zc(h:p:=by
 go_wp2;rw[<-na.out]
 obtain k:=_;exact k):=h
abbrev ZNd(h:p:=by ·refine' Rw;refine' ZO;exact⟨_,rfl,by rw[HE.out,bA]at ho;exact ho,lr⟩):=h
abbrev ZQP(h:p:=by
 first|((with_reducible refine(H0.out _).mono ?_);refine' ZP)|refine' ZFN|refine' ZIx|fail
 obtain k:=_;exact k):=h
abbrev X2(h:p:=by simp[hl]):=h
abbrev ZJx(h:p:=by rw[HF.out];exact lL.out):=h
abbrev ZOK(h:p:=by have ff:=aA (jg.out ZA);have f8:=aA (io.out ZA);obtain k:=_;exact k):=h
abbrev ZIL(h:p:=by refine' ZE4;exact h j hj):=h
abbrev ZQ5(h:p:=by
 have hO:Mv t=true:=by unfold Mv;rw[cv];rfl
 have hR:t_ t=[]:=by unfold t_;rw[aQ cv]
 obtain k:=_;exact k):=h
abbrev ZRB(h:p:=by
 have hO:Tf t=true:=by unfold Tf;rw[cv];rfl
 have hR:kS t=[]:=by unfold kS;rw[aQ cv]
 obtain k:=_;exact k):=h
abbrev ZSH(h:p:=by have cj:=ZER p.order x.code;obtain⟨r,qe⟩:∃r,Hid (y6 p.order x.code=r):=⟨_,rfl⟩;obtain k:=_;exact k):=h
abbrev ZTz(h:p:=by
 have hO:Qu t=true:=by unfold Qu;rw[cv];rfl
 have hR:kT t=[]:=by unfold kT;rw[aQ cv]
 obtain k:=_;exact k):=h
abbrev ZZ1(h:p:=by rw[aJ dz,Il];rfl):=h
abbrev ZMW(h:p:=by show _=true;rw[hT.out,HA.out];simpa using HY.out):=h
abbrev ZWf(h:p:=by show _=_;rw[ah];exact beq_eq_false_iff_ne.2 br):=h
abbrev ZZn(h:p:=by rw[Gj];have:=ZBX (fun x=>f x==(d:Int)) xs k;omega):=h
abbrev Qy(h:p:=by simpa using hj):=h
abbrev Wf(h:p:=by
 refine(HC.out _).mono ?_
 obtain k:=_;exact k):=h
abbrev ZRo(h:p:=by
 have q0:=fun W (hW:B_ w W)=>(hW.cell (p:=⟨d,0,none⟩) (Az c0)).trans c0
 obtain k:=_;exact k):=h
abbrev ZJa(h:p:=by obtain⟨vL,vO,vF,vN,os,h0,h1,h2,h3,h4,h5,h6⟩:=h;obtain k:=_;exact k):=h
abbrev Sr(h:p:=by simpa using hi):=h
abbrev ZTv(h:p:=by first|exact gd|exact Nat.lt_succ_of_lt gd):=h
abbrev ZaE(h:p:=by
 .have HB:=aA (AaI h hb)
  unfold zU at hb;refine' ZO;exact⟨Al HB.out.symm,rfl⟩):=h
abbrev ZMO(h:p:=by
 have ii:=aA pP;go_wp2_with (go_at_call 231;refine(Cw _ _ o3).mono ?_;refine' V7)
 obtain k:=_;exact k):=h
abbrev ZQt(h:p:=by
 have ii:=aA pP;go_wp2_with (go_at_call 94;refine(Cm _ _ ag).mono ?_;refine' V7)
 obtain k:=_;exact k):=h
abbrev ZPY(h:p:=by
 refine' Zb;obtain⟨r,ak⟩:∃r,Hid (Fp d.size=r):=⟨_,rfl⟩;rw[ak.out]
 refine' ZI;obtain k:=_;exact k):=h
abbrev ZSF(h:p:=by refine' ZJi;obtain⟨q1,q2⟩:=Aq9 i1 i2;have HS:=aA (ZBy Yx 0 xs k ab);refine' zu;obtain k:=_;exact k):=h
abbrev ZPt(h:p:=by rw[sv]at lm;rw[hP]at lm ev⊢;have qY:=aA sv;have JW:=aA hP;clear sv hP;obtain k:=_;exact k):=h
abbrev ZYQ(h:p:=by have nc:=lb.drew;have oO:=lc.drew;have qf:=lt.drew;have rA:=eb.drew;have rC:=ec.drew;obtain k:=_;exact k):=h
abbrev ZMb(h:p:=by ·rw[bZ xM,bZ lH];exact h4 j k xM lH ay):=h
abbrev ZQv(h:p:=by
 go_wp2
 go_quiet (first|(go_at_call 167;exact ZIW)|(go_at_call 344;refine Da (C3.out _)))
 obtain k:=_;exact k):=h
abbrev ZUW(h:p:=by obtain⟨r0,r1,r2,r3⟩:=AqF z0 z1 (.slice A m cp) (.bool true);have o2:=p8.out.below hb;obtain k:=_;exact k):=h
abbrev ZQC(h:p:=by subst mh;unfold E8;rw[bC w _,AbE]):=h
abbrev ZTF(h:p:=by
 have H5:=aA h5;rw[Tl]at h5;obtain⟨q,IB⟩:∃q,Hid (Gq net y.dst=q):=⟨_,rfl⟩
 obtain k:=_;exact k):=h
abbrev eO(h:p:=by rw[h]):=h
abbrev ZJY(h:p:=by obtain⟨b,o,cs,hA,hb,⟨ag,rfl⟩,hc⟩:=h k hk;obtain k:=_;exact k):=h
abbrev ZKf(h:p:=by
 have hl:t.data.toList.length=9:=by simpa using hz
 obtain k:=_;exact k):=h
abbrev ZLM(h:p:=by
 show Bu _ _ _ _ _ _ _ _ (Act.put _ (some 51) _) _
 obtain k:=_;exact k):=h
abbrev ZLl(h:p:=by
 (go_at_call 46;refine(lO _).mono ?_;refine' ZP)
 obtain k:=_;exact k):=h
abbrev ZTb(h:p:=by show _=_;rw[HG.out,Af1 AQ.out (HL.out bc)]):=h
abbrev ZOM(h:p:=by refine' ZC;generalize((w.alloc (aB #[] 119)).alloc (aB #[] 119))=wz at *;obtain k:=_;exact k):=h
abbrev ZKc(h:p:=by rw[dJ];intro i j hi hj rg;obtain k:=_;exact k):=h
abbrev ZQr(h:p:=by have HL:=aA jV;have OM:=aA (fun w=>HL.out▸D0 (p.order.length:Int) 1 60 w);obtain k:=_;exact k):=h
abbrev ZVF(h:p:=by rw[K2.out i i1];exact HT.out i ZA):=h
abbrev ZVU(h:p:=by rw[Ra _ (fun _=>rfl),Sort.size_flatK,hl];simp):=h
abbrev ZVl(h:p:=by
 have cx:(Dx.toList==[100,105,114,101,99,116])=true:=ZD
 generalize Dx=wd at *;obtain k:=_;exact k):=h
abbrev ZY3(h:p:=by
 have cx:(B5.toList==[102,97,117,108,116,115])=true:=ZD
 generalize B5=wd at *;obtain k:=_;exact k):=h
abbrev ZZc(h:p:=by rw[K1.out i i1];exact HT.out i ZA):=h
abbrev ZVr(h:p:=by refine' Yd;have h1:=Cq h.1;have h2:=bL (fun x:Ltr=>pre x.code f) xs;obtain k:=_;exact k):=h
abbrev ZNa(h:p:=by refine' Rr;subst e0;have HO:=aA (BcL HP.out);refine' zT;clear ac hv;refine' fL;obtain k:=_;exact k):=h
abbrev ZEm(h:p:=by have bu:=aA (rJ.out.below B4);obtain k:=_;exact k):=h
abbrev Wt(h:p:=by simp at hx):=h
abbrev ZIJ(h:p:=by simp[World.frozen?,h2]):=h
abbrev Tv(h:p:=by obtain⟨h1,h2,h3,h4⟩:=h;obtain k:=_;exact k):=h
abbrev ZJ4(h:p:=by simp[World.frozen?,hb]):=h
abbrev ZKd(h:p:=by simp[Lib.compareBytes]):=h
abbrev ZGf(h:p:=by
 have:=ZD6 (b.extract (1+5*k) (6+5*k))
 obtain k:=_;exact k):=h
abbrev ZHH(h:p:=by have hx:=h x (fY ..);obtain k:=_;exact k):=h
abbrev ZHI(h:p:=by obtain⟨ic,⟨h1,h2⟩,h3,h4⟩:=h;obtain k:=_;exact k):=h
abbrev Ro(h:p:=by rw[h.2];rfl):=h
abbrev ZFK(h:p:=by refine(HA.out _).mono ?_;refine' ZP;obtain k:=_;exact k):=h
abbrev ZLC(h:p:=by simp[Bool.toNat];omega):=h
abbrev ZVh(h:p:=by refine' zR;obtain⟨A,n,cc,rfl, -, -, -, -⟩:=hv;have HF:=aA (Dj _ fs w HV.out);obtain k:=_;exact k):=h
abbrev ZF4(h:p:=by have fg:=hv;refine' zl;refine' fS;obtain k:=_;exact k):=h
abbrev ZVf(h:p:=by have:=HT.out;rw[aQ he]at this;exact this):=h
abbrev ZVg(h:p:=by have:=HT.out;rw[aM he]at this;exact this):=h
abbrev ZMM(h:p:=by exact⟨0,aN _,rfl,aF _ _,fun j hj=>absurd hj (aX j)⟩):=h
abbrev ZLN(h:p:=by
 show Bu _ _ _ _ _ _ _ _ (Act.put _ (some 52) _) _
 obtain k:=_;exact k):=h
abbrev Sd(h:p:=by refine' YB;have cm:=av.size;obtain k:=_;exact k):=h
abbrev ZIU(h:p:=by have lo:B_ w wo:=Aa lr (Aw ja).1;obtain k:=_;exact k):=h
abbrev ZKU(h:p:=by exact Fs hw h.l a1 ZA ZA):=h
abbrev ZLF(h:p:=by
 have bd:¬(k:Int)<(fs.length:Int):=ZA
 obtain k:=_;exact k):=h
abbrev ZZD(h:p:=by simp[World.setCell,Array.getElem?_modify,h]):=h
abbrev ZOj(h:p:=by refine' ZC;refine AzM rfl rfl (Bp kV.out) iM rfl Tryz.sizePln rfl ?_;obtain k:=_;exact k):=h
abbrev ZIA(h:p:=by obtain⟨A,m,c,hv,hm,_,_,_⟩:=ho.rd;subst hm hv;obtain k:=_;exact k):=h
abbrev ZQI(h:p:=by rw[bW hl];decide):=h
abbrev ZT9(h:p:=by rw[cD,gP,h1,List.all_cons,h1,i2];exact⟨by rw[i1],rfl⟩):=h
abbrev ZYe(h:p:=by rw[bg];exact((kU.put 1 _).put 2 _).put 3 _):=h
abbrev ZXH(h:p:=by rw[ai,<-j4];exact own.made0 wA _ lA.size):=h
abbrev ZWX(h:p:=by
 split
 .exact h1 ‹_›
 .exact h2 ‹_›):=h
abbrev ZOp(h:p:=by
 refine' ZHi;have rW:vs.length=L.length:=hB.2.1;have VR:vs.length<=60:=ZA
 obtain k:=_;exact k):=h
abbrev ZUK(h:p:=by
 unfold Ib at h;obtain⟨⟨a,b⟩,hc,h⟩:=Option.bind_eq_some_iff.1 h;simp only at h
 obtain k:=_;exact k):=h
abbrev ZYJ(h:p:=by have HI:=aA (fun W=>Gh f W hz);have HZ:=aA (fun W=>Nm (Am f) W);rw[ho]at HZ;obtain k:=_;exact k):=h
abbrev ZMl(h:p:=by refine⟨0,pY,aN _,rfl,lz,?_,own.nil_ _ _ _,.inl rfl,fun k hk=>.inl rfl⟩;obtain k:=_;exact k):=h
abbrev ZNz(h:p:=by
 .rw[h1]
  simp only[El.size,eF];exact bB ZF):=h
abbrev ZRG(h:p:=by simp[results,results137,go_sem,k0,k1]):=h
abbrev ZT1(h:p:=by simp[results,results223,go_sem,k0,k1]):=h
abbrev ZUY(h:p:=by simp[results,results138,go_sem,k0,k1]):=h
abbrev ZXP(h:p:=by refine Hs (S:=fun W=>B_ w1 W) 12 ZB ki (fun aa=>?_);obtain k:=_;exact k):=h
abbrev ZRm(h:p:=by
 have cx:(Gd.toList==[109,111,118,101,100])=true:=ZD
 generalize Gd=wd at *;obtain k:=_;exact k):=h
abbrev ZGC(h:p:=by show k<4;omega):=h
abbrev ZKx(h:p:=by rw[HR.out,HQ.out];rfl):=h
abbrev ZX4(h:p:=by rw[bI,bJ];omega):=h
abbrev ZHJ(h:p:=by rw[kq];decide):=h
abbrev ZZl(h:p:=by rw[HR.out,ef.out,aQ rfl];exact o3.out):=h
abbrev ZSb(h:p:=by show _=_;rw[aT,HL.out];rfl):=h
abbrev ZSo(h:p:=by
 have hp7:p.size<=7:=ZA
 have BH:p.size<=maxLen:=ZN
 refine' zc;obtain k:=_;exact k):=h
abbrev ZTB(h:p:=by
 have H3:=aA h3;have un:(r != (k:Int))=false:=ZFQ
 clear h3
 refine' ZC;obtain k:=_;exact k):=h
abbrev ZZz(h:p:=by
 have rK:=aA nI
 obtain⟨AI,mI,cI,rfl,FG,_,_,_⟩:=nI.rd;subst FG;clear nI;obtain k:=_;exact k):=h
abbrev Se(h:p:=by obtain⟨k,hk,rfl,hd⟩:=hrel;obtain k:=_;exact k):=h
abbrev fV(h:p:=by rw[jE];obtain k:=_;exact k):=h
abbrev YG(h:p:=by have l3:=Aa l2 b3;obtain k:=_;exact k):=h
abbrev ZH4(h:p:=by rw[aM ZA,aQ ZA];obtain k:=_;exact k):=h
abbrev Y9(h:p:=by refine Da (C1.out _)):=h
abbrev fE(h:p:=by have H1:=aA h1;obtain k:=_;exact k):=h
abbrev eP(h:p:=by have HB:=aA hb;obtain k:=_;exact k):=h
abbrev Z_(h:p:=by intro v7 w7 o7 ce _;obtain k:=_;exact k):=h
abbrev ZRA(h:p:=by simp[results,results54,go_sem,k0,k1]):=h
abbrev ZRr(h:p:=by first|exact k3|exact k2|exact k1|exact ld):=h
abbrev ZY1(h:p:=by refine' ZC;refine Ax rfl rfl (Cj ak.out) gK rfl Tryz.sizeSt rfl ?_;obtain k:=_;exact k):=h
abbrev Z6(h:p:=by
 refine' YS;clear hp
 obtain k:=_;exact k):=h
abbrev ZSB(h:p:=by
 have cx:(Dq.toList==[116,114,97,121,115])=true:=ZD
 generalize Dq=wd at *;obtain k:=_;exact k):=h
abbrev ZU7(h:p:=by
 have y2:¬(40:Int)<=(n:Int):=ZA
 have y3:¬(40:Int)<(n:Int):=ZA
 obtain k:=_;exact k):=h
abbrev ZVs(h:p:=by
 have cx:(Eo.toList==[99,111,117,110,116])=true:=ZD
 generalize Eo=wd at *;obtain k:=_;exact k):=h
abbrev ZWQ(h:p:=by
 have cx:(Ds.toList==[108,111,97,100,115])=true:=ZD
 generalize Ds=wd at *;obtain k:=_;exact k):=h
abbrev ZK1(h:p:=by
 refine Ob (fun _=>?_) fun _=>?_
 .exact AfD _ _
 obtain k:=_;exact k):=h
abbrev ZX1(h:p:=by
 have cx:(Cz.toList==[102,97,117,108,116])=true:=ZD
 generalize Cz=wd at *;obtain k:=_;exact k):=h
abbrev Vz(h:p:=by
 refine' W9;refine' ZP
 obtain k:=_;exact k):=h
abbrev ZQd(h:p:=by show _=_;rw[eV];exact HL.out):=h
abbrev ZMi(h:p:=by
 clear h1 lv mG;have oq:=aA (Cq qP);have hx16:xss.length<=16:=ZA
 obtain k:=_;exact k):=h
abbrev ZE8(h:p:=by refine' ZU;have l1:=b1;clear b1 l0;obtain k:=_;exact k):=h
abbrev ZSY(h:p:=by have:=(HU.out.blk j hj).1;have:=mQ;omega):=h
abbrev ZTm(h:p:=by unfold Gi;rw[ao.out ZMF];rfl):=h
abbrev ZMZ(h:p:=by refine' ZC;refine(CJ.out _ (aF _ _)).mono ?_;refine' Rs;have l4:=Aa lr b4;obtain k:=_;exact k):=h
abbrev ZK6(h:p:=by refine' Yk;refine' ZEk;refine' zT;refine' Yj;obtain k:=_;exact k):=h
abbrev ZOT(h:p:=by first|rfl|(simp[rD];done)|(simp;omega)):=h
abbrev ZR5(h:p:=by have HJ:=aA (BaF (sep:=y7) HO.out cn.out.symm Uq ZA);obtain k:=_;exact k):=h
abbrev ZSe(h:p:=by
 have cn:Hid ((R.1.map (Bw net)).length=z):=by show _=_;rw[bI,HZ.out]
 obtain k:=_;exact k):=h
abbrev ZMV(h:p:=by rw[hG.out,hI.out (by simp[HY.out])];simp):=h
abbrev ZJs(h:p:=by rw[HF.out];exact zj):=h
abbrev ZH7(h:p:=by rw[ZCk]at hk;exact hk):=h
abbrev ZJS(h:p:=by refine' ze;exact h0):=h
abbrev ZE9(h:p:=by rw[h0];rfl):=h
abbrev ZTI(h:p:=by show _=true;rw[hT.out,HA.out,H6.out];rfl):=h
abbrev ZSi(h:p:=by
 have HP:Hid (Iz p x=false):=by show _=_;rw[xu.out,yz];simp
 clear yz
 refine' ZC;obtain k:=_;exact k):=h
abbrev ZNu(h:p:=by rw[h.2];intro u hu;simp at hu;rw[hu];rfl):=h
abbrev ZIH(h:p:=by exact⟨_,rfl,ZA,ZA,rfl⟩):=h
abbrev Zf(h:p:=by have HS:=aA hs;obtain k:=_;exact k):=h
abbrev ZLL(h:p:=by have lP:=la.drew;have oa:=ea.drew;refine' zc;obtain k:=_;exact k):=h
abbrev ZYY(h:p:=by have uA:=aA (fun(v:Value) (W:World) (h:rdP W W.heap.size v mp)=>Lc v mp W h);obtain k:=_;exact k):=h
abbrev ZQL(h:p:=by have w3:aD.wrap (10*(n:Int))=10*(n:Int):=bG _ ZA;obtain k:=_;exact k):=h
abbrev ZRP(h:p:=by
 have ut:Hid (∀p∈Aj 32 t,p.size<=maxLen):=fun p hp=>by have:=Hi hp;exact ZN
 obtain k:=_;exact k):=h
abbrev Xz(h:p:=by have iu:=aA cg;obtain k:=_;exact k):=h
abbrev ZJz(h:p:=by
 have MF:(u:Int)<(rs.length:Int):=ZA
 obtain k:=_;exact k):=h
abbrev ZVL(h:p:=by rw[insOuter_stop _ _ _ _ _ ZA,insOuter_stop _ _ _ _ _ ZA]):=h
abbrev ZOf(h:p:=by obtain⟨x,hx,rfl⟩:=List.mem_map.1 hy;obtain⟨ke,t7⟩:=List.mem_filter.1 hx;obtain k:=_;exact k):=h
abbrev ZOk(h:p:=by obtain⟨_,rfl⟩:=he;exact⟨hy,rfl⟩):=h
abbrev ZXb(h:p:=by
 subst hA hB;have hz:(w.alloc (.cells cs T)).heap.size=w.heap.size+1:=ZF
 obtain k:=_;exact k):=h
abbrev ZLw(h:p:=by have sZ:=aA (vU HG.out aj);refine' ZI;obtain k:=_;exact k):=h
abbrev ZSy(h:p:=by show _=_;rw[mZ.out,IV.out,HM.out];rfl):=h
abbrev ZNX(h:p:=by have h:=C2.out w;rw[HQ.out]at h;exact h):=h
abbrev ZTu(h:p:=by go_at_call 19;(with_reducible refine(sh.out _ _ ex k5 jn).mono ?_);refine' Pf;obtain k:=_;exact k):=h
abbrev ZW0(h:p:=by refine' ZHT;obtain⟨F,hF⟩:∃F,Co (Gl Hk (ps.take k))=F:=⟨_,rfl⟩;exact ZL2):=h
abbrev ZKJ(h:p:=by refine' ZUh;clear ib;generalize ps[k]=x at *;obtain k:=_;exact k):=h
abbrev ZZW(h:p:=by refine' ZHO;refine' ZI;exact⟨_,p+4,rfl,V1,ik,ZA,HG.out⟩):=h
abbrev ZZm(h:p:=by obtain⟨a0,a1,a2,e0,e1,e2⟩:=B7 bv;have kZ:=aA bv;have mU:=aA mF;obtain k:=_;exact k):=h
abbrev ZV7(h:p:=by
 go_enter func150,ntmps150
 refine' ZC;refine HO.out.mono ?_;refine' ZU;obtain k:=_;exact k):=h
abbrev ZSg(h:p:=by refine' h_;refine' Zj;have nZ:=hp;unfold maxLen at nZ;refine' Yi;refine' zk;obtain k:=_;exact k):=h
abbrev ZEc(h:p:=by rw[aP ZA];obtain k:=_;exact k):=h
abbrev ZF3(h:p:=by exact Bb.of_read HD.out rfl B2.out):=h
abbrev ZGS(h:p:=by
 have gq:k<ps.length:=ZA
 obtain k:=_;exact k):=h
abbrev ZUs(h:p:=by
 go_wp2_with (go_at_call 368;refine H.out.mono ?_;rintro e w1 ⟨rfl,d1,q1,s1⟩)
 obtain k:=_;exact k):=h
abbrev ZRk(h:p:=by have:=aU List.length e;exact zV):=h
abbrev ZRv(h:p:=by
 have cx:(Cy.toList==[104,111,108,100])=true:=ZD
 generalize Cy=wd at *;obtain k:=_;exact k):=h
abbrev ZGa(h:p:=by have kv:=aA HC;clear HC ct;obtain k:=_;exact k):=h
abbrev ZWM(h:p:=by
 have cx:(Fm.toList==[104,101,108,100])=true:=ZD
 generalize Fm=wd at *;obtain k:=_;exact k):=h
abbrev ZGr(h:p:=by
 refine rR.out.mono ?_;refine' ZU
 obtain k:=_;exact k):=h
abbrev ZLb(h:p:=by have:=f3 p hp;omega):=h
abbrev ZUi(h:p:=by show _=_;rw[nt.out];exact AbL sf.out):=h
abbrev ZX2(h:p:=by
 have bz:=(hf.blk g rfl).2;have bf:c<=maxLen/\2<=c:=ZHR
 refine' ZL8;obtain k:=_;exact k):=h
abbrev ZZC(h:p:=by obtain⟨A',n',c',h1,h2,h3,h4,h5⟩:=h;injection h1 with e1 e2 e3;subst e1 e2 e3;obtain k:=_;exact k):=h
abbrev ZWP(h:p:=by refine' eK;have HN:=aA (fun W=>Fg f W hz);clear hz;generalize Am f=nv at *;obtain k:=_;exact k):=h
abbrev ZHV(h:p:=by ·refine' ZO;exact⟨Al (by simp[h1]),rfl⟩):=h
abbrev ZNr(h:p:=by
 have h1:=Int.emod_nonneg (y6 p.order c/Ky p.bins k) (show p.bins≠0 by omega)
 obtain k:=_;exact k):=h
abbrev ZJo(h:p:=by obtain⟨r,hr⟩:∃r,Gq net s=r:=⟨_,rfl⟩;obtain k:=_;exact k):=h
abbrev ZT3(h:p:=by have w2:aD.wrap ((i:Int)+1)=(i:Int)+1:=bG _ ZA;obtain k:=_;exact k):=h
abbrev ZIk(h:p:=by refine' ZZ;have l1:=aF w.heap.size w;obtain k:=_;exact k):=h
abbrev ZQg(h:p:=by
 have cx:(Ga.toList==[114,101,97,100])=true:=ZD
 generalize Ga=wd at *;obtain k:=_;exact k):=h
abbrev ZQh(h:p:=by have:=Cm c W ZN;exact We):=h
abbrev Qi(h:p:=by have H4:=aA h4;clear h4;obtain k:=_;exact k):=h
abbrev ZRq(h:p:=by
 have cx:(F4.toList==[115,101,97,108])=true:=ZD
 generalize F4=wd at *;obtain k:=_;exact k):=h
abbrev ZRu(h:p:=by
 have cx:(C8.toList==[112,97,115,115])=true:=ZD
 generalize C8=wd at *;obtain k:=_;exact k):=h
abbrev ZUc(h:p:=by rw[hq];exact bN _ h):=h
abbrev ZU9(h:p:=by
 have y0:(20:Int)<=(n:Int):=ZA
 have y1:(20:Int)<(n:Int):=ZA
 obtain k:=_;exact k):=h
abbrev ZVO(h:p:=by
 unfold Lib.compareBytes at h1 h2⊢;simp only[fA]at h1 h2⊢
 obtain k:=_;exact k):=h
abbrev ZWO(h:p:=by
 have cx:(Dl.toList==[102,97,116,101])=true:=ZD
 generalize Dl=wd at *;obtain k:=_;exact k):=h
abbrev ZWY(h:p:=by
 refine Ob (fun _=>?_) fun _=>?_
 .exact aI (Af8 _ _ _) ZA
 obtain k:=_;exact k):=h
abbrev ZYi(h:p:=by have:=ZCi r W ZA;exact Xm):=h
abbrev ZYo(h:p:=by have:=ZD7 r W ZA;exact Xm):=h
abbrev ZYq(h:p:=by have:=ZAT r W ZA;exact Xm):=h
abbrev ZLt(h:p:=by injection hc with hc;injection hc with _ hc _;obtain k:=_;exact k):=h
abbrev ZPR(h:p:=by
 refine' zN;obtain⟨r,ak⟩:∃r,Hid (Gg fs x.src=r):=⟨_,rfl⟩
 refine' ZC;obtain k:=_;exact k):=h
abbrev ZQy(h:p:=by have h:=b0.size;rw[kA.out]at h;omega):=h
abbrev ZLe(h:p:=by
 refine' gX;have k3:=aq.below z3;refine' ZHG
 obtain k:=_;exact k):=h
abbrev ZLP(h:p:=by
 refine' Ny;refine' Zy;have k1:=aq.below z1
 obtain k:=_;exact k):=h
abbrev ZUH(h:p:=by
 clear ho
 refine' Tt;generalize Lib.indexByte x.data.toList 62=j at *
 exact ZW1):=h
abbrev ZJw(h:p:=by refine' ZC;refine(ZCU _ net _ HV.out).mono ?_;obtain k:=_;exact k):=h
abbrev ZWZ(h:p:=by
 refine Ob (fun _=>?_) fun _=>?_
 .exact aI (AfC _ _ _) ZA
 obtain k:=_;exact k):=h
abbrev ZWc(h:p:=by
 refine' eE;have wY:(17:Int)<(d.size:Int):=ZA
 refine' Od;exact W_):=h
abbrev ZVq(h:p:=by
 go_enter func16,ntmps16
 refine' ZC;refine HK.out.mono ?_;refine' ZU;obtain k:=_;exact k):=h
abbrev ZVt(h:p:=by
 (with_reducible refine HC.out.mono ?_);refine' ZU;have B1:=aA b1;clear b1
 obtain k:=_;exact k):=h
abbrev ZQ3(h:p:=by have wn:aD.wrap (-(n:Int))= -(n:Int):=bG _ ZA;obtain k:=_;exact k):=h
abbrev ZZG(h:p:=by exact⟨b,o,hA,hb,ag,fun W hW=>(hW.cell (p:=⟨b,o+k,none⟩) hb).trans c1⟩):=h
abbrev ZNq(h:p:=by have:(f xs[k]==(i:Int))=false:=beq_eq_false_iff_ne.2 ZA;simp[this]):=h
abbrev ZWD(h:p:=by obtain⟨vL,vO,_,_,_,⟨c0,c1,c2,c3,_,_,_,_⟩,_,hL,hO,_⟩:=Ca hD;refine' ZaB;obtain k:=_;exact k):=h
abbrev ZS4(h:p:=by show _=_;rw[mZ.out,ou.out,sy];rfl):=h
abbrev ZVW(h:p:=by unfold Ap at h;refine' Yd;exact h.2):=h
abbrev ZUF(h:p:=by refine' ZHT;obtain⟨F,hF⟩:∃F,Jj (Fx (ps.take k))=F:=⟨_,rfl⟩;exact ZL2):=h
abbrev ZW7(h:p:=by refine' ZHT;obtain⟨F,hF⟩:∃F,C5 (Fx (ps.take k))=F:=⟨_,rfl⟩;exact ZL2):=h
abbrev ZHg(h:p:=by exact⟨0,[],aN _,rfl,l0,uo.out⟩):=h
abbrev ZIF(h:p:=by have nl:w.heap.size<=w3.heap.size:=lr.size;obtain k:=_;exact k):=h
abbrev ZIO(h:p:=by obtain⟨vo,vf,vh,h1,h2,h3,h4,h5,h6,h7⟩:=h;obtain k:=_;exact k):=h
abbrev ZFq(h:p:=by
 .have:=lV.length_le
  exact Q5):=h
abbrev ZFs(h:p:=by have dc:=aA (Aa kO.out b1);obtain k:=_;exact k):=h
abbrev ZRW(h:p:=by first|exact aF _ _|exact ld):=h
abbrev ZJX(h:p:=by (with_reducible refine(HR.out _ ld).mono ?_);obtain k:=_;exact k):=h
abbrev ZF0(h:p:=by
 go_enter func52,ntmps52
 obtain k:=_;exact k):=h
abbrev ZUC(h:p:=by
 have qZ:(Aj 32 t).length≠0:=fun e=>Pj t (bW e)
 obtain k:=_;exact k):=h
abbrev ZGd(h:p:=by
 go_enter func59,ntmps59
 obtain k:=_;exact k):=h
abbrev ZK7(h:p:=by rintro e w1 ⟨vB,vO,vs,rfl,qc,vD, -,b1⟩;obtain k:=_;exact k):=h
abbrev ZZK(h:p:=by have MQ:=(k5.block w3.heap.size ZA ZA).trans j8.out;obtain k:=_;exact k):=h
abbrev ZZi(h:p:=by have h:=(O3.out.rd.on (l8.trans (h.mono l8.size))).drop (k:=t) ZA;obtain k:=_;exact k):=h
abbrev ZIC(h:p:=by refine' ZC;refine(Dj _ fs _ HV.out).mono ?_;obtain k:=_;exact k):=h
abbrev ZID(h:p:=by refine' ZC;refine(Cn _ xs _ HB.out).mono ?_;obtain k:=_;exact k):=h
abbrev ZIc(h:p:=by refine' ZC;refine(Cn _ xs _ HV.out).mono ?_;obtain k:=_;exact k):=h
abbrev ZFy(h:p:=by refine' ZC;refine HC.out.mono ?_;obtain k:=_;exact k):=h
abbrev ZGZ(h:p:=by refine' ZC;refine HF.out.mono ?_;obtain k:=_;exact k):=h
abbrev ZNi(h:p:=by have y0:=Af de 0 (.int .i64 x.id) rfl;have y1:=Af de 1 (.string x.code) rfl;obtain k:=_;exact k):=h
abbrev ZON(h:p:=by rw[(ca.out HF.out).1];exact OA.out):=h
abbrev ZOO(h:p:=by rw[(ca.out HF.out).2];exact OB.out):=h
abbrev ZQq(h:p:=by have HS:=aA CO;have JK:=aA (fun w=>HS.out▸ZBm p.bins p.passes w);obtain k:=_;exact k):=h
abbrev ZRL(h:p:=by have s1:=(C9 (n:=bi) ZA).1;have s2:=(C9 (n:=pa) ZA).1;obtain k:=_;exact k):=h
abbrev ZYv(h:p:=by
 have EJ:B_ u1 U1:=by rw[lf];exact Zs
 have kU:=k1.below EJ;obtain k:=_;exact k):=h
abbrev ZZH(h:p:=by rw[eG _ _ _ _ _ _ DJ];rfl):=h
abbrev ZV0(h:p:=by show _=_;rw[HE.out,vC.out ag];rfl):=h
abbrev ZQ8(h:p:=by
 clear i8 jv
 dsimp only
 gi_wp2_with (refine' YT;gi_at_call 117;refine' X8)
 obtain k:=_;exact k):=h
abbrev ZN4(h:p:=by generalize xs[q]=y at *;have HM:=aA qu;clear qu hx e2 e3;refine' ZO;obtain k:=_;exact k):=h
abbrev ZQ4(h:p:=by
 clear h;go_enter func140,ntmps140
 refine' ZGh;refine' ZI;exact ZW):=h
abbrev Ur(h:p:=by rw[bI]at h1;obtain k:=_;exact k):=h
abbrev ZL9(h:p:=by first|rfl|trivial):=h
abbrev ZNw(h:p:=by rw[eG _ _ _ _ _ _ h1];rfl):=h
abbrev ZPy(h:p:=by obtain⟨k,hk⟩:∃k,rs.length=k+1:=⟨rs.length - 1,ZA⟩;rw[hk];obtain k:=_;exact k):=h
abbrev ZQW(h:p:=by
 go_enter func152,ntmps152
 go_wp2_with (go_at_call 231;refine' iB)
 obtain k:=_;exact k):=h
abbrev ZUD(h:p:=by rw[hg,bJ]at hl;omega):=h
abbrev ZYl(h:p:=by rw[bg];exact h.on (Ct.set_cut R _ _ _ _ _ _ (aC _) ZA)):=h
abbrev ZK4(h:p:=by rw[ac];exact X1):=h
abbrev ZZq(h:p:=by rw[ff.out,<-HX.out];exact P1.out):=h
abbrev ZMG(h:p:=by rw[aJ zI,eH];simp;rfl):=h
abbrev ZMf(h:p:=by
 generalize Jt p ms=r at *
 refine' ZI;exact⟨Al HF.out.symm,Aa HT.out l3⟩):=h
abbrev Zn(h:p:=by have HO:=aA hO;obtain k:=_;exact k):=h
abbrev ZH5(h:p:=by ·rw[aQ h2,aQ ZA];omega):=h
abbrev ZOl(h:p:=by
 have ca:Hid (∀h:Oj s xs=false,Iq s xs=[]):=fun h=>by unfold Iq;rw[h];rfl
 obtain k:=_;exact k):=h
abbrev ZQc(h:p:=by ·rw[List.getElem?_set_ne ZA];exact HJ.out j ZA IW):=h
abbrev ZJR(h:p:=by obtain⟨A2,n2,c2,rfl, -, -, -, -⟩:=o2.rd;obtain k:=_;exact k):=h
abbrev ZS7(h:p:=by exact⟨0,aN _,rfl,l0,fun j _ hj=>absurd hj (aX j)⟩):=h
abbrev ZTo(h:p:=by simp[ByteArray.data_extract,Array.toList_extract,List.extract_eq_take_drop]):=h
abbrev ZKV(h:p:=by have S0:Aside (SWK enc k w0 blk aw d w):=S;obtain k:=_;exact k):=h
abbrev ZK9(h:p:=by obtain⟨Ad,md,cd,rfl, -, -, -, -⟩:=ho.rd;obtain k:=_;exact k):=h
abbrev ZNE(h:p:=by rw[hB.2.1,bJ];omega):=h
abbrev ZJg(h:p:=by refine' zK;have B2:=aA (Aa B1.out b2);obtain k:=_;exact k):=h
abbrev ZO8(h:p:=by refine' ZPD;have HQ:Hid (Tw d xs=(Ka d xs&&Oj d.size (Dh d xs).round)):=rfl;obtain k:=_;exact k):=h
abbrev ZVu(h:p:=by refine' zJ;obtain⟨_,vO,_,_,_,⟨_,c1,c2,c3,_,_,_,_⟩,_,_,hO,_⟩:=Ca hD;obtain k:=_;exact k):=h
abbrev ZSD(h:p:=by
 have cx:(G3.toList==[100,97,121])=true:=ZD
 generalize G3=wd at *;obtain k:=_;exact k):=h
abbrev ZVM(h:p:=by unfold Jh;rw[aQ (by exact h)]):=h
abbrev ZUT(h:p:=by have:=(o3.1.blk _ e.symm).1;omega):=h
abbrev Zu(h:p:=by
 refine' Xv;go_end0
 obtain k:=_;exact k):=h
abbrev ZVm(h:p:=by rw[sq];exact bC w1 _):=h
abbrev ZGm(h:p:=by rw[br];rfl):=h
abbrev ZNL(h:p:=by have hO:=HO.out;have hF:=f9.out;rw[HE.out,bA]at hB hO hF⊢;obtain k:=_;exact k):=h
abbrev ZNZ(h:p:=by clear BU bv;refine' ZO;exact⟨Bo (by rw[HE.out]),Aa HT.out (Ba l0 _)⟩):=h
abbrev ZNp(h:p:=by unfold Fz Li;rw[HF.out];exact ZW):=h
abbrev ZUU(h:p:=by have:=aj.size;simp at this;omega):=h
abbrev ZWm(h:p:=by show _=_;unfold N5;rw[HO.out];rfl):=h
abbrev ZM1(h:p:=by
 have im:=aA nI;clear nI;have kV:=aA qy;clear qy
 refine' ZC;obtain k:=_;exact k):=h
abbrev ZEf(h:p:=by rw[bZ lH];obtain k:=_;exact k):=h
abbrev Yf(h:p:=by have fg:=aA hv;obtain k:=_;exact k):=h
abbrev ZE3(h:p:=by rw[HE.out,bA]at hB;obtain k:=_;exact k):=h
abbrev ZF1(h:p:=by simp only[dA]at hl;obtain k:=_;exact k):=h
abbrev ZGH(h:p:=by
 intro g5 tL w5 cg aj cy jn
 obtain k:=_;exact k):=h
abbrev N0(h:p:=by simp[c1]):=h
abbrev ZMx(h:p:=by rw[jk.out,BY.out];exact P2.out):=h
abbrev Yg(h:p:=by refine' YB;clear l0;obtain k:=_;exact k):=h
abbrev ZN9(h:p:=by rw[(ca.out HF.out).1];exact zj):=h
abbrev ZOA(h:p:=by rw[(ca.out HF.out).2];exact zj):=h
abbrev ZIK(h:p:=by simp at h1;omega):=h
abbrev ZFl(h:p:=by rw[da,aL bp];rfl):=h
abbrev ZNP(h:p:=by have nT:w0.heap.size<=w.heap.size+1:=eS kA.out;have jo:=j6;obtain k:=_;exact k):=h
abbrev ZJl(h:p:=by rw[Gp];exact ab):=h
abbrev ZSP(h:p:=by
 rcases h.form with⟨rfl,rfl⟩|⟨g,c,rfl,hg,ab,hc,hm⟩
 .exact rd.nil_
 obtain k:=_;exact k):=h
abbrev ZS0(h:p:=by have lN:=aA (ZAY (net:=net) (i:=s) (f:=g+1) cn.out);rw[HZ.out]at lN;obtain k:=_;exact k):=h
abbrev ZUb(h:p:=by
 obtain⟨q,qs,hq⟩:=BdY (Vx c l)
 rw[Nk hb hq]at h;obtain k:=_;exact k):=h
abbrev ZKZ(h:p:=by rw[Z2.out];omega):=h
abbrev ZKb(h:p:=by rw[Z3.out];omega):=h
abbrev ZVn(h:p:=by rw[sq];exact b1.alloc b1.size _):=h
abbrev ZLo(h:p:=by simp at hi;omega):=h
abbrev ZGk(h:p:=by
 subst e0
 refine' ZT;rw[AlO,AlJ];obtain k:=_;exact k):=h
abbrev ZFZ(h:p:=by
 intro l x W K hK
 gi_wp2
 exact hK):=h
abbrev ZUa(h:p:=by
 subst hb
 rw[Yw]at h;rcases List.mem_cons.1 h with h|h
 .subst h;exact zC
 obtain k:=_;exact k):=h
abbrev ZXB(h:p:=by refine na.out.mono ?_;refine' Ye;have HO:=aA o1;have HB:=aA b1;obtain k:=_;exact k):=h
abbrev ZH0(h:p:=by rintro e w3 ⟨vB,vO,vs,rfl,hB,hR,hF,b3⟩;obtain k:=_;exact k):=h
abbrev ZPi(h:p:=by have j5:((xs.length:Int)==0)=false:=beq_eq_false_iff_ne.2 ZA;obtain k:=_;exact k):=h
abbrev ZJM(h:p:=by
 have LO:¬(ps.length:Int)<3:=ZA
 obtain k:=_;exact k):=h
abbrev ZJN(h:p:=by have HR:Hid (Ey t=⟨0,0,[]⟩):=ZEC HQ.out;obtain k:=_;exact k):=h
abbrev ZRi(h:p:=by rcases hc with rfl|rfl<;>decide):=h
abbrev ZJb(h:p:=by simp[Value.ownBlock]):=h
abbrev ZUr(h:p:=by exact h.g _ _ ZA ZA ZA ZA):=h
abbrev ZK0(h:p:=by ·exact aI (Du _) ZA):=h
abbrev ZLK(h:p:=by (with_reducible refine(eo.out _).mono ?_);obtain k:=_;exact k):=h
abbrev ZMK(h:p:=by
 go_wp2_with (go_at_call 220;refine(AsW _ _ hs).mono ?_;refine' zW)
 go_ret;obtain k:=_;exact k):=h
abbrev ZML(h:p:=by rw[ao.out Yn];rfl):=h
abbrev ZKr(h:p:=by refine' ZI;exact Bb.of_read HD.out rfl b1):=h
abbrev ZTc(h:p:=by refine' ZQ;exact⟨_,Bf ZGK,by rw[HE.out];exact im.out,l2⟩):=h
abbrev ZHq(h:p:=by go_at_call 171;refine(HC.out _ ld).mono ?_;obtain k:=_;exact k):=h
abbrev ZVj(h:p:=by refine' ze;exact aI (bL _ _) zF):=h
abbrev ZWr(h:p:=by
 go_enter func66,ntmps66
 go_wp2_with (go_at_call 94;refine' iB)
 obtain k:=_;exact k):=h
abbrev ZYT(h:p:=by
 have:=Cm f W hz
 rwa [ho]at this):=h
abbrev ZLv(h:p:=by have HG:=aA (vU er a6);refine' ZC;obtain k:=_;exact k):=h
abbrev ZZv(h:p:=by have:=(o2.blk _ e.symm).1;omega):=h
abbrev ZUZ(h:p:=by simp[s_]at h;subst h;exact iE):=h
abbrev ZZj(h:p:=by
 rw[hq]at ef
 have s7:(F.toList==t.toList)=false:=hq;clear hq
 refine' ZQ;obtain k:=_;exact k):=h
abbrev ZPC(h:p:=by
 refine' Y4;have l2:=Aa lb b2;have O2:=aA o2;clear o2 b2
 refine' ZQ;obtain k:=_;exact k):=h
abbrev ZMa(h:p:=by
 rw[bZ lH,bZ ZA]
 obtain k:=_;exact k):=h
abbrev ZN0(h:p:=by
 .simp only[fD]
  exact⟨hx _ (aS hk),rfl⟩):=h
abbrev ZOH(h:p:=by exact⟨0,aN _,rfl,l1,own.nil_ _ _ _,own.nil_ _ _ _,.inl rfl⟩):=h
abbrev ZTr(h:p:=by replace ey:wA.grownBy w1 (some g):=vU (cQ wA _ _) ey;obtain k:=_;exact k):=h
abbrev ZJ5(h:p:=by simpa using jd):=h
abbrev ZKA(h:p:=by simpa using ab):=h
abbrev ZM5(h:p:=by generalize D9 f K (ws.take q)=L at *;generalize Bn f (ws.take q)=rs at *;obtain k:=_;exact k):=h
abbrev ZKe(h:p:=by simp at h;omega):=h
abbrev ZOg(h:p:=by
 rw[iK]
 exact(h3.sublist dR).imp fun h=>h):=h
abbrev ZZ2(h:p:=by have hp:10^k<=10^16:=gH ZE ZA;obtain k:=_;exact k):=h
abbrev ZSW(h:p:=by have ab:=hr.lt;obtain⟨i0,hi,ah,sr,mN⟩:=dD Tryz.infoRul;obtain k:=_;exact k):=h
abbrev ZRY(h:p:=by rw[HR.out,HQ.out,qt.out];rfl):=h
abbrev ZTP(h:p:=by
 have wS:decide (q<0)=true:=aL bc
 have IY:=aA bc;obtain k:=_;exact k):=h
abbrev ZT4(h:p:=by have:(-1:Int)=(i:Int):=h;omega):=h
abbrev ZU2(h:p:=by
 have nl:mid<en:=ZA
 have NA:(mid:Int)<(en:Int):=ZA
 obtain k:=_;exact k):=h
abbrev ZTi(h:p:=by go_wp2;go_ret2;exact⟨_,Bf ZGK,by rw[HE.out];exact ZJ1,l5⟩):=h
abbrev ZZV(h:p:=by refine' zo;show 5+_<=_;omega):=h
abbrev ZZX(h:p:=by refine' zo;show _+5<=_;omega):=h
abbrev ZUR(h:p:=by
 clear HC jc y0 y1 hv ho
 gi_wp2_with (refine' ZFb;refine' ZFc)
 exact ZI9):=h
abbrev ZUM(h:p:=by generalize net[k]=x at *;obtain⟨nm,rs⟩:=x;simp only at BK y1 y2 ag;obtain k:=_;exact k):=h
abbrev ZXJ(h:p:=by unfold jB;refine' ZJe;simp[h]):=h
abbrev ZY5(h:p:=by rw[<-q9];have:=ZCQ 10 t;omega):=h
abbrev ZPv(h:p:=by
 show _=_;rw[qY.out,lm.out ZA,kJ.out]
 congr 1
 refine Cv ?_;obtain k:=_;exact k):=h
abbrev ZZk(h:p:=by
 rw[hq]at ef
 have s7:(F.toList==t.toList)=true:=hq;clear hq
 refine' ZQ;obtain k:=_;exact k):=h
abbrev Qf(h:p:=by rw[gP,hy];obtain k:=_;exact k):=h
abbrev gU(h:p:=by split<;>rfl):=h
abbrev ZR4(h:p:=by have kJ:Hid (Ih xss[k]=jC xss[k]++⟨#[58]⟩++Cl xss[k].length):=rfl;obtain k:=_;exact k):=h
abbrev ZSf(h:p:=by
 have hl:∀s:Y_,s.data.toList.length=s.size:=fun s=>ZF
 obtain k:=_;exact k):=h
abbrev ZJ2(h:p:=by exact⟨ZF,ZH,qu⟩):=h
abbrev ZPk(h:p:=by
 obtain⟨b,o,rfl,hb,⟨⟨km,lI⟩,jw⟩,y1,y2⟩:=HR.out.ltrU k ab
 obtain k:=_;exact k):=h
abbrev Pa(h:p:=by refine iW 2 ?_;obtain k:=_;exact k):=h
abbrev ZGu(h:p:=by refine(HC.out _ k0.lay).mono ?_;obtain k:=_;exact k):=h
abbrev ZIQ(h:p:=by refine' ZO;exact⟨Al HF.out.symm,rfl⟩):=h
abbrev ZIP(h:p:=by refine' ZI;exact⟨Al HR.out.symm,rfl⟩):=h
abbrev ZHe(h:p:=by have:=mg.out;omega):=h
abbrev ZNU(h:p:=by rw[<-h];exact Lw v xs c w hv):=h
abbrev ZJ8(h:p:=by refine' e_;obtain⟨⟨h1,h2⟩,h3⟩:=h;obtain k:=_;exact k):=h
abbrev Tn(h:p:=by
 refine' ZP;refine' ZI
 obtain k:=_;exact k):=h
abbrev ZQb(h:p:=by
 have bd:(k:Int)<8:=ZA
 have HC:=aA (HG.out k ab w1 av);obtain k:=_;exact k):=h
abbrev ZQp(h:p:=by rw[E0.out,HQ.out,H5.out];simp):=h
abbrev Vl(h:p:=by refine' ZT;rw[if1,if2];obtain k:=_;exact k):=h
abbrev ZSd(h:p:=by obtain⟨g,hg⟩:=AgF ho;omega):=h
abbrev ZTW(h:p:=by
 obtain⟨j,hj⟩:=aK ho
 obtain⟨vp,JM⟩:=AsU hj;obtain k:=_;exact k):=h
abbrev ZTs(h:p:=by have k1:=kE.step ey (aC _);have o1:=oE.grown ey (l_ oE ab);obtain k:=_;exact k):=h
abbrev ZWJ(h:p:=by
 refine' ZKi;have dh:(Df.toList==[115,111,114,116])=false:=ZD
 obtain k:=_;exact k):=h
abbrev ZV6(h:p:=by
 obtain⟨f1,f2,f3⟩:=ZDQ h
 have q9:=Lm (n:=9) f2 fun p hp=>(f3 p hp).2
 obtain k:=_;exact k):=h
abbrev ZWK(h:p:=by
 refine' ZaG;have dh:(Bg.toList==[115,111,114,116])=false:=ZD
 obtain k:=_;exact k):=h
abbrev ZXe(h:p:=by
 refine' ZZ9;have dh:(Es.toList==[115,111,114,116])=false:=ZD
 obtain k:=_;exact k):=h
abbrev ZWl(h:p:=by show _=_;rw[HT.out];exact mt):=h
abbrev ZHz(h:p:=by subst hn;unfold maxLen at px;refine' iH;obtain k:=_;exact k):=h
abbrev ZP7(h:p:=by
 have j5:((rs.length:Int)==0)=true:=ZE9
 clear ag h0
 exact Wr):=h
abbrev ZSG(h:p:=by obtain⟨A,n,cp,rfl,hn,hc,hm,hr⟩:=hb;subst hn;unfold maxLen at hm rz;obtain k:=_;exact k):=h
abbrev ZZL(h:p:=by
 obtain⟨Ah,nh,ch,WL,EO,_,_,_⟩:=HH.out.rd;subst EO WL
 refine' ZC;obtain k:=_;exact k):=h
abbrev ZaC(h:p:=by show _=_;unfold Eu;rw[h1];rfl):=h
abbrev ZNT(h:p:=by
 have P5:=aA p5;have P6:=aA p6;clear p1 p2 p3 p5 p6 gi;go_wp2
 obtain k:=_;exact k):=h
abbrev ZQi(h:p:=by
 go_enter func180,ntmps180
 refine' ZC;refine' iB;refine' ZC;obtain k:=_;exact k):=h
abbrev ZN5(h:p:=by replace ey:w.grownBy w1 (some g):=vU (cQ w _ _) ey;obtain k:=_;exact k):=h
abbrev ZWb(h:p:=by have h0i:((d.size:Int)==0)=false:=beq_eq_false_iff_ne.2 ZA;obtain k:=_;exact k):=h
abbrev ZMT(h:p:=by
 refine⟨k+1,ZA,ZJ,oW,fun j hj=>?_⟩;refine' Ue
 obtain k:=_;exact k):=h
abbrev ZIu(h:p:=by rw[HE.out];rfl):=h
abbrev ZTS(h:p:=by
 have rS:¬(y.src.size:Int)<(x.src.size:Int):=ZA
 refine' Zf;obtain k:=_;exact k):=h
abbrev ZTt(h:p:=by have:=(SJ.out j hj).1;omega):=h
abbrev ZXF(h:p:=by
 obtain⟨b,o,rfl,hb,_,y1,_⟩:=HR.out.fwdU k ab
 have h7:=HC.out k ab;obtain k:=_;exact k):=h
abbrev ZXm(h:p:=by
 have ci:(Gn.toList==[99,111,100,101])=false:=ZD
 refine' ZQf;obtain k:=_;exact k):=h
abbrev ZYR(h:p:=by
 refine' ZHB;have l8:B_ wB w8:=l7.trans (Ay o7 il gm)
 obtain k:=_;exact k):=h
abbrev ZZt(h:p:=by
 refine' ZHB;have l8:B_ W3 w8:=l7.trans (Ay o7 il gm)
 obtain k:=_;exact k):=h
abbrev ZY8(h:p:=by rw[yg.out HE.out];exact j6):=h
abbrev ZQ1(h:p:=by show _=_;unfold x_;simp[h0]):=h
abbrev ZMg(h:p:=by refine' zG;refine(AwD _ _ p xss k _ HP.out HB.out).mono ?_;refine' zh;obtain k:=_;exact k):=h
abbrev ZRU(h:p:=by have mH:=aA o1;generalize ps[0]=p0 at *;generalize ps[1]=p1 at *;obtain k:=_;exact k):=h
abbrev ZVz(h:p:=by refine' ZGA;generalize Gs p xs k=L at *;generalize Fz p xs k=bins at *;obtain k:=_;exact k):=h
abbrev ZNJ(h:p:=by refine' ZC;refine(ZEK (HM.out.on jt) hq).mono ?_;clear hq;refine' fO;obtain k:=_;exact k):=h
abbrev ZUg(h:p:=by have y1:=y1 w2 (aF _ _);cases rG;subst rm;clear se q_ oT;obtain k:=_;exact k):=h
abbrev ZYG(h:p:=by refine' W7;clear hS hf x0;clear ho;generalize N6 s.day.fwds a=xs at *;obtain k:=_;exact k):=h
abbrev ZH8(h:p:=by exact(Array.getElem?_eq_some_iff.1 h1).1):=h
abbrev ZIe(h:p:=by have ld:=Ag (aF w2.heap.size w2);obtain k:=_;exact k):=h
abbrev ZFe(h:p:=by simp[rV]):=h
abbrev ZJU(h:p:=by obtain⟨A,n,c,rfl, -, -, -, -⟩:=ho.rd;obtain k:=_;exact k):=h
abbrev ZGG(h:p:=by simp[fi]):=h
abbrev ZTk(h:p:=by
 .go_ret
  exact⟨Al (HI.out _ (ao.out ZMF)).symm,rfl⟩):=h
abbrev ZI1(h:p:=by
 go_enter func72,ntmps72;go_wp2
 obtain k:=_;exact k):=h
abbrev ZQ7(h:p:=by unfold zU at jv;exact jv):=h
abbrev ZJ6(h:p:=by
 rw[ZCn]at h;have hg:=Lib.indexByte_ge s c
 obtain k:=_;exact k):=h
abbrev ZT8(h:p:=by rw[ZCa];rfl):=h
abbrev ZIg(h:p:=by refine' ZGp;rw[aQ hz]at HD;exact ZaA):=h
abbrev ZIi(h:p:=by refine' ZGp;rw[aM hz]at HD;exact ZaA):=h
abbrev ZWS(h:p:=by
 rintro e w3 ⟨rfl,h3⟩
 refine' ZI;exact Bb.pre L2.out ⟨rfl,h3⟩):=h
abbrev ZWt(h:p:=by
 go_at_call 183;refine(AG.out _ lr).mono ?_;rintro e w4 ⟨rfl,l4⟩
 obtain k:=_;exact k):=h
abbrev ZTX(h:p:=by refine' Sm;refine' fS;refine' zk;have LS:=(D1.1 hk).1;refine' gV;obtain k:=_;exact k):=h
end Go.Proofs.YtfadhdacjpmmeaaGreatDoor
