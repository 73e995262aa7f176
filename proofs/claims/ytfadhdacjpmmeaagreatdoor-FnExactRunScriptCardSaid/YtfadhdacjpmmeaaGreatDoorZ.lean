/- Parts. -/
import Derived.Lib.Hide
import Derived.Test.YtfadhdacjpmmeaaGreatDoorChecked
import Derived.OwnWalkIn
import Derived.Deep.RegionHeld3
import Derived.Deep.LoopGhost
import Derived.StillTailTactics
import Derived.Handy
import Derived.LoopIn
import Derived.Shelf.SlSortCmp.QuietGrown
set_option linter.unusedVariables false
set_option linter.unusedSimpArgs false
namespace Go.Proofs.YtfadhdacjpmmeaaGreatDoor
open Go.IntKind renaming i64→aI
open Go.Obj renaming cells→aC
open Go.Proofs.Tryz renaming prog→aB
open Go.Value renaming string→aK,int→bC
abbrev aA:=@Go.Lib.hid
abbrev aD:=@Nat.le_refl
abbrev aF:=@Go.RowKit.Below.refl
abbrev aG:=@Nat.le_trans
abbrev aH:=@List.take_succ_eq_append_getElem
abbrev aJ:=@decide_eq_true
abbrev aL:=@if_neg
abbrev aM:=@Nat.zero_le
abbrev aN:=@Bool.and_eq_true
abbrev aO:=@decide_eq_false
abbrev aP:=@if_pos
abbrev aQ:=@Int.eq_ofNat_of_zero_le
abbrev aR:=@List.getElem?_eq_getElem
abbrev aS:=@List.length_append
abbrev aT:=@congrArg
abbrev aU:=@List.getElem_mem
abbrev aV:=@Go.Proofs.Tryz.underlying27
abbrev aW:=@Go.Proofs.Tryz.underlying28
abbrev aX:=@Nat.not_lt_zero
abbrev aY:=@List.take_length
abbrev aZ:=@Or.inl
abbrev bA:=@List.take_of_length_le
abbrev bB:=@decide_eq_true_iff
abbrev bD:=@Go.heap_alloc_new
abbrev bE:=@Int.toNat_natCast
abbrev bF:=@List.length_map
abbrev bG:=@ByteArray.size_append
abbrev bH:=@List.length_take
abbrev bI:=@Go.IntWalk.i64_in
abbrev bJ:=@List.length_filter_le
abbrev bK:=@List.mem_cons_of_mem
abbrev bL:=@List.getD_eq_getElem?_getD
abbrev bN:=@List.getElem_append_left
abbrev bO:=@List.getElem_of_mem
abbrev bP:=@Go.RowKit.Below.heap_setCell
abbrev bQ:=@List.eq_nil_of_length_eq_zero
abbrev bR:=@Go.ByteArray.toList_eq
abbrev bT:=@List.flatten_append
abbrev bU:=@Nat.lt_of_lt_of_le
abbrev bV:=@List.nil_append
abbrev bW:=@Nat.zero_add
abbrev bX:=@List.getElem_append_right
abbrev bY:=@List.append_assoc
abbrev bZ:=@List.length_cons
abbrev cC:=@Nat.mul_le_mul
abbrev cD:=@List.map_cons
abbrev cE:=@List.length_singleton
abbrev cG:=@Go.heap_setCell_same
abbrev cK:=@List.length_nil
abbrev cQ:=@List.map_append
abbrev cT:=@List.flatten_cons
abbrev cU:=@Go.World.grownBy.refl
abbrev cZ:=@List.drop_eq_getElem_cons
abbrev dA:=@Nat.add_zero
abbrev dB:=@List.cons_append
abbrev dC:=@Go.Proofs.Tryz.underlying9
abbrev dD:=@List.take_zero
abbrev dE:=@beq_iff_eq
abbrev dF:=@List.filter_sublist
abbrev dG:=@List.pairwise_iff_getElem
abbrev dH:=@Go.RowKit.Below.heap_alloc
abbrev dI:=@List.ext_getElem
abbrev dJ:=@Go.Proofs.Tryz.underlying3
abbrev dK:=@List.drop_eq_nil_of_le
abbrev dL:=@List.getElem_cons_zero
abbrev dM:=@Go.Proofs.Tryz.zeroValue3
abbrev dN:=@List.all_eq_true
abbrev dO:=@List.length_drop
abbrev dP:=@List.size_toArray
abbrev dQ:=@decide_eq_true_eq
abbrev dR:=@List.mem_take_iff_getElem
abbrev dS:=@List.all_append
abbrev dU:=@Go.Proofs.Tryz.underlying4
abbrev dV:=@List.filterMap_cons
abbrev dW:=@List.take_append_drop
abbrev dX:=@Go.Proofs.Tryz.underlying31
abbrev dY:=@List.mem_of_mem_take
abbrev dZ:=@Nat.mul_one
abbrev eA:=@Go.info_parts
abbrev eB:=@List.append_nil
abbrev eC:=@List.mem_append
abbrev eD:=@Go.Proofs.Tryz.zeroValue9
abbrev eE:=@ByteArray.size_extract
abbrev eF:=@Go.Proofs.Tryz.underlying5
abbrev eG:=@Go.Proofs.Tryz.underlying24
abbrev eH:=@Bool.and_eq_false_iff
abbrev eI:=@UInt8.lt_iff_toNat_lt
abbrev eJ:=@Nat.le_of_eq
abbrev eK:=@Go.Proofs.Tryz.sizeOf3
abbrev eL:=@Go.Proofs.Tryz.zeroValue4
abbrev eM:=@Nat.pow_le_pow_right
abbrev eN:=@Go.Proofs.Tryz.underlying0
abbrev eO:=@decide_eq_false_iff_not
abbrev eP:=@Nat.lt_trichotomy
abbrev eQ:=@Go.Proofs.Tryz.underlying82
abbrev eS:=@Go.wp_loop_rounds
abbrev eT:=@List.length_set
abbrev eU:=@Nat.add_mul
abbrev eV:=@Go.Proofs.Tryz.isAgg3
abbrev eW:=@Go.Proofs.Tryz.zeroValue0
abbrev eX:=@List.getElem?_eq_none
abbrev eY:=@Bool.not_eq_true
abbrev eZ:=@List.getElem_map
abbrev fA:=@Go.Proofs.Tryz.underlying147
abbrev fB:=@Go.Proofs.Tryz.underlying229
abbrev fC:=@Bool.true_and
abbrev fD:=@Nat.zero_mul
abbrev fE:=@Go.Proofs.Tryz.sizeOf9
abbrev fF:=@Go.World.cell?_setCells_out
abbrev fG:=@Nat.le_succ
abbrev fH:=@Go.cell_of_row
abbrev fI:=@Bool.not_eq_true'
abbrev fJ:=@Go.Proofs.Tryz.zeroValue229
abbrev fK:=@List.range_succ
abbrev fL:=@Go.Proofs.Tryz.zeroValue5
abbrev fM:=@List.getElem_set_ne
abbrev fN:=@Go.Proofs.Tryz.sizeOf4
abbrev fO:=@getElem!_pos
abbrev fP:=@Go.Proofs.Tryz.isAgg9
abbrev fQ:=@Go.rounds_succ
abbrev fR:=@List.flatten_nil
abbrev fS:=@Nat.lt_succ_self
abbrev fT:=@List.exists_cons_of_ne_nil
abbrev fU:=@List.mem_cons_self
abbrev fV:=@List.pairwise_cons
abbrev fW:=@List.take_prefix_take_left
abbrev fY:=@Go.Proofs.Tryz.underlying254
abbrev fZ:=@Go.World.cell?_setCell_other
abbrev gA:=@Array.replicate_succ
abbrev gB:=@Array.replicate_zero
abbrev gC:=@List.map_nil
abbrev gD:=@List.pairwise_map
abbrev gE:=@Nat.lt_or_ge
abbrev gG:=@Go.Proofs.Tryz.isAgg4
abbrev gH:=@Go.Proofs.Tryz.sizeOf0
abbrev gI:=@Go.Proofs.Tryz.underlying36
abbrev gJ:=@Go.Proofs.Tryz.zeroValue254
abbrev gK:=@of_decide_eq_true
abbrev gL:=@Array.length_toList
abbrev gM:=@List.append_toArray
abbrev gN:=@List.Perm.refl
abbrev gO:=@List.filter_cons
abbrev gP:=@Option.getD_some
abbrev gQ:=@Or.inr
abbrev gR:=@Go.Proofs.Tryz.sizeOf229
abbrev gS:=@Go.Proofs.Tryz.isAgg0
abbrev gT:=@ByteArray.data_extract
abbrev gU:=@List.filter_append
abbrev gV:=@List.getElem_cons_succ
abbrev gW:=@List.getElem_replicate
abbrev gX:=@List.map_map
abbrev gY:=@Go.Proofs.Tryz.sizeOf5
abbrev gZ:=@UInt8.toNat_ofNat'
abbrev iA:=@of_decide_eq_false
abbrev iB:=@Go.Proofs.Tryz.isAgg229
abbrev iC:=@Go.Proofs.enters_of
abbrev iD:=@List.getElem_set_self
abbrev iE:=@List.length_replicate
abbrev iF:=@List.getElem?_map
abbrev iG:=@List.getElem_drop
abbrev iH:=@List.push_toArray
abbrev iI:=@Go.Proofs.Tryz.underlying61
abbrev iJ:=@Array.getElem?_append_left
abbrev iK:=@Nat.mul_le_mul_right
abbrev iL:=@Nat.one_mul
abbrev iM:=@Go.Proofs.Tryz.isAgg5
abbrev iN:=@Go.Proofs.Tryz.sizeOf254
abbrev iO:=@List.getElem_set
abbrev iP:=@Nat.le_of_lt
abbrev iQ:=@Go.World.size_alloc
abbrev iS:=@Int.toNat_of_nonneg
abbrev iT:=@Go.Proofs.Tryz.isAgg254
abbrev iU:=@Bool.eq_iff_iff
abbrev iV:=@Bool.or_eq_true
abbrev iW:=@Bool.false_eq_true
abbrev iX:=@List.getElem?_take
abbrev iY:=@Go.World.cell?_setCells_in
abbrev iZ:=@List.ext_getElem?
abbrev jA:=@List.flatMap_cons
abbrev jB:=@List.foldl_append
abbrev jC:=@List.getElem_take
abbrev jD:=@Nat.le_succ_of_le
abbrev jE:=@Option.some.injEq
abbrev jF:=@List.perm_middle
abbrev jG:=@Nat.min_eq_right
abbrev jH:=@Nat.add_assoc
abbrev jI:=@And.intro
variable{p:Prop}
theorem ZAy(h:p:=by
 have q0:∀W,duo w 36 #[.slice AL s.letters.length cL,.int .i64 s.day.plan.bins,.int .i64 s.day.plan.passes,.slice AO s.day.plan.order.length cO,.slice AF s.day.fwds.length cF,.slice AH s.day.held.length cH,.int .i64 s.day.size,.slice AN s.net.length cN] false W→W.cell? ⟨w.heap.size,0,none⟩=some (.slice AL s.letters.length cL):=fun W h=>(Ac h.box).1.1
 have q1:∀W,duo w 36 #[.slice AL s.letters.length cL,.int .i64 s.day.plan.bins,.int .i64 s.day.plan.passes,.slice AO s.day.plan.order.length cO,.slice AF s.day.fwds.length cF,.slice AH s.day.held.length cH,.int .i64 s.day.size,.slice AN s.net.length cN] false W→W.cell? ⟨w.heap.size,1,none⟩=some (.int .i64 s.day.plan.bins):=fun W h=>(Ac h.box).1.2.1
 have q2:∀W,duo w 36 #[.slice AL s.letters.length cL,.int .i64 s.day.plan.bins,.int .i64 s.day.plan.passes,.slice AO s.day.plan.order.length cO,.slice AF s.day.fwds.length cF,.slice AH s.day.held.length cH,.int .i64 s.day.size,.slice AN s.net.length cN] false W→W.cell? ⟨w.heap.size,2,none⟩=some (.int .i64 s.day.plan.passes):=fun W h=>(Ac h.box).1.2.2.1
 have q3:∀W,duo w 36 #[.slice AL s.letters.length cL,.int .i64 s.day.plan.bins,.int .i64 s.day.plan.passes,.slice AO s.day.plan.order.length cO,.slice AF s.day.fwds.length cF,.slice AH s.day.held.length cH,.int .i64 s.day.size,.slice AN s.net.length cN] false W→W.cell? ⟨w.heap.size,3,none⟩=some (.slice AO s.day.plan.order.length cO):=fun W h=>(Ac h.box).1.2.2.2.1
 have q4:∀W,duo w 36 #[.slice AL s.letters.length cL,.int .i64 s.day.plan.bins,.int .i64 s.day.plan.passes,.slice AO s.day.plan.order.length cO,.slice AF s.day.fwds.length cF,.slice AH s.day.held.length cH,.int .i64 s.day.size,.slice AN s.net.length cN] false W→W.cell? ⟨w.heap.size,4,none⟩=some (.slice AF s.day.fwds.length cF):=fun W h=>(Ac h.box).1.2.2.2.2.1
 have q5:∀W,duo w 36 #[.slice AL s.letters.length cL,.int .i64 s.day.plan.bins,.int .i64 s.day.plan.passes,.slice AO s.day.plan.order.length cO,.slice AF s.day.fwds.length cF,.slice AH s.day.held.length cH,.int .i64 s.day.size,.slice AN s.net.length cN] false W→W.cell? ⟨w.heap.size,5,none⟩=some (.slice AH s.day.held.length cH):=fun W h=>(Ac h.box).1.2.2.2.2.2.1
 have q6:∀W,duo w 36 #[.slice AL s.letters.length cL,.int .i64 s.day.plan.bins,.int .i64 s.day.plan.passes,.slice AO s.day.plan.order.length cO,.slice AF s.day.fwds.length cF,.slice AH s.day.held.length cH,.int .i64 s.day.size,.slice AN s.net.length cN] false W→W.cell? ⟨w.heap.size,6,none⟩=some (.int .i64 s.day.size):=fun W h=>(Ac h.box).1.2.2.2.2.2.2.1
 have q7:∀W,duo w 36 #[.slice AL s.letters.length cL,.int .i64 s.day.plan.bins,.int .i64 s.day.plan.passes,.slice AO s.day.plan.order.length cO,.slice AF s.day.fwds.length cF,.slice AH s.day.held.length cH,.int .i64 s.day.size,.slice AN s.net.length cN] false W→W.cell? ⟨w.heap.size,7,none⟩=some (.slice AN s.net.length cN):=fun W h=>(Ac h.box).1.2.2.2.2.2.2.2
 obtain k:=_;exact k):p:=h
theorem ZAD(h:p:=by
 show Bu _ _ _ _ _ _ _ _ (Act.put _ (some 63) _) _
 refine' ZU;refine Bk (rs:=[8]) ZB ZE ?_;refine' ZA2;(refine Bl (α:=ByteArray) ZG (.tmp 60) (.tmp 63) 28 ZG W3.heap.size 9 i0 _ 16 aW hi ah aw aq rfl ZF (.slice (some ⟨G8,0,none⟩) (LT.length+1) c8) (LT++[x]) ZG (gy.out.drew) _ LD ZG _ (ni.out _ (Ag (aF _ _))) jw ef fm ?_;intro v9 w9 o9 lO _;have l9:Below W3.heap.size W3 w9:=(l8.trans ((Ag (aF w8.heap.size w8)).mono l8.size)).trans (Ay gy.out.drew lO fm);have dh:=l3.trans (l9.mono l3.size);have fo:=ml _ dh;have fp:=mm _ dh;obtain⟨r0,r1,r2,f0,f1,f2⟩:=B7 (jo.out _ dh);obtain⟨A9,n9,c9,rfl, -, -, -, -⟩:=o9.rd;have O9:=aA o9;clear o9)
 refine hK.out _ _ (fun _=>⟨fo,fp⟩) (fun aa=>?_);refine' ZBd;refine' ZGS;go_simp;refine hK.out _ _ (fun _=>⟨fo,fp⟩) (fun aa=>?_);refine' ZBd;refine Bk (rs:=[10]) ZB ZE ?_;refine' ZA2;go_simp;refine hK.out _ _ (fun _=>⟨(Eb (Nat.ne_of_lt (fS _)) _ _ _).trans fo,(Eb (Nat.ne_of_lt (fS _)) _ _ _).trans fp⟩) (fun aa=>?_);refine' ZBd;refine' ZEE;go_simp;refine hK.out _ _ (fun h=>absurd rfl h) (fun _=>?_);clear hK K aa
 refine' ZU;refine J2 ZB ?_ _;have aj:=aA (jo.out _ dh);have nt:=aA (cy.out.trans (dh.mono cy.out.size));have a6:w.heap.size+1<W3.heap.size:=bU (Array.getElem?_eq_some_iff.1 il.out).1 l3.size;clear l9 dh k0 k1 nl np fo fp r0 r1 r2 f0 f1 f2 l8 dx l3 u0 u1 ml mm sF sG
 refine' ZC;refine Ax rfl rfl (Bp aj.out) Tryz.underlying30 rfl Tryz.sizePlK rfl ?_;refine⟨.slice A9 n9 c9,by rw[lT.out,ee.out];rfl,?_,Ai (Ai (Ai nt.out (fG _) _) (fG _) _) (fG _) _⟩;rw[lT.out];show own _ _ _ _ (Ju p.order f t);rw[ry.out,oh.out,kQ.out,lM.out,show LT++x::LD=LT++[x]++LD by simp];exact(Bd (Bd (Bd O9.out ⟨w.heap.size+1,0,none⟩ _ a6) ⟨w.heap.size+1,1,none⟩ _ a6) ⟨w.heap.size+1,2,none⟩ _ a6).base_ (iP (Nat.lt_of_succ_lt a6))):p:=h
theorem ZD(h:p:=by rw[bR];decide):p:=h
theorem ZA(h:p:=by omega):p:=h
theorem ZKA(h:p:=by refine' ZKB;refine' ZJj;obtain k:=_;exact k):p:=h
theorem ZUd(h:p:=by
 simp only[Act.put,List.setIfInBounds_toArray,List.set_cons_zero,List.set_cons_succ]
 obtain k:=_;exact k):p:=h
theorem ZJz(h:p:=by
 refine' YM;refine' ZKC;obtain⟨W2,be⟩:∃u,u=w8.setCell ⟨w.heap.size,5,none⟩ (.slice (some ⟨G8,0,none⟩) (s.day.held.length+1) c8):=⟨_,rfl⟩;rw[←be];have k8:=k0.below l8;have jX:own 9 wB.heap.size W2 (.slice (some ⟨G8,0,none⟩) (s.day.held.length+1) c8) (s.day.held++[f]):=by rw[be];exact Bd o8 ⟨w.heap.size,5,none⟩ _ ZGC
 have k2:duo w 36 #[.slice AL s.letters.length cL,.int .i64 s.day.plan.bins,.int .i64 s.day.plan.passes,.slice AO s.day.plan.order.length cO,.slice AF s.day.fwds.length cF,.slice (some ⟨G8,0,none⟩) (s.day.held.length+1) c8,.int .i64 s.day.size,.slice AN s.net.length cN] false W2:=by rw[be];exact k8.put 5 _
 refine' ZEA;refine' z7;clear be jX k8 k0 ao o8 l8 ii o7 l7 dm fw aa la lt lb lc kD lS mY oC ea eb ec mC qf qg rb rc js uf y0 q0 q1 q2 q3 q4 q5 q6 q7
 refine' ZC;refine' ZBX;have p0:∀W,duo w 36 #[.slice AL s.letters.length cL,.int .i64 s.day.plan.bins,.int .i64 s.day.plan.passes,.slice AO s.day.plan.order.length cO,.slice AF s.day.fwds.length cF,.slice (some ⟨G8,0,none⟩) (s.day.held.length+1) c8,.int .i64 s.day.size,.slice AN s.net.length cN] false W→W.cell? ⟨w.heap.size,0,none⟩=some (.slice AL s.letters.length cL):=fun W h=>(Ac h.box).1.1
 have p1:∀W,duo w 36 #[.slice AL s.letters.length cL,.int .i64 s.day.plan.bins,.int .i64 s.day.plan.passes,.slice AO s.day.plan.order.length cO,.slice AF s.day.fwds.length cF,.slice (some ⟨G8,0,none⟩) (s.day.held.length+1) c8,.int .i64 s.day.size,.slice AN s.net.length cN] false W→W.cell? ⟨w.heap.size,1,none⟩=some (.int .i64 s.day.plan.bins):=fun W h=>(Ac h.box).1.2.1
 have p2:∀W,duo w 36 #[.slice AL s.letters.length cL,.int .i64 s.day.plan.bins,.int .i64 s.day.plan.passes,.slice AO s.day.plan.order.length cO,.slice AF s.day.fwds.length cF,.slice (some ⟨G8,0,none⟩) (s.day.held.length+1) c8,.int .i64 s.day.size,.slice AN s.net.length cN] false W→W.cell? ⟨w.heap.size,2,none⟩=some (.int .i64 s.day.plan.passes):=fun W h=>(Ac h.box).1.2.2.1
 have p3:∀W,duo w 36 #[.slice AL s.letters.length cL,.int .i64 s.day.plan.bins,.int .i64 s.day.plan.passes,.slice AO s.day.plan.order.length cO,.slice AF s.day.fwds.length cF,.slice (some ⟨G8,0,none⟩) (s.day.held.length+1) c8,.int .i64 s.day.size,.slice AN s.net.length cN] false W→W.cell? ⟨w.heap.size,3,none⟩=some (.slice AO s.day.plan.order.length cO):=fun W h=>(Ac h.box).1.2.2.2.1
 have p4:∀W,duo w 36 #[.slice AL s.letters.length cL,.int .i64 s.day.plan.bins,.int .i64 s.day.plan.passes,.slice AO s.day.plan.order.length cO,.slice AF s.day.fwds.length cF,.slice (some ⟨G8,0,none⟩) (s.day.held.length+1) c8,.int .i64 s.day.size,.slice AN s.net.length cN] false W→W.cell? ⟨w.heap.size,4,none⟩=some (.slice AF s.day.fwds.length cF):=fun W h=>(Ac h.box).1.2.2.2.2.1
 have p5:∀W,duo w 36 #[.slice AL s.letters.length cL,.int .i64 s.day.plan.bins,.int .i64 s.day.plan.passes,.slice AO s.day.plan.order.length cO,.slice AF s.day.fwds.length cF,.slice (some ⟨G8,0,none⟩) (s.day.held.length+1) c8,.int .i64 s.day.size,.slice AN s.net.length cN] false W→W.cell? ⟨w.heap.size,5,none⟩=some (.slice (some ⟨G8,0,none⟩) (s.day.held.length+1) c8):=fun W h=>(Ac h.box).1.2.2.2.2.2.1
 have p6:∀W,duo w 36 #[.slice AL s.letters.length cL,.int .i64 s.day.plan.bins,.int .i64 s.day.plan.passes,.slice AO s.day.plan.order.length cO,.slice AF s.day.fwds.length cF,.slice (some ⟨G8,0,none⟩) (s.day.held.length+1) c8,.int .i64 s.day.size,.slice AN s.net.length cN] false W→W.cell? ⟨w.heap.size,6,none⟩=some (.int .i64 s.day.size):=fun W h=>(Ac h.box).1.2.2.2.2.2.2.1
 have p7:∀W,duo w 36 #[.slice AL s.letters.length cL,.int .i64 s.day.plan.bins,.int .i64 s.day.plan.passes,.slice AO s.day.plan.order.length cO,.slice AF s.day.fwds.length cF,.slice (some ⟨G8,0,none⟩) (s.day.held.length+1) c8,.int .i64 s.day.size,.slice AN s.net.length cN] false W→W.cell? ⟨w.heap.size,7,none⟩=some (.slice AN s.net.length cN):=fun W h=>(Ac h.box).1.2.2.2.2.2.2.2
 go_region_held3 (fun W=>duo w 36 #[.slice AL s.letters.length cL,.int .i64 s.day.plan.bins,.int .i64 s.day.plan.passes,.slice AO s.day.plan.order.length cO,.slice AF s.day.fwds.length cF,.slice (some ⟨G8,0,none⟩) (s.day.held.length+1) c8,.int .i64 s.day.size,.slice AN s.net.length cN] false W) (first|(with_reducible exact er)|(with_reducible exact k3)|exact ZAR|fail) (first|(go_at_call 31;refine' ZBY)|(refine' ZCA)|fail)
 all_goals refine' ZC2;exact Bs.fin (s':={s with day:={s.day with held:=s.day.held++[f]}}) ((HS.out.cut L4.out).setH (RX.out.on (Ct.below _ j7.out))) L4.out):p:=h
theorem ZBW(h:p:=by
 refine' YG;obtain⟨cs,ax⟩:∃u:Array Value,u=#[.slice AL s.letters.length cL,.int .i64 s.day.plan.bins,.int .i64 s.day.plan.passes,.slice AO s.day.plan.order.length cO,.slice AF s.day.fwds.length cF,.slice AH s.day.held.length cH,.int .i64 s.day.size,.slice AN s.net.length cN]:=⟨_,rfl⟩;rw[←ax]at k0 ao;have q0:∀W,duo w 36 cs false W→W.cell? ⟨w.heap.size,0,none⟩=some (.slice AL s.letters.length cL):=fun W h=>(Ac (ax▸h.box)).1.1
 have q1:∀W,duo w 36 cs false W→W.cell? ⟨w.heap.size,1,none⟩=some (.int .i64 s.day.plan.bins):=fun W h=>(Ac (ax▸h.box)).1.2.1
 have q2:∀W,duo w 36 cs false W→W.cell? ⟨w.heap.size,2,none⟩=some (.int .i64 s.day.plan.passes):=fun W h=>(Ac (ax▸h.box)).1.2.2.1
 have q3:∀W,duo w 36 cs false W→W.cell? ⟨w.heap.size,3,none⟩=some (.slice AO s.day.plan.order.length cO):=fun W h=>(Ac (ax▸h.box)).1.2.2.2.1
 have q4:∀W,duo w 36 cs false W→W.cell? ⟨w.heap.size,4,none⟩=some (.slice AF s.day.fwds.length cF):=fun W h=>(Ac (ax▸h.box)).1.2.2.2.2.1
 have q5:∀W,duo w 36 cs false W→W.cell? ⟨w.heap.size,5,none⟩=some (.slice AH s.day.held.length cH):=fun W h=>(Ac (ax▸h.box)).1.2.2.2.2.2.1
 have q6:∀W,duo w 36 cs false W→W.cell? ⟨w.heap.size,6,none⟩=some (.int .i64 s.day.size):=fun W h=>(Ac (ax▸h.box)).1.2.2.2.2.2.2.1
 have q7:∀W,duo w 36 cs false W→W.cell? ⟨w.heap.size,7,none⟩=some (.slice AN s.net.length cN):=fun W h=>(Ac (ax▸h.box)).1.2.2.2.2.2.2.2
 have q9:=aA ax;clear ax;obtain k:=_;exact k):p:=h
theorem ZUe(h:p:=by
 have jo:=aA (fun W (h:Below w1.heap.size w1 W)=>(h.block _ (Array.getElem?_eq_some_iff.1 il.out).1).trans il.out);have k0:∀W,Below w8.heap.size w8 W→W.cell? ⟨w.heap.size,0,none⟩=some (.int .i64 p.bins):=fun W h=>u0 W (dx.trans (h.mono dx.size))
 have k1:∀W,Below w8.heap.size w8 W→W.cell? ⟨w.heap.size,1,none⟩=some (.int .i64 p.passes):=fun W h=>u1 W (dx.trans (h.mono dx.size))
 have nl:=k0 _ (aF _ _);have np:=k1 _ (aF _ _);have kd:=dx.size;have ke:=cy.out.size;have gy:=aA o8
 refine' ZC;refine Hs (S:=fun W=>W.cell? ⟨w.heap.size,0,none⟩=some (.int .i64 p.bins)∧W.cell? ⟨w.heap.size,1,none⟩=some (.int .i64 p.passes)) 11 ZB ⟨k0 _ (Ag (aF _ _)),k1 _ (Ag (aF _ _))⟩ (fun aa=>?_);obtain k:=_;exact k):p:=h
theorem ZJn(h:p:=by
 refine' ZBX;have p0:∀W,duo w 36 #[.slice AL s.letters.length cL,.int .i64 s.day.plan.bins,.int .i64 s.day.plan.passes,.slice AO s.day.plan.order.length cO,.slice AX nX cX,.slice AH s.day.held.length cH,.int .i64 s.day.size,.slice AN s.net.length cN] false W→W.cell? ⟨w.heap.size,0,none⟩=some (.slice AL s.letters.length cL):=fun W h=>(Ac h.box).1.1
 have p1:∀W,duo w 36 #[.slice AL s.letters.length cL,.int .i64 s.day.plan.bins,.int .i64 s.day.plan.passes,.slice AO s.day.plan.order.length cO,.slice AX nX cX,.slice AH s.day.held.length cH,.int .i64 s.day.size,.slice AN s.net.length cN] false W→W.cell? ⟨w.heap.size,1,none⟩=some (.int .i64 s.day.plan.bins):=fun W h=>(Ac h.box).1.2.1
 have p2:∀W,duo w 36 #[.slice AL s.letters.length cL,.int .i64 s.day.plan.bins,.int .i64 s.day.plan.passes,.slice AO s.day.plan.order.length cO,.slice AX nX cX,.slice AH s.day.held.length cH,.int .i64 s.day.size,.slice AN s.net.length cN] false W→W.cell? ⟨w.heap.size,2,none⟩=some (.int .i64 s.day.plan.passes):=fun W h=>(Ac h.box).1.2.2.1
 have p3:∀W,duo w 36 #[.slice AL s.letters.length cL,.int .i64 s.day.plan.bins,.int .i64 s.day.plan.passes,.slice AO s.day.plan.order.length cO,.slice AX nX cX,.slice AH s.day.held.length cH,.int .i64 s.day.size,.slice AN s.net.length cN] false W→W.cell? ⟨w.heap.size,3,none⟩=some (.slice AO s.day.plan.order.length cO):=fun W h=>(Ac h.box).1.2.2.2.1
 have p4:∀W,duo w 36 #[.slice AL s.letters.length cL,.int .i64 s.day.plan.bins,.int .i64 s.day.plan.passes,.slice AO s.day.plan.order.length cO,.slice AX nX cX,.slice AH s.day.held.length cH,.int .i64 s.day.size,.slice AN s.net.length cN] false W→W.cell? ⟨w.heap.size,4,none⟩=some (.slice AX nX cX):=fun W h=>(Ac h.box).1.2.2.2.2.1
 have p5:∀W,duo w 36 #[.slice AL s.letters.length cL,.int .i64 s.day.plan.bins,.int .i64 s.day.plan.passes,.slice AO s.day.plan.order.length cO,.slice AX nX cX,.slice AH s.day.held.length cH,.int .i64 s.day.size,.slice AN s.net.length cN] false W→W.cell? ⟨w.heap.size,5,none⟩=some (.slice AH s.day.held.length cH):=fun W h=>(Ac h.box).1.2.2.2.2.2.1
 have p6:∀W,duo w 36 #[.slice AL s.letters.length cL,.int .i64 s.day.plan.bins,.int .i64 s.day.plan.passes,.slice AO s.day.plan.order.length cO,.slice AX nX cX,.slice AH s.day.held.length cH,.int .i64 s.day.size,.slice AN s.net.length cN] false W→W.cell? ⟨w.heap.size,6,none⟩=some (.int .i64 s.day.size):=fun W h=>(Ac h.box).1.2.2.2.2.2.2.1
 have p7:∀W,duo w 36 #[.slice AL s.letters.length cL,.int .i64 s.day.plan.bins,.int .i64 s.day.plan.passes,.slice AO s.day.plan.order.length cO,.slice AX nX cX,.slice AH s.day.held.length cH,.int .i64 s.day.size,.slice AN s.net.length cN] false W→W.cell? ⟨w.heap.size,7,none⟩=some (.slice AN s.net.length cN):=fun W h=>(Ac h.box).1.2.2.2.2.2.2.2
 obtain k:=_;exact k):p:=h
theorem ZM(h:p:=by
 intro w_ af
 (try dsimp only at af)
 go_simp
 try with_reducible rfl):p:=h
theorem ZCE(h:p:=by obtain⟨A0,c0,e0⟩:=Gx hv;refine' ZJC;have q0:=Af ac 0 (.int .i64 p.bins) rfl;have q1:=Af ac 1 (.int .i64 p.passes) rfl;have q2:=Af ac 2 (.slice A0 p.order.length c0) rfl;refine' ZBn;have HP:=aA (hv.on HT.out);obtain k:=_;exact k):p:=h
theorem ZB(h:p:=by kernel_rfl):p:=h
theorem ZCu(h:p:=by
 obtain⟨⟨e0,e1,e2,e3,e4,e5,e6,e7⟩,hf⟩:=Ac hr;refine' ZUf
 obtain k:=_;exact k):p:=h
theorem ZCx(h:p:=by
 have q0:=fun W (h:stS w w.heap.size 36 #[.slice AL s.letters.length cL,.int .i64 s.day.plan.bins,.int .i64 s.day.plan.passes,.slice AO s.day.plan.order.length cO,.slice AF s.day.fwds.length cF,.slice AH s.day.held.length cH,.int .i64 s.day.size,.slice AN s.net.length cN] W)=>(Ac h.box).1.1
 refine' ZTP
 obtain k:=_;exact k):p:=h
theorem ZGN(h:p:=by
 refine' YA;have a2:¬9223372036854775807<F.size+1+4:=ZA
 refine' ZBZ;clear hS;have p9:=q7 _ k0;rw[ar.out]at p9;go_enter Tryz.func109,Tryz.ntmps109
 refine' ZBL;go_wp2_with (go_at_call 188;refine(HC.out _ k0).mono ?_;refine' ZAv;have k1:=k0.below z1;have R1:=aA o1.rd;refine' ZBx;clear o1)
 have nd:=aA (fun W (h:Below u1.heap.size u1 W)=>s9.out _ W (R1.out.on h));clear k0 ao z1 q7;have ld:=Ag (aF u1.heap.size u1);have la:=Ae ld (aC #[.string ⟨#[104,111,109,101]⟩,.string ⟨#[108,111,115,116]⟩,.string ⟨#[108,111,111,112]⟩,.string ⟨#[]⟩] 9);have lb:=Ag (Ae (aF u1.heap.size u1) (aC #[.string ⟨#[104,111,109,101]⟩,.string ⟨#[108,111,115,116]⟩,.string ⟨#[108,111,111,112]⟩,.string ⟨#[]⟩] 9))
 go_region_law (first|(go_simp;go_at_call 31;first|((with_reducible refine(nd.out _ ld).mono ?_);refine' ZP)|((with_reducible refine(nd.out _ la).mono ?_);rintro e _ ⟨rfl,rfl⟩)|((with_reducible refine(nd.out _ lb).mono ?_);refine' ZP))|(go_simp;refine' ZCA)|fail)
 all_goals
  have K:=aA (Aa k1.lay la);have K2:=aA (Aa k1.lay lb);clear k1 la lb ld
  refine' ZI;first|exact⟨B8 (by rw[qu.out]),K.out⟩|exact⟨B8 (by rw[qu.out]),K2.out⟩):p:=h
theorem ZDX(h:p:=by obtain⟨A0,c0,A1,c1,A2,c2,e0⟩:=Aa3 hv;obtain⟨w0,ac⟩:∃w0,w0=w.alloc (aC #[.int .i64 d.plan.bins,.int .i64 d.plan.passes,.slice A0 d.plan.order.length c0,.slice A1 d.fwds.length c1,.slice A2 d.held.length c2,.int .i64 d.size] 33):=⟨_,rfl⟩;have q0:=Af ac 0 (.int .i64 d.plan.bins) rfl;have q1:=Af ac 1 (.int .i64 d.plan.passes) rfl;have q2:=Af ac 2 (.slice A0 d.plan.order.length c0) rfl;have q3:=Af ac 3 (.slice A1 d.fwds.length c1) rfl;have q4:=Af ac 4 (.slice A2 d.held.length c2) rfl;have q5:=Af ac 5 (.int .i64 d.size) rfl;refine' ZBn;have im:=hv.on HT.out;subst e0;obtain k:=_;exact k):p:=h
theorem ZLK(h:p:=by
 by_cases az:f x<0
 ·refine' ZGz;go_wp2_with (at_builtin;refine An (α:=Ltr) rfl (.tmp 49) (.tmp 54) 27 rfl w0.heap.size 119 i1 _ 24 aV ji dp dq dr rfl ZF (.slice AO (Bn f (xs.take k)).length cO) (Bn f (xs.take k)) x rfl (fg.out.alloc _) ⟨w3.heap.size,0,none⟩ 1 (Ltr.cells x) rfl ⟨⟨fa,ew⟩,rfl⟩ (Bz w3 _ (Ltr.cells x)) ZN ZA ZH ?_;refine' ZAi)
  exact ZG0
 ·refine' ZG1;first|rw[HD.out]|rw[HD.out]at e2
  refine' ZG2;go_region_law (first|((refine Ce (α:=Ltr) ZG (.tmp 61) (.tmp 66) 27 ZG w0.heap.size 119 i1 _ 24 aV ji dp dq dr rfl ZF (.slice Au zs.length cu) zs x ZG ((jc.out.alloc _).drew) ⟨w3.heap.size,0,none⟩ 1 (Ltr.cells x) ZG ⟨⟨fa,ew⟩,rfl⟩ (Ft w3 _ (Ltr.cells x)) ZN ZA ZH ?_;refine' ZDL)))
  all_goals exact ZG3):p:=h
theorem ZC(h:p:=by
 go_wp2_with fail
 obtain k:=_;exact k):p:=h
theorem ZRH(h:p:=by
 refine' ZUg;have H2:Hid (Calls P 314 #[.slice (some ⟨blk,av,none⟩) n cap,.int .i64 (20:Int),.int .i64 (40:Int),.func (.func g) #[] cb] w1 fun e w'=>e=.returned (.tuple #[])∧∃d',PermIn 20 40 d1 d'∧SortedIn Dc 20 40 d'∧SWK enc k w0 blk av d' w'):=HI.out 20 40 d1 w1 Z1.out tu.out ZA ZA (fun i i1 i2=>ZUh);refine' ZUi;have K2:Aside (∀i,40≤i→(d2[i]!)=(d0[i]!)):=fun i hi=>ZUj
 refine' ZUk;have j4:Aside (SortedIn Dc 20 40 d2):=s2;clear p2 s2 S2;obtain k:=_;exact k):p:=h
theorem ZFJ(h:p:=by refine' ZKD;have oZ:((W2.setCell ⟨w.heap.size,0,none⟩ (.slice none 0 0)).setCell ⟨w.heap.size+1,0,none⟩ (.bool false)).heap[D]? =some (.deferred (some [])):=r2.same _ _ ((Cr hb).same _ _ hK rfl) rfl;have k0:=(r0.kept (grownBy_putObj' ((W2.setCell ⟨w.heap.size,0,none⟩ (.slice none 0 0)).setCell ⟨w.heap.size+1,0,none⟩ (.bool false)) D (.deferred none)) (fun e=>YJ)).cell;have k1:=(r1.kept (grownBy_putObj' ((W2.setCell ⟨w.heap.size,0,none⟩ (.slice none 0 0)).setCell ⟨w.heap.size+1,0,none⟩ (.bool false)) D (.deferred none)) (fun e=>YJ)).cell;have mT:Below w.heap.size w (((W2.setCell ⟨w.heap.size,0,none⟩ (.slice none 0 0)).setCell ⟨w.heap.size+1,0,none⟩ (.bool false)).putObj D (.deferred none)):=((hB.trans (hb.mono hB.size)).trans (r3 _ (aD _))).grown (grownBy_putObj' _ _ _) ZUl (fun r e=>YJ);refine⟨ZE,.inl ⟨_,_,rfl,run_takeDeferred oZ,?_⟩⟩;obtain k:=_;exact k):p:=h
theorem YN(h:p:=by refine' ZKB;have k0:=stS.made ae;have ao:=k0.drew;refine' ZAx;clear ae;obtain k:=_;exact k):p:=h
theorem ZBa(h:p:=by
 refine' ZAy;have x0:=Bx hf 0 ZE;have y0:=fun W (h:duo w 36 #[.slice AL s.letters.length cL,.int .i64 s.day.plan.bins,.int .i64 s.day.plan.passes,.slice AO s.day.plan.order.length cO,.slice AF s.day.fwds.length cF,.slice AH s.day.held.length cH,.int .i64 s.day.size,.slice AN s.net.length cN] false W)=>(h.lay.cell (p:=⟨g,0,none⟩) bv).trans x0
 obtain k:=_;exact k):p:=h
theorem ZKE(h:p:=by
 refine' ZEC;refine' ZKC;have dx:=l3.trans (l8.mono l3.size);have fm:=l8.size;clear ii o7 l7 dm fw aa la lt lb lc kD lS mY oC ea eb ec mC qf qg rb rc js;have jw:(LT++[x]).length+LD.length≤maxLen:=by unfold maxLen;exact ZDp
 have ef:((LT++[x]).length+LD.length)*16≤140737488355328:=ZDp
 obtain k:=_;exact k):p:=h
theorem ZSK(h:p:=by
 refine' ZSM
 ·obtain⟨k,hk,rfl,lg,rfl⟩:=hrel;by_cases ab:k<d.size
  ·refine' ZSN;by_cases bt:b.toNat<48
   ·have HO:Hid (nOk d false=false):=ZF5
    refine' ZAM;have mf:(b.toNat:Int)<48:=ZA
    exact ZB4
   by_cases dj:57<b.toNat
   ·have HO:Hid (nOk d false=false):=ZF5
    exact ZSO
   exact ZSP
  ·refine' ZSQ;have HO:Hid (nOk d false=true):=by show _=_;rw[HT.out];exact lg
   have HV:Hid (N5 d false=(Fe d.data.toList:Int)):=by show _=_;unfold N5;rw[HO.out];rfl
   exact ZSR):p:=h
theorem ZQj(h:p:=by have oZ:((W2.setCell ⟨w.heap.size,0,none⟩ (.slice A m cp)).setCell ⟨w.heap.size+1,0,none⟩ (.bool true)).heap[D]? =some (.deferred (some [])):=r2.same _ _ ((Cr hb).same _ _ hK rfl) rfl;have k0:=(r0.kept (grownBy_putObj' ((W2.setCell ⟨w.heap.size,0,none⟩ (.slice A m cp)).setCell ⟨w.heap.size+1,0,none⟩ (.bool true)) D (.deferred none)) (fun e=>YJ)).cell;have k1:=(r1.kept (grownBy_putObj' ((W2.setCell ⟨w.heap.size,0,none⟩ (.slice A m cp)).setCell ⟨w.heap.size+1,0,none⟩ (.bool true)) D (.deferred none)) (fun e=>YJ)).cell;have mT:Below w.heap.size w (((W2.setCell ⟨w.heap.size,0,none⟩ (.slice A m cp)).setCell ⟨w.heap.size+1,0,none⟩ (.bool true)).putObj D (.deferred none)):=((hB.trans (hb.mono hB.size)).trans (r3 _ (aD _))).grown (grownBy_putObj' _ _ _) ZUl (fun r e=>YJ);refine⟨ZE,.inl ⟨_,_,rfl,run_takeDeferred oZ,?_⟩⟩;obtain k:=_;exact k):p:=h
theorem ZDj(h:p:=by refine' YH;gi_at_call 51;refine(CallsIn.inRound l (callsIn_wide.2 nT)).mono ?_;rintro e W2 ⟨hb,rfl⟩;refine' ZUm;obtain k:=_;exact k):p:=h
theorem ZJw(h:p:=by
 have x0:=Bx hf 0 ZE;have y0:=fun W (h:stS w w.heap.size 36 #[.slice AL s.letters.length cL,.int .i64 s.day.plan.bins,.int .i64 s.day.plan.passes,.slice AO s.day.plan.order.length cO,.slice AF s.day.fwds.length cF,.slice AH s.day.held.length cH,.int .i64 s.day.size,.slice AN s.net.length cN] W)=>(h.lay.cell (p:=⟨g,0,none⟩) bv).trans x0
 obtain k:=_;exact k):p:=h
theorem zJ(h:p:=by have HS:=aA hS;refine' ZCv;obtain k:=_;exact k):p:=h
theorem ZSu(h:p:=by
 obtain⟨A0,c0,e0⟩:=Gx hv;refine' zQ;subst e0;obtain⟨wA,ae⟩:∃u,u=w.alloc (aC #[.int .i64 p.bins,.int .i64 p.passes,.slice A0 p.order.length c0] 30):=⟨_,rfl⟩;obtain⟨wB,ai⟩:∃u,u=wA.alloc (aC #[.int .i64 0,.int .i64 0,.slice none 0 0] 30):=⟨_,rfl⟩;refine' ZGA;have mz:wB.heap[w.heap.size]? =some (.cells #[.int .i64 p.bins,.int .i64 p.passes,.slice A0 p.order.length c0] 30 (0,0)):=by rw[ai,dH _ _ _ (by rw[mn];exact fS _),ae];exact bD w _
 have rg:wB.heap[w.heap.size+1]? =some (.cells #[.int .i64 0,.int .i64 0,.slice none 0 0] 30 (0,0)):=by rw[ai,←mn];exact bD wA _
 have lB:Below w.heap.size w wB:=by rw[ai,ae];exact Ae (Ae (aF _ _) _) _
 have ri:=(Array.getElem?_eq_some_iff.1 mz).1;have rj:=(Array.getElem?_eq_some_iff.1 rg).1;refine' ZAx;have bp:=aA ai;clear ae ai mn;have lH:=aA (Fo _ p wB (HV.out.on lB));rw[hk]at lH;obtain k:=_;exact k):p:=h
theorem ZS4(h:p:=by
 have sG:∀W,Below W3.heap.size W3 W→W.cell? ⟨bo,oo+f,none⟩=some (.string x):=fun W h=>yf W (l3.trans (h.mono l3.size))
 clear u2 yf;have ks:([]:List ByteArray).length+LT.length≤maxLen:=by unfold maxLen;rw[cK];omega
 have kt:(([]:List ByteArray).length+LT.length)*16≤140737488355328:=by rw[cK];omega
 have kr:LT.length+1≤maxLen:=ZN
 have mj:(LT.length+1)*16≤140737488355328:=ZA
 have vM:(t:Int)≤(cr:Int):=ZA
 have ht2:(t:Int)≤(L.length:Int):=ZA
 have ht3:(0:Int)≤(t:Int):=ZA
 have ht4:(f:Int)<(p.order.length:Int):=ZA
 have ht5:(0:Int)≤(f:Int):=ZA
 have js:=(aF W3.heap.size W3).drew;have la:Below W3.heap.size W3 (W3.alloc (aC #[] 9)):=(aF W3.heap.size W3).alloc (aD _) _;have ea:own (α:=ByteArray) 9 W3.heap.size (W3.alloc (aC #[] 9)) (.slice (some ⟨W3.heap.size,0,none⟩) 0 0) []:=own.made0 W3 _ (aD _);refine' ZJd;have lt:Below W3.heap.size W3 (W3.alloc (aC #[.string x] 9)):=(aF W3.heap.size W3).alloc (aD _) _;have lb:Below W3.heap.size W3 ((W3.alloc (aC #[] 9)).alloc (aC #[.string x] 9)):=la.alloc ZE _;have lc:Below W3.heap.size W3 ((W3.alloc (aC #[.string x] 9)).alloc (aC #[] 9)):=lt.alloc ZE _;have eb:=ea.alloc (aC #[.string x] 9);have ec:own (α:=ByteArray) 9 W3.heap.size ((W3.alloc (aC #[.string x] 9)).alloc (aC #[] 9)) (.slice (some ⟨W3.heap.size+1,0,none⟩) 0 0) []:=by
  have:=own.made0 (α:=ByteArray) (W3.alloc (aC #[.string x] 9)) 9 (base:=W3.heap.size) ZE
  rwa [show(W3.alloc (aC #[.string x] 9)).heap.size=W3.heap.size+1 by simp]at this
 have rb:((W3.alloc (aC #[] 9)).alloc (aC #[.string x] 9)).heap[W3.heap.size+1]? =some (.cells (#[.string x]:Array Value) 9 (0,0)):=by
  have:=bD (W3.alloc (aC #[] 9)) (aC #[.string x] 9)
  rwa [show(W3.alloc (aC #[] 9)).heap.size=W3.heap.size+1 by simp]at this
 have rc:((W3.alloc (aC #[.string x] 9)).alloc (aC #[] 9)).heap[W3.heap.size]? =some (.cells (#[.string x]:Array Value) 9 (0,0)):=(dH (W3.alloc (aC #[.string x] 9)) _ _ ZE).trans (bD W3 (aC #[.string x] 9));refine' ZTs;refine' ZC;refine Hs (S:=fun W=>Below W3.heap.size W3 W) 12 ZB js (fun aa=>?_);obtain k:=_;exact k):p:=h
theorem ZDS(h:p:=by
 refine' ZL5;have l5:Below w.heap.size w w5:=(Ae l4 (aC #[bC aI x.id,aK x.code] 119)).grown ap ZH fun q hq=>(br.out.blk q hq).1
 exact ZL6):p:=h
theorem ZCq(h:p:=by
 obtain⟨gr,rR⟩:∃gr,Ar=some ⟨gr,0,none⟩:=by
  rcases O3.out.form with⟨e,_⟩|⟨gr,cc,e,_⟩
  ·injection e with e1 e2 e3
   exact absurd (show cr=t by omega) ju
  ·injection e with e1 e2 e3
   exact⟨gr,e1⟩
 subst rR;have ni:Hid (∀W,Below w8.heap.size w8 W→rd W W.heap.size (.slice (some ⟨gr,t,none⟩) (L.length - t) (cr - t)) LD):=fun W h=>by have h:=(O3.out.rd.on (l8.trans (h.mono l8.size))).drop (k:=t) ZA;rw[aL ju,lM.out]at h;simpa [Ii,El.size]using h
 refine' ZUe;obtain k:=_;exact k):p:=h
theorem ZP(h:p:=by
 rintro e _ ⟨rfl,rfl⟩
 obtain k:=_;exact k):p:=h
theorem ZR0(h:p:=by
 have bv:w.heap.size≤gb:=ZA
 rw[←IH]at kS⊢;clear IH;have jR:=aA (HD.out.below K2.out);have et:=aA (Vb O2.out HD.out.held);have uY:=aA (O2.out.base_ hB);obtain⟨a0,a1,a2,_,_,_⟩:=B7 kS.out;refine' ZRl;have p8:Hid (Bv B (((W2.setCell ⟨d,1,none⟩ (.int .i64 mb)).setCell ⟨d,2,none⟩ (.int .i64 mp)).setCell ⟨d,3,none⟩ (.slice AV nV cV)) d {s with day:={s.day with plan:=⟨mb,mp,mo⟩}} vH):=((jR.out.setBins mb).setPasses mp).setOrder (D3 (D3 uY.out jR.out.obj ZF 1) (jR.out.setBins mb).obj ZF 2) et.out;have QU:Hid (Kd d vH w (((W2.setCell ⟨d,1,none⟩ (.int .i64 mb)).setCell ⟨d,2,none⟩ (.int .i64 mp)).setCell ⟨d,3,none⟩ (.slice AV nV cV))):=(((Kd.of_below K2.out).set 1 _).set 2 _).set 3 _;have QV:Hid (I4 (((W2.setCell ⟨d,1,none⟩ (.int .i64 mb)).setCell ⟨d,2,none⟩ (.int .i64 mp)).setCell ⟨d,3,none⟩ (.slice AV nV cV))):=(((HT.out.on K2.out).setD jR.out 1 _).setD (jR.out.setBins mb) 2 _).setD ((jR.out.setBins mb).setPasses mp) 3 _;have s7:Hid (ok=true→Calls aB 123 #[.agg #[.int .i64 mb,.int .i64 mp,.slice AV nV cV]] (((W2.setCell ⟨d,1,none⟩ (.int .i64 mb)).setCell ⟨d,2,none⟩ (.int .i64 mp)).setCell ⟨d,3,none⟩ (.slice AV nV cV)) fun e w'=>e=.returned (.string (E7 ⟨mb,mp,mo⟩))∧Below (((W2.setCell ⟨d,1,none⟩ (.int .i64 mb)).setCell ⟨d,2,none⟩ (.int .i64 mp)).setCell ⟨d,3,none⟩ (.slice AV nV cV)).heap.size (((W2.setCell ⟨d,1,none⟩ (.int .i64 mb)).setCell ⟨d,2,none⟩ (.int .i64 mp)).setCell ⟨d,3,none⟩ (.slice AV nV cV)) w'):=fun ag=>N0 _ ⟨mb,mp,mo⟩ _ ⟨_,rfl,(IG.out ag).1,(IG.out ag).2,(D3 (D3 (D3 uY.out jR.out.obj ZF 1) (jR.out.setBins mb).obj ZF 2) ((jR.out.setBins mb).setPasses mp).obj ZF 3).rd⟩ QV.out
 clear hf;cases ok
 ·refine' ZI;rw[dw.out,LZ.out];refine' ZF0;exact Bb.of_read HD.out rfl K2.out
 ·have AK:=aA (s7.out rfl)
  clear s7
  refine' ZC;refine AK.out.mono ?_;rintro e w9 ⟨rfl,b9⟩;have B9:=aA b9;clear b9
  refine' ZI;rw[dw.out,LZ.out];refine' ZF0;exact Bb.post ⟨rfl,vH,p8.out,QU.out,Nu.refl _ _⟩ B9.out):p:=h
theorem ZBJ(h:p:=by
 refine(callsIn_wide.2 HV).mono ?_;rintro e W2 ⟨rfl,hb⟩;refine' ZUm;have z2:Boxed W2 _ _ _:=(hb.block _ je.out.lt).trans je.out;refine' ZFB
 obtain k:=_;exact k):p:=h
theorem ZG1(h:p:=by
 obtain⟨d,hd⟩:=aQ (show 0≤f x by omega)
 have tE:d<N:=ZA
 have HD:=aA hd;have ff:=aA (Lz (f:=f) ab (by rw[io.out];omega));have lC:d<(Bm f N (xs.take k)).length:=by rw[Hz];exact tE
 have eu:=aA (Ls (f:=f) (n:=N) (d:=d) ab (by rw[io.out];exact HD.out) lC);obtain⟨ey,da,ga⟩:∃ey:d<vs.length,own 119 w0.heap.size w3 vs[d] (Bm f N (xs.take k))[d]∧apart vs[d] (.slice (some ⟨G,0,none⟩) N N):=ZH8
 have jW:w3.cell? ⟨G,d,none⟩=some vs[d]:=Ff dz.out.1 d ey;have r8:w3.frozen? ⟨G,d,none⟩=false:=dz.out.1.freeAt d;have nC:(Bm f N (xs.take k))[d].length≤1000:=ZUn
 obtain⟨zs,fx⟩:∃zs,zs=(Bm f N (xs.take k))[d]:=⟨_,rfl⟩;refine' ZUo;obtain k:=_;exact k):p:=h
theorem ZDz(h:p:=by
 rw[hF]at dw⊢;clear hF i6 l3;cases hq:sEq F t
 ·rw[hq]at dw
  have re:(F.toList==t.toList)=false:=hq;clear hq
  refine' ZQ;exact⟨_,G9 (HO.out.trans dw.out),by rw[HR.out,dw.out];exact own.made0 _ _ ft.out.size,ft.out.alloc ft.out.size _⟩
 ·rw[hq]at dw
  have re:(F.toList==t.toList)=true:=hq;clear hq
  refine' ZQ;exact⟨_,G9 (HO.out.trans dw.out),ZUp,ft.out⟩):p:=h
theorem ZEF(h:p:=by
 have bv:=(hf.blk g rfl).2;have bd:c≤maxLen∧1≤c:=ZKF
 refine' ZKG;obtain k:=_;exact k):p:=h
theorem ZN(h:p:=by unfold maxLen;omega):p:=h
theorem ZH(h:p:=by simp;omega):p:=h
theorem ZF(h:p:=by decide):p:=h
theorem ZC2(h:p:=by
 refine' ZC3;have j7:=aA l3;clear k2 er k3 l2 l3 hr e0 e1 e2 e3 e4 e5 e6 e7 f0 f1 f2 f3 f4 f5 f6 f7
 refine' ZED;obtain k:=_;exact k):p:=h
theorem ZD4(h:p:=by
 clear hk;have HR:Hid (Ei p f t=⟨0,0,[]⟩):=Q5 HQ.out;refine' ZUq;clear bt lJ
 refine' ZGa;exact⟨.slice none 0 0,ZF1,ZDi,Ai (Ai (Ai lK.out ZCo _) ZCo _) ZCo _⟩):p:=h
theorem ZT2(h:p:=by
 first
  |(obtain⟨U1,ki⟩:∃u,u=u1.alloc (aC #[.int .i64 mp.bins,.int .i64 mp.passes,.slice AX nX cX] 30):=⟨_,rfl⟩;rw[←ki];have kH:U1.heap[u1.heap.size]? =some (.cells #[.int .i64 mp.bins,.int .i64 mp.passes,.slice AX nX cX] 30 (0,0)):=ZUG;have kU:duo w 36 #[.slice AL s.letters.length cL,.int .i64 s.day.plan.bins,.int .i64 s.day.plan.passes,.slice AO s.day.plan.order.length cO,.slice AF s.day.fwds.length cF,.slice AH s.day.held.length cH,.int .i64 s.day.size,.slice AN s.net.length cN] false U1:=(by rw[ki];exact k1.below (Ae (aF _ _) _));have RU:rdN (cut R w.heap.size (w.heap.size+2)) U1 (.slice AX nX cX) mp.order:=(by rw[ki];exact rdN.of_own (OX.out.alloc _) fun k hk=>.inr (aG ah hk)))
  |(obtain⟨U1,ki⟩:∃u,u=((u1.setCell ⟨wB.heap.size,0,none⟩ (.int .i64 mp.bins)).setCell ⟨wB.heap.size,1,none⟩ (.int .i64 mp.passes)).setCell ⟨wB.heap.size,2,none⟩ (.slice AX nX cX):=⟨_,rfl⟩;rw[←ki];have kH:U1.heap[wB.heap.size]? =some (.cells #[.int .i64 mp.bins,.int .i64 mp.passes,.slice AX nX cX] 30 (0,0)):=(by rw[ki];exact Bp pq);have kU:duo w 36 #[.slice AL s.letters.length cL,.int .i64 s.day.plan.bins,.int .i64 s.day.plan.passes,.slice AO s.day.plan.order.length cO,.slice AF s.day.fwds.length cF,.slice AH s.day.held.length cH,.int .i64 s.day.size,.slice AN s.net.length cN] false U1:=(by rw[ki];exact duo.set3 k1 ah _ _ _);have RU:rdN (cut R w.heap.size (w.heap.size+2)) U1 (.slice AX nX cX) mp.order:=(by rw[ki];exact rdN.of_own (Bd (Bd (Bd OX.out ⟨wB.heap.size,0,none⟩ _ sD) ⟨wB.heap.size,1,none⟩ _ sD) ⟨wB.heap.size,2,none⟩ _ sD) fun k hk=>.inr (aG (aG ah (iP sD)) hk)))
 obtain k:=_;exact k):p:=h
theorem ZJy(h:p:=by have lf:((w.alloc (aC #[.slice AL s.letters.length cL,.int .i64 s.day.plan.bins,.int .i64 s.day.plan.passes,.slice AO s.day.plan.order.length cO,.slice AF s.day.fwds.length cF,.slice AH s.day.held.length cH,.int .i64 s.day.size,.slice AN s.net.length cN] 36)).alloc (aC #[.slice none 0 0,.int .i64 0,.int .i64 0,.slice none 0 0,.slice none 0 0,.slice none 0 0,.int .i64 0,.slice none 0 0] 36)).cell? ⟨g,0,none⟩=some (.string f):=(((duo.made (w:=w) (T:=36) (cs:=#[.slice AL s.letters.length cL,.int .i64 s.day.plan.bins,.int .i64 s.day.plan.passes,.slice AO s.day.plan.order.length cO,.slice AF s.day.fwds.length cF,.slice AH s.day.held.length cH,.int .i64 s.day.size,.slice AN s.net.length cN]) rfl rfl).lay).cell (p:=⟨g,0,none⟩) bv).trans x0;clear hS hf x0;obtain k:=_;exact k):p:=h
theorem ZS3(h:p:=by
 show Bu _ _ _ _ _ _ _ _ (Act.put _ (some 42) _) _
 refine' ZU;refine' ZJ0;go_simp;refine hK.out _ _ (fun _=>?_) (fun aa=>?_)
 ·exact kD
 refine' ZBd;refine Bk (rs:=[5]) ZB ZE ?_;refine' ZA2;(refine Bl (α:=ByteArray) ZG (.tmp 32) (.tmp 36) 28 ZG w1.heap.size 9 i0 _ 16 aW hi ah aw aq rfl ZF (.slice (some ⟨w1.heap.size,0,none⟩) 0 0) [] ZG mC _ (p.order.take f) ZG _ (xr.out _ kD) ks kt zq ?_;intro v7 w7 o7 dm _;have l7:Below w1.heap.size w1 w7:=kD.trans (Ay mC dm zq);refine' ZBG)
 refine' ZB9;refine' ZEE;(refine Bl (α:=ByteArray) ZG (.tmp 37) (.tmp 42) 28 ZG w1.heap.size 9 i0 _ 16 aW hi ah aw aq rfl ZF v7 (p.order.take f) ZG o7 _ (p.order.drop (f+1)) ZG _ (vj.out _ l7) kr mj fw ?_;intro v8 w8 o8 ii _;have l8:Below w1.heap.size w1 w8:=l7.trans (Ay o7 ii fw))
 refine' ZEC;refine' ZKC;rw[kj.out]at o8;obtain⟨W3,rfl⟩:∃W3:World,W3=w8:=⟨_,rfl⟩;have l3:=l8;have O3:=aA o8;obtain⟨Ar,nr,cr,rfl,wV,hcr,MV,_⟩:=o8.rd;subst wV;clear o8 l8 ii o7 l7 dm fw aa la kD ea mC js hi ah aw aq xr vj ks kt kr mj;have bn:=sE.out;have ml:=u0;have mm:=u1;obtain⟨LT,xn⟩:∃z,L.take t=z:=⟨_,rfl⟩;obtain⟨LD,CY⟩:∃z,L.drop t=z:=⟨_,rfl⟩;have hzT:LT.length≤60:=by rw[←xn,bH];omega
 have hzD:LD.length≤60:=by rw[←CY,dO];omega
 have CZ:Hid (∀W,Below W3.heap.size W3 W→rd W W.heap.size (.slice Ar t cr) LT):=fun W h=>by rw[←xn];exact(O3.out.rd.on h).take ZA
 have kQ:=aA xn;have lM:=aA CY;clear xn CY;obtain k:=_;exact k):p:=h
theorem zk(h:p:=by refine' ZBk;refine' ZA7;obtain k:=_;exact k):p:=h
theorem ZRC(h:p:=by
 go_wp2;refine eS 2 ?_;refine' ZUg;have H2:Hid (Calls P 314 #[.slice (some ⟨blk,av,none⟩) n cap,.int .i64 (20:Int),.int .i64 ((n:Nat):Int),.func (.func g) #[] cb] w1 fun e w'=>e=.returned (.tuple #[])∧∃d',PermIn 20 n d1 d'∧SortedIn Dc 20 n d'∧SWK enc k w0 blk av d' w'):=HI.out 20 n d1 w1 Z1.out tu.out ZA ZA (fun i i1 i2=>ZUh);refine' ZUi;have K2:Aside (∀i,n≤i→(d2[i]!)=(d0[i]!)):=fun i hi=>ZUj
 refine' ZUk;have rC:Aside (SortedIn Dc 20 n d2):=s2;clear p2 s2 S2;obtain k:=_;exact k):p:=h
theorem ZBZ(h:p:=by
 have q7:=fun W (h:stS w w.heap.size 36 #[.slice AL s.letters.length cL,.int .i64 s.day.plan.bins,.int .i64 s.day.plan.passes,.slice AO s.day.plan.order.length cO,.slice AF s.day.fwds.length cF,.slice AH s.day.held.length cH,.int .i64 s.day.size,.slice AN s.net.length cN] W)=>(Ac h.box).1.2.2.2.2.2.2.2
 obtain k:=_;exact k):p:=h
theorem ZI(h:p:=by refine' ZC;go_ret;obtain k:=_;exact k):p:=h
theorem ZTp(h:p:=by
 generalize spL s.letters (Am f)=xs at *;generalize Am f=n at *;have ca:(C8.toList==[115,105,122,101])=false:=ZD
 have db:(C8.toList==[104,111,108,100])=false:=ZD
 have d8:(C8.toList==[102,111,114,119,97,114,100])=false:=ZD
 have fd:(C8.toList==[115,116,97,121])=false:=ZD
 have gq:(C8.toList==[115,119,97,112])=false:=ZD
 generalize C8=wd at *;refine' ZGb;go_region_held3 (fun W=>duo w 36 #[.slice AL s.letters.length cL,.int .i64 s.day.plan.bins,.int .i64 s.day.plan.passes,.slice AO s.day.plan.order.length cO,.slice AF s.day.fwds.length cF,.slice AH s.day.held.length cH,.int .i64 s.day.size,.slice AN s.net.length cN] false W) (first|(with_reducible exact ao)|exact ZEB|fail) (first|(go_at_call 93;(with_reducible refine(HI.out _).mono ?_);refine' ZP)|(go_at_call 98;refine' ZB5;refine' ZCt;have k1:=ao.below z1;refine' ZUr)|fail)
 all_goals refine' ZKH;exact ZJl):p:=h
theorem ZKI(h:p:=by have mV:=aA hu;refine' ZKJ;refine' ZUs;obtain k:=_;exact k):p:=h
theorem ZTf(h:p:=by
 have e4:=q4 _ k1;have f4:=k1.frozenS 4
 refine' ZC;refine' ZTF;refine' z7;clear be e4 f4 q0 q1 q2 q3 q4 q5 q6 q7 k0 ao k1 z1 OX;refine' ZEA;clear jX ah;refine' ZJn;go_region_held3 (fun W=>duo w 36 #[.slice AL s.letters.length cL,.int .i64 s.day.plan.bins,.int .i64 s.day.plan.passes,.slice AO s.day.plan.order.length cO,.slice AX nX cX,.slice AH s.day.held.length cH,.int .i64 s.day.size,.slice AN s.net.length cN] false W) (first|(with_reducible exact er)|(with_reducible exact k3)|exact ZAR|fail) (first|(go_at_call 30;refine' ZBY)|(refine' ZCA)|fail)
 all_goals refine' ZC2;exact Bs.fin (s':={s with day:={s.day with fwds:=xs}}) ((HS.out.cut L4.out).setF (RX.out.on (Ct.below _ j7.out))) L4.out):p:=h
theorem ZKK(h:p:=by
 rw[←mZ,←m6]at f8 ub hv;rw[←mZ]at lA;rw[←m6]at lB;clear mZ m6
 refine' ZC;go_quiet_grown (first|(go_at_fn g;refine Calls.grown_of (f8 _ _)))
 have S2:Aside (SWK enc k w0 blk av d (grow (wr.drewN nq) osq)):=S1.out.grown nq osq;clear lA lB f8 S1;generalize grow (wr.drewN nq) osq=w2 at S2⊢;clear nq osq;go_wp2
 obtain k:=_;exact k):p:=h
theorem ZAS(h:p:=by refine' ZKA;refine' ZD8;have ao:=k0.drew;clear m0;obtain k:=_;exact k):p:=h
theorem ZJs(h:p:=by
 refine' ZTN;have q5:=fun W (h:stS w w.heap.size 36 #[.slice AL s.letters.length cL,.int .i64 s.day.plan.bins,.int .i64 s.day.plan.passes,.slice AO s.day.plan.order.length cO,.slice AF s.day.fwds.length cF,.slice AH s.day.held.length cH,.int .i64 s.day.size,.slice AN s.net.length cN] W)=>(Ac h.box).1.2.2.2.2.2.1
 have q6:=fun W (h:stS w w.heap.size 36 #[.slice AL s.letters.length cL,.int .i64 s.day.plan.bins,.int .i64 s.day.plan.passes,.slice AO s.day.plan.order.length cO,.slice AF s.day.fwds.length cF,.slice AH s.day.held.length cH,.int .i64 s.day.size,.slice AN s.net.length cN] W)=>(Ac h.box).1.2.2.2.2.2.2.1
 obtain k:=_;exact k):p:=h
theorem ZDo(h:p:=by
 refine' ZOn;refine' ZRz
 obtain k:=_;exact k):p:=h
theorem ZS8(h:p:=by
 refine' ZCz;refine' ZJ0;refine' ZD6;refine' ZGT;(refine Bl (α:=ByteArray) ZG (.tmp 44) (.tmp 47) 28 ZG W3.heap.size 9 i0 _ 16 aW hi ah aw aq rfl ZF (.slice (some ⟨W3.heap.size+1,0,none⟩) 0 0) [] ZG qg _ LT ZG _ (CZ.out _ mY) ks kt zq ?_;intro v7 w7 o7 dm _;have l7:Below W3.heap.size W3 w7:=mY.trans (Ay qg dm zq);refine' ZBG;have ua:=(dm.block W3.heap.size ZH (fun e=>ZGU)).trans rc)
 refine' ZB9;refine' ZEE;(refine Ce (α:=ByteArray) ZG (.tmp 48) (.tmp 54) 28 ZG W3.heap.size 9 i0 _ 16 aW hi ah aw aq rfl ZF v7 LT x ZG o7 ⟨W3.heap.size,0,none⟩ 1 [.string x] ZG ⟨EE.out,rfl⟩ (Oo ua) kr mj fw ?_;refine' ZC0;have l8:Below W3.heap.size W3 w8:=l7.trans (Ay o7 ii fw))
 refine' ZKE;obtain k:=_;exact k):p:=h
theorem ZUU(h:p:=by
 obtain⟨U,hU⟩:∃U,U=((((((((u2.setCell ⟨bS,0,none⟩ (.slice yL (ds (k+1)).letters.length yl)).setCell ⟨bS,1,none⟩ (.int .i64 (ds (k+1)).day.plan.bins)).setCell ⟨bS,2,none⟩ (.int .i64 (ds (k+1)).day.plan.passes)).setCell ⟨bS,3,none⟩ (.slice yO (ds (k+1)).day.plan.order.length yo)).setCell ⟨bS,4,none⟩ (.slice yF (ds (k+1)).day.fwds.length yf)).setCell ⟨bS,5,none⟩ (.slice yH (ds (k+1)).day.held.length yh)).setCell ⟨bS,6,none⟩ (.int .i64 (ds (k+1)).day.size)).setCell ⟨bS,7,none⟩ (.slice yN (ds (k+1)).net.length yn)):=⟨_,rfl⟩;have kh:Hid (ApR bS (ds (k+1)) U):=by
  refine⟨yL,yl,yO,yo,yF,yf,yH,yh,yN,yn,by rw[hU];exact Cj kH,?_⟩;rw[hU];refine(S2.mono fun j _ hj=>?_).on (Ct.set8b _ _ _ _ _ _ _ _ _ _);rcases hj with hj|hj
  ·exact hj
  ·intro e;rw[e]at hj;exact absurd au (Nat.not_lt.2 hj)
 have PB:Hid (own 9 (bS+1) U (.slice (some ⟨gl,0,none⟩) ls.length cl) ls):=by show own _ _ _ _ _;rw[hU];exact AoL (HO.out.below HZ.out) (fS _) _ _ _ _ _ _ _ _
 have PC:Hid (Below w.heap.size w U):=by show Below _ _ _;rw[hU];exact Yk (HL.out.trans (HZ.out.mono HL.out.size)) lx _ _ _ _ _ _ _ _
 rw[←hU];clear hU S2 e0 e1 e2 e3 e4 e5 e6 e7 f0 f1 f2 f3 f4 f5 f6 f7 kH b2 z2
 refine' ZC;go_roundw
 case rel=>exact⟨k+1,ZA,ZJ,by show _=_;rw[qJ.out uK.out];rfl,PC.out,kh.out,PB.out,by show _=_;rw[qJ.out uK.out,←HQ.out,tJ.out,Vu uK.out ZA ZA],by rw[qJ.out uK.out];have:=Ry (ans k);simp only[bG]at *;show _+(_+1)≤_;omega⟩
 case measure=>exact ZK):p:=h
theorem zR(h:p:=by obtain⟨w1,rfl⟩:∃w1:World,w1=wr:=⟨_,rfl⟩;obtain k:=_;exact k):p:=h
theorem ZHB(h:p:=by
 have ex:Hid (apart (.slice (some ⟨g,0,none⟩) (sa.length+1) cap) (.slice AB bs.length cB)):=Dg et.out cn fun j hj=>by have:=(br.out.blk j hj).2;exact ZH
 go_roundw
 case rel=>exact⟨k+1,ZA,ZJ,l5,by rw[eu.out];exact bz,by rw[ff.out];exact lV.out,ex⟩
 case measure=>exact ZK):p:=h
theorem ZL(h:p:=by assumption):p:=h
theorem ZLB(h:p:=by
 obtain⟨d,hd⟩:=aQ (show 0≤r by omega)
 have ir:d<L.length:=by have:=BN.out;omega
 obtain⟨BP,ve⟩:Hid (D9 f K (ws.take (q+1))=L.set d (L[d]++[x]))∧Hid (Bn f (ws.take (q+1))=rs):=⟨(iv.out.2 d (by rw[aj.out];exact hd) ir).1,(iv.out.2 d (by rw[aj.out];exact hd) ir).2⟩;have kI:L[d].length≤120:=nJ.out d ir;obtain⟨qs,lZ⟩:∃qs,qs=L[d]:=⟨_,rfl⟩;have sj:=aA lZ;obtain⟨ey,da,ga⟩:∃ey:d<gw.length,own 119 w0.heap.size w4 gw[d] qs∧apart gw[d] (.slice (some ⟨G,0,none⟩) xss.length xss.length):=by obtain⟨z1,z2,z3,z4,z5⟩:=br.out;have h3:=z3 d ZA ir;rw[←lZ]at h3;exact⟨ZA,h3,z5 d ZA⟩
 rw[←lZ]at kI;clear lZ;have jW:w4.cell? ⟨G,d,none⟩=some gw[d]:=Ff br.out.1 d ey;have r8:w4.frozen? ⟨G,d,none⟩=false:=br.out.1.freeAt d;obtain⟨u,hu⟩:∃u,u=gw[d]:=⟨_,rfl⟩;have mV:=aA hu;refine' ZKJ;have HD:=aA hd;rw[HD.out];have xF:(d:Int)<(xss.length:Int):=ZA
 have r9:¬((d:Int)<0):=ZA
 clear hd az tC tD;refine' ZUs;have jK:G<w4.heap.size:=(br.out.1.blk G rfl).2;go_wp2
 obtain k:=_;exact k):p:=h
theorem ZTg(h:p:=by
 refine' ZC;obtain⟨W2,be⟩:∃u:World,u=u1:=⟨_,rfl⟩;rw[←be];have jX:own 128 wB.heap.size W2 (.slice AX nX cX) xs:=by rw[be];exact OX.out
 have k2:duo w 36 #[.slice AL s.letters.length cL,.int .i64 s.day.plan.bins,.int .i64 s.day.plan.passes,.slice AO s.day.plan.order.length cO,.slice AF s.day.fwds.length cF,.slice AH s.day.held.length cH,.int .i64 s.day.size,.slice AN s.net.length cN] false W2:=by rw[be];exact k1
 refine' z7;clear be k0 ao k1 z1 OX;refine' ZEA;clear jX ah;refine' ZBX;go_region_held3 (fun W=>duo w 36 #[.slice AL s.letters.length cL,.int .i64 s.day.plan.bins,.int .i64 s.day.plan.passes,.slice AO s.day.plan.order.length cO,.slice AF s.day.fwds.length cF,.slice AH s.day.held.length cH,.int .i64 s.day.size,.slice AN s.net.length cN] false W) (first|(with_reducible exact er)|(with_reducible exact k3)|exact ZAR|fail) (first|(go_at_call 30;refine' ZBY)|(refine' ZCA)|fail)
 all_goals refine' ZC2;exact ZB8):p:=h
theorem ZTY(h:p:=by
 refine' ZA0;show Calls aB _ #[.agg #[.slice AL s.letters.length cL,.int .i64 s.day.plan.bins,.int .i64 s.day.plan.passes,.slice AO s.day.plan.order.length cO,.slice AF s.day.fwds.length cF,.slice AH s.day.held.length cH,.int .i64 s.day.size,.slice AN s.net.length cN],.string B5,.slice (some ⟨g,0,none⟩) 1 c] w _;refine' YN;have HC:Hid (∀W,stS w w.heap.size 36 #[.slice AL s.letters.length cL,.int .i64 s.day.plan.bins,.int .i64 s.day.plan.passes,.slice AO s.day.plan.order.length cO,.slice AF s.day.fwds.length cF,.slice AH s.day.held.length cH,.int .i64 s.day.size,.slice AN s.net.length cN] W→Calls aB 110 #[.slice AN s.net.length cN,.string f] W fun e w'=>∃v',e=.returned v'∧own 9 W.heap.size w' v' (fpS s.net f)∧Below W.heap.size W w'):=fun W h0=>Oa _ s.net f W (hS.n.rd.on h0.lay)
 have HO:Hid (∀W,stS w w.heap.size 36 #[.slice AL s.letters.length cL,.int .i64 s.day.plan.bins,.int .i64 s.day.plan.passes,.slice AO s.day.plan.order.length cO,.slice AF s.day.fwds.length cF,.slice AH s.day.held.length cH,.int .i64 s.day.size,.slice AN s.net.length cN] W→Calls aB 111 #[.slice AN s.net.length cN,.string f] W fun e w'=>e=.returned (.int .i64 (Gq s.net f))∧Below W.heap.size W w'):=fun W h0=>have hW:=h0.lay;by refine(H7 _ s.net f W (hS.n.rd.on hW)).mono ?_;refine' ZP;exact z6
 obtain k:=_;exact k):p:=h
theorem ZHq(h:p:=by
 rintro pre A C row ⟨⟨v,hv,ho⟩,h0,h1,h2,h3,h4,h5⟩ hg hr;refine' ZIn;refine⟨⟨v,hv.kept hg (ne _ ZA),ho.grown hg ?_⟩,aG h0 hg.size,h1,h2,h3.kept hg (ne _ ZA),h4.kept hg (ne _ ZA),h5.grown hg (aG hs h5.size) fun k e=>?_⟩
 ·cases hb:v.ownBlock with
  |none=>exact .inl rfl
  |some k=> exact ZQf
 ·rcases hr k e with h|⟨h,_⟩<;>omega):p:=h
theorem ZRE(h:p:=by
 have y4:¬(60:Int)≤(n:Int):=ZA
 refine' ZIz;go_wp2;refine eS 3 ?_;refine' ZRH;have H3:Hid (Calls P 314 #[.slice (some ⟨blk,av,none⟩) n cap,.int .i64 (40:Int),.int .i64 ((n:Nat):Int),.func (.func g) #[] cb] w2 fun e w'=>e=.returned (.tuple #[])∧∃d',PermIn 40 n d2 d'∧SortedIn Dc 40 n d'∧SWK enc k w0 blk av d' w'):=HI.out 40 n d2 w2 Z2.out vC.out ZA ZA (fun i i1 i2=>ZRI);refine' ZRJ;have K3:Aside (∀i,n≤i→(d3[i]!)=(d0[i]!)):=fun i hi=>ZRK
 refine' ZRL;have oP:Aside (SortedIn Dc 40 n d3):=s3;clear p3 s3 S3;obtain k:=_;exact k):p:=h
theorem ZQY(h:p:=by
 obtain⟨i,jt⟩:∃i:Nat,Lib.indexByte x.data.toList 62=(i:Int):=⟨(Lib.indexByte x.data.toList 62).toNat,ZA⟩
 refine' ZIp;have qz:Hid (K7 x=some ⟨x.extract 0 i,x.extract (i+1) x.size⟩):=by show _=_;unfold K7;rw[ax];rfl
 have HY:Hid (Fwd.ok ⟨x.extract 0 i,x.extract (i+1) x.size⟩):=⟨aG jf.1 oa,aG jf.2 oa⟩;have nJ:Hid (Ko (ps.take (k+1))=true):=ZIq
 have gu:Hid (Fx (ps.take (k+1))=Fx (ps.take k)++[⟨x.extract 0 i,x.extract (i+1) x.size⟩]):=by show _=_;rw[lY.out];exact V6 qz.out
 have bv:(Fx (ps.take k)).length=k:=by rw[L9 _ jg.out,bH];omega
 clear jt az iu ax jf;refine' ZIr;refine' ZF7;rw[bv]at hm;subst hm;clear ho;generalize Fx (ps.take m)=gs at *
 refine' ZBz;go_wp2
 obtain k:=_;exact k):p:=h
theorem ZG3(h:p:=by
 have fq:Below w3.heap.size w3 (w3.alloc (aC #[bC aI x.id,aK x.code] 119)).drew:=Ag (Ae (aF _ _) _);obtain⟨p1,p2,p3⟩:=Eh dz.out fg.out fh.out fq ey lC HU.out rG.out fj ep kR;have p4:=Ex (G:=G) (d:=d) (g:=g) (m:=zs.length+1) (cap:=cap) (Ag (Ae i6 (aC #[bC aI x.id,aK x.code] 119))) ep (fun j hj=>(jc.out.blk j hj).1) mt;refine' ZKL;clear p1 p2 p3 fq;go_wp2
 go_roundw
 case rel=>exact⟨k+1,_,ZA,ZJ,p4,by rw[eu.out,←HX.out];exact P1.out,by rw[ff.out];exact P2.out,P3.out⟩
 case measure=>exact ZK):p:=h
theorem ZMD(h:p:=by
 rintro e w5 ⟨vR,vS,rfl,oR,oS,JL,b5⟩;have l5:=Aa l4 b5;replace E2:=aA (E3 E2.out b5);have et:Hid (apart vR vS∧apart vR (.slice Ah (Je d.held (E6 d.fwds xs)).length ch)∧apart vR (.slice Ak (Gu d.fwds xs).length ck)∧apart vS (.slice Ah (Je d.held (E6 d.fwds xs)).length ch)∧apart vS (.slice Ak (Gu d.fwds xs).length ck)∧apart (.slice Ah (Je d.held (E6 d.fwds xs)).length ch) (.slice Ak (Gu d.fwds xs).length ck)):=
  ⟨JL,Dd oR OH.out (aD _),Dd oR OK.out (aD _),Dd oS OH.out (aD _),Dd oS OK.out (aD _),qp.out⟩
 replace OK:=aA (OK.out.below b5);replace OH:=aA (OH.out.below b5);have OR:=aA oR;have OS:=aA oS;obtain⟨Ar,nr,cr,rfl,wV,_,_,_⟩:=oR.rd;subst wV;obtain⟨As,ns,cs,rfl,SZ,_,_,_⟩:=oS.rd;subst SZ;clear oR oS JL b5 OF qp SV SX;refine' ZKM;refine' ZKN;have h1:=kT.out;have h2:=CA.out;have h3:=CC.out;exact AeQ kA.out (fG _) h1 (bU h1 h2) (bU h1 (aG h2 h3)) OR.out OS.out OH.out OK.out et.out (Aa HT.out l5)):p:=h
theorem ZFL(h:p:=by
 have jp:=aA ic;have k0:=(y0.kept (grownBy_putObj' W D (.deferred none)) (fun e=>YJ)).cell;have k1:=(y1.kept (grownBy_putObj' W D (.deferred none)) (fun e=>YJ)).cell;have mT:Below w.heap.size w (W.putObj D (.deferred none)):=hB.grown (grownBy_putObj' _ _ _) hB.size (fun r e=>YJ);clear ic am kL
 dsimp only
 gi_wp2
 refine⟨ZE,.inl ⟨_,_,rfl,run_takeDeferred hK,?_⟩⟩;obtain k:=_;exact k):p:=h
theorem ZTz(h:p:=by
 generalize E7 mp=F at *;generalize Am a=n0 at *;generalize Am b=n1 at *;have ca:(C0.toList==[115,105,122,101])=false:=ZD
 have db:(C0.toList==[104,111,108,100])=false:=ZD
 have d8:(C0.toList==[102,111,114,119,97,114,100])=false:=ZD
 have fd:(C0.toList==[115,116,97,121])=false:=ZD
 refine' ZJE;refine' ZGb;have ah:w.heap.size+2≤wB.heap.size:=k0.lt;have ka:duo w 36 #[.slice AL s.letters.length cL,.int .i64 s.day.plan.bins,.int .i64 s.day.plan.passes,.slice AO s.day.plan.order.length cO,.slice AF s.day.fwds.length cF,.slice AH s.day.held.length cH,.int .i64 s.day.size,.slice AN s.net.length cN] false (wB.drew.alloc (aC #[.int .i64 0,.int .i64 0,.slice none 0 0] 30)):=ao.below (Ae (aF _ _) _);have kb:duo w 36 #[.slice AL s.letters.length cL,.int .i64 s.day.plan.bins,.int .i64 s.day.plan.passes,.slice AO s.day.plan.order.length cO,.slice AF s.day.fwds.length cF,.slice AH s.day.held.length cH,.int .i64 s.day.size,.slice AN s.net.length cN] false (wB.alloc (aC #[.int .i64 0,.int .i64 0,.slice none 0 0] 30)).drew:=(k0.below (Ae (aF _ _) _)).drew;have xm:(wB.alloc (aC #[.int .i64 0,.int .i64 0,.slice none 0 0] 30)).heap[wB.heap.size]? =some (.cells #[.int .i64 0,.int .i64 0,.slice none 0 0] 30 (0,0)):=bD wB _;have sD:wB.heap.size<(wB.alloc (aC #[.int .i64 0,.int .i64 0,.slice none 0 0] 30)).heap.size:=(Array.getElem?_eq_some_iff.1 xm).1
 obtain k:=_;exact k):p:=h
theorem ZBd(h:p:=by
 replace aa:=aa ZF;clear hK K
 refine' ZU
 obtain k:=_;exact k):p:=h
theorem ZE(h:p:=by simp):p:=h
theorem ZCp(h:p:=by
 have ni:Hid (∀W,Below w8.heap.size w8 W→rd W W.heap.size (.slice Ar 0 0) LD):=fun W h=>by
  have h:=(O3.out.rd.on (l8.trans (h.mono l8.size))).drop (k:=t) ZA
  rwa [aP ju,ju,Nat.sub_self,show L.length - t=0 by omega,lM.out]at h
 have nj:=ju.symm;subst nj;refine' ZUe;obtain k:=_;exact k):p:=h
theorem ZJ(h:p:=by go_num):p:=h
theorem ZDu(h:p:=by
 refine' ZUX
 ·have pC:k=xs.length:=by simp at h1;omega
  subst pC;rw[bX (aD _),bX ZA];simpa [hl]using Flat.free kY):p:=h
theorem ZTv(h:p:=by
 generalize Cb s.day.held=F at *;refine' ZTr;go_region_held3 (fun W=>duo w 36 #[.slice AL s.letters.length cL,.int .i64 s.day.plan.bins,.int .i64 s.day.plan.passes,.slice AO s.day.plan.order.length cO,.slice AF s.day.fwds.length cF,.slice AH s.day.held.length cH,.int .i64 s.day.size,.slice AN s.net.length cN] false W) (first|(with_reducible exact ao)|(with_reducible exact k3)|exact ZAR|fail) (first|(go_at_call 31;(with_reducible refine(HX.out _ ao.lay).mono ?_);refine' YI;have k3:=ao.below z3;refine' ZCy)|(refine' ZCA)|fail)
 all_goals refine' ZJx;exact ZB8):p:=h
theorem ZJl(h:p:=by
 go_wp2_with (go_at_call 25;refine(HM.out _ _ k1.lay R5.out).mono ?_;refine' ZUL)
 refine' ZAI;refine' ZJ5;exact Bs.fin ff.out L2.out):p:=h
theorem ZK(h:p:=by simp[intOf];omega):p:=h
theorem ZRF(h:p:=by
 refine' zm;refine eS 2 ?_;have H4:Hid (Calls P 315 #[.slice (some ⟨blk,av,none⟩) n cap,.int .i64 (0:Int),.int .i64 (20:Int),.int .i64 (40:Int),.func (.func g) #[] cb] w3 fun e w'=>e=.returned (.tuple #[])∧∃d',PermIn 0 40 d3 d'∧SortedIn Dc 0 40 d'∧SWK enc k w0 blk av d' w'):=HM.out 0 20 40 d3 w3 Z3.out yD.out ZA ZA ZA lh.out j5.out (fun i j i1 i2 j1 j2=>(T3.out).lt (s:=20) ZA ZA ZA);have U4:Aside (Tg n 40 d3):=(T3.out).up;rw[fQ]
 go_wp2_with (go_at_call 315;refine H4.out.mono ?_;rintro e w4 ⟨rfl,d4,p4,s4,S4⟩)
 refine' ZRM;have T4:Aside (Tg n 40 d4):=(U4.out).perm 0 ZA ZA ZA ZF p4 (by rw[Z3.out];omega);have rD:Aside (SortedIn Dc 40 n d4):=Dp oP.out p4 ZA;have oQ:Aside (SortedIn Dc 0 40 d4):=s4;clear p4 s4 S4;refine' zm;obtain k:=_;exact k):p:=h
theorem ZCl(h:p:=by
 clear fy ge
 refine' ZC;refine HF.mono ?_;rintro e w3 ⟨rfl,l3⟩;clear HF;have o3:=aA (j8.out.below l3);have i6:=lw.trans (l3.mono lw.size);have ft:=aA i6;obtain k:=_;exact k):p:=h
theorem ZGW(h:p:=by
 refine' YI;have k3:=er.below z3;have l3:=Aa l2 z3;refine' ZCy
 obtain k:=_;exact k):p:=h
theorem ZDL(h:p:=by
 refine' ZAi;have tF:w4.cell? ⟨G,d,none⟩=some (.slice Au zs.length cu):=(ep.cell_far ⟨G,d,none⟩ ZH gu.out).trans zB;have tG:w4.frozen? ⟨G,d,none⟩=false:=(ep.frozen_far ⟨G,d,none⟩ ZH gu.out).trans zB
 obtain k:=_;exact k):p:=h
theorem ZGJ(h:p:=by refine' ZCv;show Calls aB _ #[.agg #[.slice AL s.letters.length cL,.int .i64 s.day.plan.bins,.int .i64 s.day.plan.passes,.slice AO s.day.plan.order.length cO,.slice AF s.day.fwds.length cF,.slice AH s.day.held.length cH,.int .i64 s.day.size,.slice AN s.net.length cN],.string st,.string c] w _;refine' YN;obtain k:=_;exact k):p:=h
theorem ZUH(h:p:=by
 go_region_held3 (fun W=>duo w 36 #[.slice AL s.letters.length cL,.int .i64 s.day.plan.bins,.int .i64 s.day.plan.passes,.slice AO s.day.plan.order.length cO,.slice AF s.day.fwds.length cF,.slice AH s.day.held.length cH,.int .i64 s.day.size,.slice AN s.net.length cN] false W) (first|(with_reducible exact er)|(with_reducible exact k3)|exact ZAR|fail) (first|(refine' ZB7;refine' YI;have k3:=er.below z3;refine' ZCy)|fail)
 obtain k:=_;exact k):p:=h
theorem ZA9(h:p:=by
 by_cases di:j<k
 ·exact HG.out j h1 di
 ·refine' ZAE;exact h):p:=h
theorem ZOy(h:p:=by
 refine' zQ;refine' ZAh;subst hn;obtain⟨m,sh⟩:∃m,xs.length=m+1:=⟨xs.length - 1,ZA⟩;obtain⟨b,o,rfl,hb, -, -,c1⟩:=hr.ltrU 0 ZA;obtain⟨b2,o2,e2, -, -, -,c2⟩:=hr.ltrU m ZA;injection e2 with e2;injection e2 with e2 e3;subst e2 e3;have HL:Hid (AaU xs=xs[0].code++⟨#[45]⟩++xs[m].code):=by show _=_;unfold AaU;refine' ZOx;simp only[gP,show xs.length - 1=m by omega]
 have s1:=(Cp ((Ep.1 ag).2 0 ZA).2.2.1).1;have s2:=(Cp ((Ep.1 ag).2 m ZA).2.2.1).1;have TX:=(Ep.1 ag).1;generalize xs[0].code=p at *;generalize xs[m].code=q at *;have HO:=aA ag;have jS:((xs.length:Int)==0)=false:=beq_eq_false_iff_ne.2 ZA;have jb:0<xs.length:=ZA
 have uJ:(m:Int)<(xs.length:Int):=ZA
 obtain k:=_;exact k):p:=h
theorem ZE1(h:p:=by rintro pre A C row ⟨h1,h3,h4,h5⟩ hg hr;refine' ZIn;refine⟨h1,h3.kept hg (ne _ ZA),h4.kept hg (ne _ ZA),h5.grown hg (aG hs h5.size) fun k e=>?_⟩;rcases hr k e with h|⟨h,_⟩<;>omega):p:=h
theorem ZDn(h:p:=by refine' ZGa;exact⟨.slice none 0 0,ZF1,ZDi,Ai (Ai (Ai lK.out (aD _) _) (aD _) _) (aD _) _⟩):p:=h
theorem ZHw(h:p:=by
 have oW:∀k,k<w6.heap.size→k≠w.heap.size+1+1→(w5.setCell ⟨w.heap.size+1+1,0,none⟩ (.slice A5 n5 c5)).heap[k]? =W.heap[k]? :=fun k h1 h2=>by have a1:=(grownBy_setCell' w5 (w.heap.size+1+1) (.slice A5 n5 c5)).block k (by have:=ap.size;simp at this;omega) (fun e=>h2 (by injection e));have a2:=ap.block k ZH (fun e=>by have:=(o2.blk _ e.symm).1;omega);exact a1.trans (a2.trans ((dH W2 _ k ZA).trans (hb.block k ZA)))
 obtain k:=_;exact k):p:=h
theorem ZJ4(h:p:=by go_at_call 9;refine(xG.out _).mono ?_;refine' ZCt;refine' ZCw;obtain⟨g5,c5,rfl,tY⟩:=R6 o5 pN.out;have O5:=aA o5;clear o5;refine' ZKH;obtain k:=_;exact k):p:=h
theorem ZL3(h:p:=by
 refine' ZC;go_loopw[7,8,11] (fun a b i wu=>a=.slice (some ⟨w.heap.size,0,none⟩) 0 0∧b=.slice (some ⟨w.heap.size+1,0,none⟩) 0 0∧i=.int .i64 0∧wu=wr) (fun _ _ _ _=>0)
 case atStart=>exact⟨rfl,rfl,rfl,rfl⟩
 case round=>
  obtain⟨rfl,rfl,rfl,rfl⟩:=hrel;by_cases hx0:(0:Int)<(xs.length:Int)
  all_goals exact ZLy):p:=h
theorem ZTj(h:p:=by
 generalize C5 xs=F at *;have ca:(C4.toList==[115,105,122,101])=false:=ZD
 have db:(C4.toList==[104,111,108,100])=false:=ZD
 have d8:(C4.toList==[102,111,114,119,97,114,100])=false:=ZD
 refine' ZI9;refine' ZGb;go_region_held3 (fun W=>duo w 36 #[.slice AL s.letters.length cL,.int .i64 s.day.plan.bins,.int .i64 s.day.plan.passes,.slice AO s.day.plan.order.length cO,.slice AF s.day.fwds.length cF,.slice AH s.day.held.length cH,.int .i64 s.day.size,.slice AN s.net.length cN] false W) (first|(with_reducible exact ao)|exact ZEB|fail) (first|(go_at_call 96;refine' ZUt)|fail)
 obtain k:=_;exact k):p:=h
theorem ZUg(h:p:=by
 have H1:Hid (Calls P 314 #[.slice (some ⟨blk,av,none⟩) n cap,.int .i64 (0:Int),.int .i64 (20:Int),.func (.func g) #[] cb] w0 fun e w'=>e=.returned (.tuple #[])∧∃d',PermIn 0 20 d0 d'∧SortedIn Dc 0 20 d'∧SWK enc k w0 blk av d' w'):=HI.out 0 20 d0 w0 HN.out S0.out ZA ZA (fun i i1 i2=>HT.out i ZA);refine' ZQ9;have K1:Aside (∀i,20≤i→(d1[i]!)=(d0[i]!)):=fun i hi=>by rw[p1.2.1 i (gQ hi)]
 refine' ZRA;have g7:Aside (SortedIn Dc 0 20 d1):=s1;clear p1 s1 S1;obtain k:=_;exact k):p:=h
theorem ZSh(h:p:=by
 refine' zD;refine FU.out.mono ?_;refine' zd;have o1:own (α:=Value) 27 w.heap.size (w1.alloc (.cells #[] 27)) (.slice (some ⟨w1.heap.size,0,none⟩) 0 0) []:=own.made0 w1 _ (aG bf l1.size);have r1:rd (w1.alloc (.cells #[] 27)) (w1.alloc (.cells #[] 27)).heap.size (.slice (some ⟨w1.heap.size,0,none⟩) 0 0) ([]:List (List Ltr)):=Fu.rd (T1:=27) (T2:=119) (base:=w.heap.size) ⟨[],o1,rfl,fun k h=>absurd h (aX k),fun j k h=>absurd h (aX j),fun k h=>absurd h (aX k)⟩;have o2:own (α:=Ltr) 119 w.heap.size ((w1.alloc (.cells #[] 27)).alloc (.cells #[] 119)) (.slice (some ⟨(w1.alloc (.cells #[] 27)).heap.size,0,none⟩) 0 0) []:=own.made0 _ _ ZKf;have O1:=aA (r1.on (Ae (aF _ _) (.cells #[] 119)));have O2:=aA o2.rd;clear o1 o2 r1
 obtain k:=_;exact k):p:=h
theorem ZGB(h:p:=by
 clear k0 ao
 refine' ZC;refine' ZJk;exact Bs.read HS.out HF.out.lay HP.out):p:=h
theorem ZY(h:p:=by rw[IntKind.wrap_i64];omega):p:=h
theorem ZFs(h:p:=by have fi:=aA (bD w (aC #[.int .i64 0,.int .i64 0,.int .i64 0] 147));have j6:Hid (Below w.heap.size w (w.alloc (aC #[.int .i64 0,.int .i64 0,.int .i64 0] 147))):=(aF _ _).alloc (aD _) _;obtain k:=_;exact k):p:=h
theorem ZMA(h:p:=by
 refine' zK;have l2:=Aa l1 b2;replace E2:=aA (E3 E2.out b2);clear k0 k1 k2 k3 kf;refine' ZKM;cases h2:okB xs
 ·have HF:Hid (Ka d xs=false):=ZBf
  clear h2
  refine' ZKN;exact Vw HF.out (Ai (Ai (Ai (Ai (Aa HT.out l2) (p:=⟨w.heap.size+1,0,none⟩) bg _) (p:=⟨w.heap.size+1,1,none⟩) bg _) (p:=⟨w.heap.size+1,2,none⟩) bg _) (p:=⟨w.heap.size+1,3,none⟩) bg _)
 have kA:Hid (Ka d xs=true):=by show _=_;rw[HQ.out,H1.out,h2];rfl
 clear h2 k0 k1 k2 k3 kf bg;have kT:Hid (w.heap.size+1<w2.heap.size):=by have h1:=FQ.out;have h2:=b1.size;have h3:=b2.size;show _<_;omega
 clear b1 b2
 refine' ZC;obtain k:=_;exact k):p:=h
theorem ZLn(h:p:=by
 refine' ZC4;have jZ:=aA (Al8 (fs:=fs) ab);have iq:=aA (AhU (fs:=fs) ab);have jx:=aA (Af2 (fs:=fs) ab);have gm:=aA (AcY (fs:=fs) ab);have cy:=aA (aG (Ak8 fs (xs.take k)) (Fv xs k));have gi:=aA (aG (AfM fs (xs.take k)) (Fv xs k));have si:(Bc fs xs[k].code).1.size≤maxLen:=Sg H1.out ew;refine' zp;generalize F9 fs (xs.take k)=sa at *;generalize Lj fs (xs.take k)=bs at *;refine' ZKO;obtain⟨to,de⟩:∃z,Hid ((Bc fs x.code).1=z):=⟨_,rfl⟩;obtain⟨nn,rE⟩:∃z,Hid ((Bc fs x.code).2.1=z):=⟨_,rfl⟩;rw[de.out]at si jZ;refine' YQ
 obtain k:=_;exact k):p:=h
theorem ZTP(h:p:=by
 have q1:=fun W (h:stS w w.heap.size 36 #[.slice AL s.letters.length cL,.int .i64 s.day.plan.bins,.int .i64 s.day.plan.passes,.slice AO s.day.plan.order.length cO,.slice AF s.day.fwds.length cF,.slice AH s.day.held.length cH,.int .i64 s.day.size,.slice AN s.net.length cN] W)=>(Ac h.box).1.2.1
 have q2:=fun W (h:stS w w.heap.size 36 #[.slice AL s.letters.length cL,.int .i64 s.day.plan.bins,.int .i64 s.day.plan.passes,.slice AO s.day.plan.order.length cO,.slice AF s.day.fwds.length cF,.slice AH s.day.held.length cH,.int .i64 s.day.size,.slice AN s.net.length cN] W)=>(Ac h.box).1.2.2.1
 have q3:=fun W (h:stS w w.heap.size 36 #[.slice AL s.letters.length cL,.int .i64 s.day.plan.bins,.int .i64 s.day.plan.passes,.slice AO s.day.plan.order.length cO,.slice AF s.day.fwds.length cF,.slice AH s.day.held.length cH,.int .i64 s.day.size,.slice AN s.net.length cN] W)=>(Ac h.box).1.2.2.2.1
 obtain k:=_;exact k):p:=h
theorem zF(h:p:=by rw[bH];omega):p:=h
theorem ZLI(h:p:=by
 go_wp2;rw[←dc.out];obtain⟨ov,jj⟩:=I3 (α:=Ltr) w0 27 119 N w0.heap.size (aD _) ZN;refine' ZLZ;have t8:(w0.alloc (aC (madeCells #[.slice none 0 0] N) 27)).heap.size=w.heap.size+1+1:=by simp[jP.out]
 refine' ZLa;have y9:own (α:=Ltr) 119 w0.heap.size (wz.alloc (aC #[] 119)) (.slice (some ⟨wz.heap.size,0,none⟩) 0 0) []:=own.made0 wz _ lz.size;rw[t8]at y9;have sV:D7 (.slice (some ⟨w.heap.size+1+1,0,none⟩) 0 0) (.slice (some ⟨w.heap.size+1,0,none⟩) N N) ov:=ZLO
 have sW:=aA sV;have uU:=aA y9;have ky:=aA (ix.below ((aF _ _).alloc (aD _) (aC #[] 119)));have wK:=Ae lz (aC #[] 119);clear ix y9 t8 lz sV;generalize QI:wz.alloc (aC #[] 119)=wy at *;clear QI;generalize GY:w.heap.size+1+1=G2 at *;refine' ZGv;clear hG GY ez
 obtain k:=_;exact k):p:=h
theorem ZT(h:p:=by rintro e w1 ⟨rfl,b1⟩;obtain k:=_;exact k):p:=h
theorem ZTZ(h:p:=by
 refine' ZAP;refine' ZUN;have lP:(B5.toList==[102,97,117,108,116])=false:=ZD
 have nK:(B5.toList==[112,97,116,104])=false:=ZD
 generalize B5=wd at *;refine' ZAQ;go_region_held3 (fun W=>stS w w.heap.size 36 #[.slice AL s.letters.length cL,.int .i64 s.day.plan.bins,.int .i64 s.day.plan.passes,.slice AO s.day.plan.order.length cO,.slice AF s.day.fwds.length cF,.slice AH s.day.held.length cH,.int .i64 s.day.size,.slice AN s.net.length cN] W) (first|(with_reducible exact ao)|exact ZEB|fail) (first|(go_at_call 110;first|((with_reducible refine(HC.out _ ao).mono ?_);refine' ZCt;have k1:=stS.below ao z1;obtain⟨A5,n5,c5,rfl,ym,_,_,_⟩:=o5.rd;have O5:=aA o5;clear o5)|fail)|fail)
 obtain k:=_;exact k):p:=h
theorem ZS7(h:p:=by
 refine' ZCz;refine' ZGT;(refine Bl (α:=ByteArray) ZG (.tmp 44) (.tmp 47) 28 ZG W3.heap.size 9 i0 _ 16 aW hi ah aw aq rfl ZF (.slice (some ⟨W3.heap.size,0,none⟩) 0 0) [] ZG qf _ LT ZG _ (CZ.out _ lS) ks kt zq ?_;intro v7 w7 o7 dm _;have l7:Below W3.heap.size W3 w7:=lS.trans (Ay qf dm zq);refine' ZBG;have ua:=(dm.block (W3.heap.size+1) ZE (fun e=>ZGU)).trans rb)
 refine' ZB9;refine' ZEE;(refine Ce (α:=ByteArray) ZG (.tmp 48) (.tmp 54) 28 ZG W3.heap.size 9 i0 _ 16 aW hi ah aw aq rfl ZF v7 LT x ZG o7 ⟨W3.heap.size+1,0,none⟩ 1 [.string x] ZG ⟨EE.out,rfl⟩ (Oo ua) kr mj fw ?_;refine' ZC0;have l8:Below W3.heap.size W3 w8:=l7.trans (Ay o7 ii fw))
 refine' ZKE;obtain k:=_;exact k):p:=h
theorem ZKs(h:p:=by
 refine' ZUu;obtain⟨b',o',rfl,pA,⟨fa,ew⟩,d1,d2⟩:=HU.out.ltrU m nE;have BI:Hid (∀h:f ys[m]=(j:Int),K.set j (D8 f j (ys.take (m+1)))=(K.set j (D8 f j (ys.take m))).set j ((K.set j (D8 f j (ys.take m)))[j]' ZKP ++[ys[m]])∧Gv f j (ys.take (m+1))=Gv f j (ys.take m)):=fun h=>by refine⟨?_,Ak0 nE h⟩;rw[AbS nE h];exact(An7 (L:=K) (r:=D8 f j (ys.take m)) ZKP rfl).symm
 have wG:Hid (∀h:f ys[m]≠(j:Int),K.set j (D8 f j (ys.take (m+1)))=K.set j (D8 f j (ys.take m))∧Gv f j (ys.take (m+1))=Gv f j (ys.take m)++[ys[m]]):=fun h=>⟨by rw[Sr nE h],AhJ nE h⟩
 have vJ:=aA (AjI f j (ys.take m));have BJ:=aA (Wg f j (ys.take m));have SE:Hid (∃h:j<(K.set j (D8 f j (ys.take m))).length,(K.set j (D8 f j (ys.take m)))[j]=D8 f j (ys.take m)):=⟨ZKP,by rw[iD]⟩;obtain⟨x,hx⟩:∃x,x=ys[m]:=⟨_,rfl⟩;rw[←hx]at d1 d2 fa ew BI wG;clear hx;have wI:(Gv f j (ys.take m)).length≤ys.length∧(D8 f j (ys.take m)).length≤ys.length:=by have h1:=vJ.out;have h2:=BJ.out;rw[bH]at h1 h2;omega
 obtain k:=_;exact k):p:=h
theorem ZS6(h:p:=by
 (refine Bl (α:=ByteArray) ZG (.tmp 44) (.tmp 47) 28 ZG W3.heap.size 9 i0 _ 16 aW hi ah aw aq rfl ZF (.slice (some ⟨W3.heap.size,0,none⟩) 0 0) [] ZG mC _ LT ZG _ (CZ.out _ kD) ks kt zq ?_;intro v7 w7 o7 dm _;have l7:Below W3.heap.size W3 w7:=kD.trans (Ay mC dm zq);refine' ZBG)
 refine' ZB9;refine Bk (rs:=[10]) ZB ZE ?_;refine' ZCz;refine' ZEE;(refine Ce (α:=ByteArray) ZG (.tmp 48) (.tmp 54) 28 ZG W3.heap.size 9 i0 _ 16 aW hi ah aw aq rfl ZF v7 LT x (by rfl) (o7.alloc _) ⟨w7.heap.size,0,none⟩ 1 [.string x] ZG ⟨EE.out,rfl⟩ (Bz w7 _ [.string x]) kr mj ZH ?_;refine' ZC0;have l8:Below W3.heap.size W3 w8:=(l7.alloc fw _).trans (Ay (o7.alloc _) ii ZH))
 refine' ZKE;obtain k:=_;exact k):p:=h
theorem ZG0(h:p:=by
 have br:=aA (Ho (dz.out.below ((aF _ _).alloc (aD _) _)) fh.out ep);have b4:Below w0.heap.size w0 w4:=by
  refine(Ae i6 (aC #[bC aI x.id,aK x.code] 119)).grown ep ZH fun j hj=>?_
  exact(fg.out.blk j hj).1
 have mN:Hid (D7 (.slice (some ⟨g,0,none⟩) ((Bn f (xs.take k)).length+1) cap) (.slice (some ⟨G,0,none⟩) N N) vs):=Kj dz.out fh.out kR ZE;go_roundw
 case rel=>exact⟨k+1,vs,ZA,ZJ,b4,by rw[eu.out];exact br.out,by rw[ff.out,←HX.out];exact fj,mN⟩
 case measure=>exact ZK):p:=h
theorem ZNP(h:p:=by
 have hZ:=aA (Ou rs);obtain⟨PN,qG⟩:∃P,Jb rs (k+1)=P:=⟨_,rfl⟩;obtain⟨P,hP⟩:∃P,Jb rs k=P:=⟨_,rfl⟩;refine' ZNH;generalize rs[k]=x at *;obtain⟨p,q⟩:=x;have ct:=kT.out;simp only at ct y1 y2;obtain⟨s1,_,s2⟩:=ct;refine' ZFe;refine' zO;by_cases gx:k=0
 ·subst gx
  simp only[fD,bW,dA]at y1 y2;have lv:Hid (aK (P++p++⟨#[62]⟩++q)=.string (Jb rs (0+1))):=by
   show _=_;have e1:Jb rs (0+1)=Ek ⟨p,q⟩:=ti.out rfl;have e2:P=⟨#[]⟩:=by rw[←EJ.out,hZ.out]
   rw[e1,e2];unfold Ek
   all_goals congr 1
   all_goals refine Cv ?_
   all_goals simp
  clear bc ei;have bc:(0:Int)<(rs.length:Int):=ZA
  have qC:¬9223372036854775807<P.size+p.size:=ZA
  have oI:¬9223372036854775807<P.size+p.size+1:=ZA
  have qD:¬9223372036854775807<P.size+p.size+1+q.size:=ZA
  refine' ZC;go_quiet (fail)
  refine' ZC;go_roundw
  case rel=>exact⟨0+1,ZA,ZJ,lv.out,Ba lr _⟩
  case measure=>exact ZK
 obtain k:=_;exact k):p:=h
theorem ZMk(h:p:=by
 go_wp2
 go_loopw[9] (fun i wr=>∃k:Nat,k≤fs.length∧i=.int .i64 k∧Below w.heap.size w wr∧Hid (∀j (h:j<fs.length),j<k→sEq fs[j].src c=false)) (fun i _=>fs.length - (intOf i).toNat)
 case atStart=>exact⟨0,aM _,rfl,l0,fun j _ hj=>absurd hj (aX j)⟩
 case round=>
  refine' ZBA;by_cases ab:k<fs.length
  ·refine' ZUv;cases he:sEq x.src c
   ·refine' zg;have hq:(x.src.toList==c.toList)=false:=he;exact ZPm
   ·refine' zg;have hq:(x.src.toList==c.toList)=true:=he;clear he;refine' ZO;exact⟨Bo (HY.out it.out).symm,Ae lr _⟩
  ·have HE:Hid (Gg fs c= -1):=Pk fun j hj=>HG.out j hj ZA
   refine' ZO;exact⟨Bo HE.out.symm,lr⟩):p:=h
theorem ZGO(h:p:=by
 refine' ZBa;have x1:=Bx hf 1 ZE;have y1:=fun W (h:duo w 36 #[.slice AL s.letters.length cL,.int .i64 s.day.plan.bins,.int .i64 s.day.plan.passes,.slice AO s.day.plan.order.length cO,.slice AF s.day.fwds.length cF,.slice AH s.day.held.length cH,.int .i64 s.day.size,.slice AN s.net.length cN] false W)=>(h.lay.cell (p:=⟨g,1,none⟩) bv).trans x1
 clear hS hf x0 x1;obtain k:=_;exact k):p:=h
theorem ZEg(h:p:=by
 try clear qw
 try clear hd
 obtain⟨wq,nw⟩:∃u,u=wl.drewN nq:=⟨_,rfl⟩;have lq:=Cx ll nq;have bq:=Cx yY nq;rw[←nw]at lq bq⊢;clear nw;have jy:=aA (br.out.below bq);have sQ:w.heap.size≤wq.heap.size:=lq.size;obtain k:=_;exact k):p:=h
theorem ZMl(h:p:=by
 go_wp2
 go_loop[5] (fun i=>∃k:Nat,k≤fs.length∧i=.int .i64 k∧Hid (∀j (h:j<fs.length),j<k→sEq fs[j].src c=false)) (fun i=>fs.length - (intOf i).toNat)
 case atStart=>exact ZAn
 case round=>
  refine' YE;by_cases ab:k<fs.length
  ·refine' ZUv;cases he:sEq x.src c
   ·refine' zg;have hq:(x.src.toList==c.toList)=false:=he;clear he;go_wp2
    exact ZBl
   ·refine' zg;have hq:(x.src.toList==c.toList)=true:=he;clear he;exact ZCW
  ·have HE:Hid (Gg fs c= -1):=Pk fun j hj=>HG.out j hj ZA
   exact ZDf):p:=h
theorem ZJ2(h:p:=by
 refine' zJ;show Calls aB _ #[.agg #[.slice AL s.letters.length cL,.int .i64 s.day.plan.bins,.int .i64 s.day.plan.passes,.slice AO s.day.plan.order.length cO,.slice AF s.day.fwds.length cF,.slice AH s.day.held.length cH,.int .i64 s.day.size,.slice AN s.net.length cN],.string wd,.string r] w _;refine' ZAS;have xG:Hid (∀W:World,Calls aB 9 #[.string r,.int .u8 32] W fun e w'=>∃v,e=.returned v∧own (α:=ByteArray) 9 W.heap.size w' v (Aj 32 r)∧Below W.heap.size W w'):=fun W=>I9 r 32 W ZA
 have pN:=aA (Pj r);obtain k:=_;exact k):p:=h
theorem ZK7(h:p:=by
 refine' ZUu;obtain⟨b',o',rfl,pA,⟨fa,ew⟩,d1,d2⟩:=JA.out.rd.rows.ltrU q uo;have HX:Hid (∀x,x=ws[q]→(f x<0→D9 f K (ws.take (q+1))=D9 f K (ws.take q)∧Bn f (ws.take (q+1))=Bn f (ws.take q)++[x])∧∀d:Nat,f x=(d:Int)→∀hd:d<(D9 f K (ws.take q)).length,D9 f K (ws.take (q+1))=(D9 f K (ws.take q)).set d ((D9 f K (ws.take q))[d]++[x])∧Bn f (ws.take (q+1))=Bn f (ws.take q)):=fun x hx=>by subst hx;exact⟨fun h=>⟨AfR uo h,L7 uo h⟩,fun d hd mE=>⟨AjW uo hd mE,Lz uo ZA⟩⟩
 have rJ:=aA (show(Bn f (ws.take q)).length≤60 from aG (E4 _ ws q) ZA);have nJ:Hid (∀d (h:d<(D9 f K (ws.take q)).length),(D9 f K (ws.take q))[d].length≤120):=fun d h=>by have h1:=AcZ f K (ws.take q) d 60 h um.out;have h2:=List.length_take_le q ws;omega
 have BN:Hid ((D9 f K (ws.take q)).length=xss.length):=by show _=_;rw[Rp];exact mD.out
 obtain⟨x,hx⟩:∃x,x=ws[q]:=⟨_,rfl⟩;have iv:=aA (HX.out x hx);rw[←hx]at d1 d2 fa ew;clear hx HX;obtain k:=_;exact k):p:=h
theorem zi(h:p:=by
 go_enter Tryz.func46,Tryz.ntmps46
 refine' ZQ;exact ZV):p:=h
theorem ZLA(h:p:=by
 refine' ZGm;have SI:=aA ((BO.out.below ((aF _ _).alloc (aD _) (aC #[bC aI x.id,aK x.code] 119))).grown ap (Br rm.out));refine' ZUw;have lk:Hid (D7 (.slice (some ⟨g,0,none⟩) (rs.length+1) cap) (.slice (some ⟨G,0,none⟩) xss.length xss.length) gw):=Kj br.out fk.out cn ZE;have ex:Hid (apart (.slice (some ⟨g,0,none⟩) (rs.length+1) cap) (.slice (some ⟨b',o',none⟩) ws.length cW)):=Dg rm.out cn fun j hj=>by have:=(BO.out.blk j hj).2;exact ZH
 go_roundw
 case rel=>exact⟨q+1,gw,ZA,ZJ,l5,by rw[BP.out];exact lV.out,by rw[ve.out];exact bz,SI.out,lk,qm.out,ex⟩
 case measure=>exact ZK):p:=h
theorem ZOF(h:p:=by
 refine' ZOB;have HC:=Er x 62 W hx;refine' ZE8;rcases ij:E5 62 x with _|⟨p,q⟩
 ·have nT:Calls aB 51 #[.string x,.string ⟨#[62]⟩] W fun e w'=>Below W.heap.size W w'∧e=.returned (.tuple #[.string x,.string ⟨#[]⟩,.bool false]):=HC.mono fun e w' h=>ZHs
  have HP:Hid (Ko (pre++[x])=false):=by show _=_;rw[Rc];unfold K7;rw[ij];simp
  clear HC ij y0 y1 hv ho
  gi_wp2_with (refine' ZDj;refine' ZDk)
  exact ZFA
 obtain k:=_;exact k):p:=h
theorem ZLV(h:p:=by
 refine' ZLf;have lF:Hid ((xss.take k).flatten.length+xss[k].length≤1048576):=by
  show _≤_;rw[←aS,←HS.out];have:(xss.take (k+1)).flatten.length≤xss.flatten.length:=ZOw
  exact YT
 refine' ZLg;clear nI kC jr kq;refine' ZLh;have LU:=lF.out
 obtain k:=_;exact k):p:=h
theorem ZPj(h:p:=by
 clear qI;go_wp2
 go_region_held3 (fun W=>Below w6.heap.size w6 W) (first|exact ld|exact Aa ld b8) (first|(go_at_call 28;refine(HCD.out _ ld).mono ?_;rintro e w8 ⟨rfl,b8⟩))
 have m8:=Aa ld b8;have l8:=Aa l6 m8;have gy:=aA (pP.out.below m8);have EO:=l8.size;have OC:=aA (xu.out.on m8)
 go_wp2_with (at_builtin;refine Cu (α:=ByteArray) rfl (.tmp 59) (.tmp 60) 28 rfl w.heap.size 9 i0 _ 16 aW hi ah aw aq rfl ZF (.slice A3 zs.length c3) zs rfl gy.out (.slice (some ⟨b',o',none⟩) 1 c6) [y] rfl w8.heap.size (OC.out) ZN ZA EO ?_;intro v7 w7 kz dm _)
 have l7:Below w.heap.size w w7:=(l8).grown dm EO fun q hq=>(gy.out.blk q hq).1
 exact ZUx):p:=h
theorem ZCv(h:p:=by obtain⟨AL,cL,AO,cO,AF,cF,AH,cH,AN,cN,rfl,rfl,rfl,rfl,rfl⟩:=hS.opened;obtain k:=_;exact k):p:=h
theorem ZKB(h:p:=by obtain⟨wA,ae⟩:∃u,u=w.alloc (aC #[.slice AL s.letters.length cL,.int .i64 s.day.plan.bins,.int .i64 s.day.plan.passes,.slice AO s.day.plan.order.length cO,.slice AF s.day.fwds.length cF,.slice AH s.day.held.length cH,.int .i64 s.day.size,.slice AN s.net.length cN] 36):=⟨_,rfl⟩;obtain k:=_;exact k):p:=h
theorem ZC3(h:p:=by have L4:=aA k3.lay;obtain⟨r0,r1,r2,r3,r4,r5,r6,r7,ce⟩:=k3.res;have aj:=aA ce;clear ce;obtain k:=_;exact k):p:=h
theorem ZER(h:p:=by
 refine' zI;have qQ:w5.cell? ⟨G,d,none⟩=some (.slice Au qs.length cu):=(ap.cell_far ⟨G,d,none⟩ ZH gu.out).trans zB;have qR:w5.frozen? ⟨G,d,none⟩=false:=(ap.frozen_far ⟨G,d,none⟩ ZH gu.out).trans zB
 obtain k:=_;exact k):p:=h
theorem ZX(h:p:=by rw[HF.out]<;>rfl):p:=h
theorem ZOd(h:p:=by
 refine' ZC4;obtain⟨jf,sY,kC,AP⟩:=HF.out k ab;obtain⟨x,hx⟩:∃x,x=xs[k]:=⟨_,rfl⟩;have HX:=aA hx;have QW:dd<x.code.size:=by rw[hx];exact jf
 have bt:48≤(x.code[dd]).toNat∧(x.code[dd]).toNat≤57:=by simp only[hx];exact⟨sY,kC⟩
 have wM:f xs[k]=(((x.code[dd]).toNat - 48:Nat):Int):=by rw[AP];simp only[hx]
 rw[←hx]at c1 c2 fa ew;clear hx AP sY kC;obtain⟨bb,QX⟩:∃bb,x.code[dd]=bb:=⟨_,rfl⟩;rw[QX]at bt wM;obtain⟨d,hd⟩:∃d:Nat,d=bb.toNat - 48:=⟨_,rfl⟩;rw[←hd]at wM;have tE:d<10:=ZA
 have HD:Hid (f xs[k]=(d:Int)):=wM;clear wM;refine' YQ;have lC:d<(Bm f 10 (xs.take k)).length:=by rw[Hz];exact tE
 have eu:=aA (Ls (f:=f) (n:=10) (d:=d) ab HD.out lC);obtain k:=_;exact k):p:=h
theorem ZLC(h:p:=by
 refine' ZUy;obtain⟨p1,p2,p3⟩:=Eh br.out jq.out fk.out fq ey ir mV.out sj.out bz ap cn;obtain⟨_,p5,p6⟩:=Eh br.out BO.out qm.out fq ey ir mV.out sj.out bz ap cn;have p4:=Ex (G:=G) (d:=d) (g:=g) (m:=qs.length+1) (cap:=cap) (Ag (Ae l4 (aC #[bC aI x.id,aK x.code] 119))) ap (fun j hj=>(jc.out.blk j hj).1) mt;refine' ZKL;have P5:=aA p5;have P6:=aA p6;clear p1 p2 p3 p5 p6 fq;go_wp2
 go_roundw
 case rel=>exact⟨q+1,_,ZA,ZJ,p4,by rw[BP.out];exact P1.out,by rw[ve.out];exact P2.out,P5.out,P3.out,P6.out,rm.out⟩
 case measure=>exact ZK):p:=h
theorem ZQD(h:p:=by
 clear hq
 go_wp2_with (at_builtin;refine An (α:=Int) rfl (.tmp 42) (.tmp 44) 61 rfl w.heap.size 3 i0 _ 8 iI hi ah aw aq rfl ZF (.slice (some ⟨g,0,none⟩) (p.length+1) cap) (S8 (p++[i])) (j:Int) rfl (fg.out.alloc _) ⟨w3.heap.size,0,none⟩ 1 [.int .i64 j] rfl ⟨⟨ZA,ZA⟩,rfl⟩ (Bz w3 _ [.int .i64 j]) (by rw[Jm,aS];unfold maxLen;simp only[cE];omega) (by rw[Jm,aS];simp only[cE];omega) ZH ?_;intro g5 rY w5 bz ap cn jJ)
 have l5:Below w.heap.size w w5:=(Ae l3 (aC #[bC aI j] 3)).grown ap ZH fun q hq=>(fg.out.blk q hq).1
 rw[←AkZ]at bz;have xi:(S8 (p++[i])).length=p.length+1:=by rw[Jm];simp
 refine' ZBQ;clear bz;obtain k:=_;exact k):p:=h
theorem ZUb(h:p:=by
 clear ha
 ·skip
  refine' ZC;refine(Wm _ _ o _ w1 rI.out (by refine' YY;first|(show o.size+3≤_;omega)|(show o.size+(_+1)≤_;omega)) gh).mono ?_;rintro e w2 ⟨rfl,u2,b2,me⟩;have ik:=aA (AdG rI.out);have ww:=aA u2;have jR:=aA (AgN px.out me ik.out);have ja:=aA (AhX lu.out me ik.out ZF ZF);have gi:=aA (cy.out.trans b2);clear u2 b2 me
  refine' ZC;go_roundw
  case rel=>exact⟨k+1,pj,ZA,ZJ,gi.out,jR.out,by show bld _ _ _ _;rw[qJ.out he,HA.out];exact ww.out,ja.out,qp.out,by show _=_;rw[qJ.out he,←HQ.out,tJ.out,Vu he ZA ZA],by rw[qJ.out he];have:=Ry (ans k);refine' YY;show o.size+(_+1)≤_;omega⟩
  case measure=>exact ZK):p:=h
theorem ZE3(h:p:=by
 have HO:=aA hO;have HR:=aA hR;clear hO hR;have tM:(t.toList==[45])=true:=by unfold sEq at ci;rw[bR ⟨#[45]⟩]at ci;exact ci
 clear ci
 obtain k:=_;exact k):p:=h
theorem zn(h:p:=by refine' ZG6;simp[hf]):p:=h
theorem ZD1(h:p:=by
 obtain⟨hb,⟨h,_⟩|⟨p,q,h,he⟩⟩:=h
 ·rw[co]at h;cases h
 ·rw[co]at h;cases h;exact⟨he,hb⟩):p:=h
theorem ZT1(h:p:=by
 (go_at_call 97;first|(refine' ZB5;rintro e u1 ⟨AX,nX,cX,rfl,oX,b1⟩;have k1:=ao.below b1;have OX:=aA oX;clear oX)|((with_reducible refine(HC.out _ ka.lay).mono ?_);rintro e u1 ⟨AX,nX,cX,rfl,oX,b1⟩;have k1:=ka.below b1;have pq:u1.heap[wB.heap.size]? =some (.cells #[.int .i64 0,.int .i64 0,.slice none 0 0] 30 (0,0)):=(b1.block _ sD).trans xm;obtain⟨d0,d1,d2,g0,g1,g2⟩:=B7 pq;have OX:=aA oX;clear oX)|((with_reducible refine(HC.out _ kb.lay).mono ?_);rintro e u1 ⟨AX,nX,cX,rfl,oX,b1⟩;have k1:=kb.below b1;have pq:u1.heap[wB.heap.size]? =some (.cells #[.int .i64 0,.int .i64 0,.slice none 0 0] 30 (0,0)):=(b1.block _ sD).trans xm;obtain⟨d0,d1,d2,g0,g1,g2⟩:=B7 pq;have OX:=aA oX;clear oX)|fail)
 obtain k:=_;exact k):p:=h
theorem zt(h:p:=by
 show Bu _ _ _ _ _ _ _ _ (Act.put _ (some 60) _) _
 refine' ZU
 obtain k:=_;exact k):p:=h
theorem ZBh(h:p:=by refine' ZAH;have bf:w.heap.size≤w0.heap.size:=HT.out.size;obtain k:=_;exact k):p:=h
theorem zl(h:p:=by obtain⟨w2,rfl⟩:∃w2:World,w2=wr:=⟨_,rfl⟩;obtain k:=_;exact k):p:=h
theorem ZCs(h:p:=by have om:rdP w w.heap.size (.agg #[.int .i64 s.day.plan.bins,.int .i64 s.day.plan.passes,.slice AO s.day.plan.order.length cO]) s.day.plan:=⟨_,rfl,hi.1,hi.2,hS.o.rd⟩;obtain k:=_;exact k):p:=h
theorem ZKr(h:p:=by
 refine' ZEU;obtain⟨b,o,u,rfl,hb,hu,c1⟩:=HR.out.rowU j ab;have eu:=aA (Uz (f:=f) ab);have ff:=aA (Wf (f:=f) ab);have gp:=aA (Z8 (f:=f) ab);have HL:Hid ((Mh f xss j).length+xss[j].length≤60):=by show _≤_;have h1:=Am6 f xss j ZA;have h2:=Nc xss (j+1);rw[aH ab,bT,aS]at h2;simp only[cT,fR,eB]at h2;have:=mK.out;omega
 generalize xss[j]=ys at *;obtain⟨K,HK⟩:∃K,Hid (Fd f xss j=K):=⟨_,rfl⟩;have mD:Hid (j<K.length):=by show _<_;rw[←HK.out,G4];exact ab
 rw[HK.out]at jV eu gp;generalize Mh f xss j=zs at *;obtain⟨A2,m2,c2,rfl,nI,kC,jr,kq⟩:=hu;subst nI;unfold maxLen at jr;have HU:=aA kq;clear kq;have ko:(j:Int)<(xss.length:Int):=ZA
 refine' ZC;obtain k:=_;exact k):p:=h
theorem ZG(h:p:=by rfl):p:=h
theorem ZTe(h:p:=by
 generalize C5 xs=F at *;have ca:(Bt.toList==[115,105,122,101])=false:=ZD
 have db:(Bt.toList==[104,111,108,100])=false:=ZD
 refine' ZJA;refine' ZGb;go_region_held3 (fun W=>duo w 36 #[.slice AL s.letters.length cL,.int .i64 s.day.plan.bins,.int .i64 s.day.plan.passes,.slice AO s.day.plan.order.length cO,.slice AF s.day.fwds.length cF,.slice AH s.day.held.length cH,.int .i64 s.day.size,.slice AN s.net.length cN] false W) (first|(with_reducible exact ao)|exact ZEB|fail) (first|(go_at_call 95;refine' ZUt)|fail)
 obtain k:=_;exact k):p:=h
theorem ZL8(h:p:=by
 refine' ZDX;have HD:=aA im;obtain⟨hp,ho,hf,hh,ct⟩:=AbR im;refine' ZHR;clear hp ho hf hv im hh ct;have HB:=aA (hb.on HT.out);refine' ZKQ;refine' zX;clear ac hb;refine' ZAH;obtain⟨W,hW⟩:∃W,W=w0.alloc (aC #[.slice none 0 0,.slice none 0 0,.slice none 0 0,.slice none 0 0] 78):=⟨_,rfl⟩;have lW:Below w0.heap.size w0 W:=by subst hW;exact Ae l0 _
 have E2:Hid (W.heap[w.heap.size+1]? =some (.cells #[.slice none 0 0,.slice none 0 0,.slice none 0 0,.slice none 0 0] 78 (0,0))):=by show _=_;rw[←ah];subst hW;exact bD w0 _
 have FQ:Hid (w.heap.size+1<W.heap.size):=by show _<_;subst hW;exact ZH
 have jP:=aA ah;clear ah;have HW:=aA hW;clear hW;have HQ:Hid (Ka d xs=(Mi d&&okB xs)):=rfl;obtain k:=_;exact k):p:=h
theorem zw(h:p:=by refine' zk;refine' YF;obtain k:=_;exact k):p:=h
theorem ZE5(h:p:=by
 rw[iQ]at b1 b2;rw[iQ]at b2;have B0:=aA b0;have B1:=aA b1;have B2:=aA b2;have L3:=aA l3;clear b0 b1 b2 l3
 gi_wp2_with (refine' YH;gi_at_call 134;refine(callsIn_wide.2 (HS _)).mono ?_;rintro e w6 ⟨rfl,ay,mS,yU⟩)
 obtain k:=_;exact k):p:=h
theorem ZDT(h:p:=by ·refine' YD;exact ZL7):p:=h
theorem ZIr(h:p:=by
 unfold maxLen at oa;have aq:=lw.size;have IJ:aI.wrap ((i:Int)+1)=(i:Int)+1:=bI _ ZA;have AJ:(i:Int)≤(x.size:Int):=ZA
 have jO:(i:Int)+1≤(x.size:Int):=ZA
 have RN:((i:Int)+1).toNat=i+1:=ZA
 have uk:(0:Int)≤(i:Int):=ZA
 have BA:(0:Int)≤(i:Int)+1:=ZA
 have pJ:¬((i:Int)<0):=ZA
 obtain k:=_;exact k):p:=h
theorem ZAr(h:p:=by injection hA with hA;injection hA with jv jN;subst jv jN;obtain k:=_;exact k):p:=h
theorem ZBy(h:p:=by refine' ZAh;subst hn;refine' ZA7;obtain k:=_;exact k):p:=h
theorem ZDC(h:p:=by obtain⟨wl,cz⟩:∃wl:World,wl=w3.alloc (aC #[.int .i64 x.id,.string x.code] 119):=⟨_,rfl⟩;have y0:=Af cz 0 (.int .i64 x.id) rfl;have y1:=Af cz 1 (.string x.code) rfl;obtain k:=_;exact k):p:=h
theorem zO(h:p:=by
 have ei:(0:Int)≤(k:Int):=ZA
 obtain k:=_;exact k):p:=h
theorem ZSw(h:p:=by
 go_enter Tryz.func97,Tryz.ntmps97
 refine' ZBU;refine lH.out.mono ?_;refine' ZT;have bt:=(b1.block _ ri).trans mz;have na:=(b1.block _ rj).trans rg;have l1:=lB.trans (b1.mono lB.size);obtain⟨x0,x1,x2,_,_,_⟩:=B7 bt;obtain⟨r0,r1,r2,f0,f1,f2⟩:=B7 na;obtain k:=_;exact k):p:=h
theorem ZGq(h:p:=by
 obtain⟨N,hN⟩:=aQ (show 0≤p.bins by omega);have xE:p.bins.toNat=N:=ZA
 have rE:=aA xE;clear xE;have EY:N≤16:=ZA
 refine' ZBi;have ez:=Ed (P:=aB) 82 27 i0 _ eQ hi lQ N zf ZA;rw[←hN]at ez;have HN:=aA hN;clear hN;refine' zv;obtain k:=_;exact k):p:=h
theorem ZAu(h:p:=by obtain⟨A,n,cp,rfl,hn,hc,hm,hr⟩:=hv;obtain k:=_;exact k):p:=h
theorem ZA2(h:p:=by refine Bi.cons rfl (fun K hK=>?_) Bi.nil;obtain k:=_;exact k):p:=h
theorem ZUz(h:p:=by refine' ZAx;have bp:=aA ai;clear ae ai;obtain k:=_;exact k):p:=h
theorem ZJu(h:p:=by
 have bv:=(hf.blk g rfl).2;have bd:c≤maxLen∧2≤c:=ZKF
 refine' ZKG;obtain k:=_;exact k):p:=h
theorem ZTS(h:p:=by
 refine' ZTV;have x2:=Bx hf 2 ZE;have y2:=fun W (h:stS w w.heap.size 36 #[.slice AL s.letters.length cL,.int .i64 s.day.plan.bins,.int .i64 s.day.plan.passes,.slice AO s.day.plan.order.length cO,.slice AF s.day.fwds.length cF,.slice AH s.day.held.length cH,.int .i64 s.day.size,.slice AN s.net.length cN] W)=>(h.lay.cell (p:=⟨g,2,none⟩) bv).trans x2
 clear hS hf x0 x1 x2;obtain k:=_;exact k):p:=h
theorem ZQ(h:p:=by refine' ZC;go_ret2;obtain k:=_;exact k):p:=h
theorem ZCr(h:p:=by
 refine' ZB5;refine' YW;have k1:=ao.below z1;obtain⟨r0,r1,r2,r3,r4,r5,r6,r7,hr⟩:=k1.res;refine' ZCu
 obtain k:=_;exact k):p:=h
theorem ZPi(h:p:=by
 refine' YP;go_wp2_with (at_builtin;refine Cu (α:=ByteArray) rfl (.tmp 59) (.tmp 60) 28 rfl w.heap.size 9 i0 _ 16 aW hi ah aw aq rfl ZF (.slice A3 zs.length c3) zs rfl (pP.out.below (Ba (aF w6.heap.size w6) nq)) (.slice A6 ys.length c6) ys rfl (w6.drewN nq).heap.size (xu.out.on (Ba (aF w6.heap.size w6) nq)) ZN ZA tr ?_;intro v7 w7 kz dm _)
 have l7:Below w.heap.size w w7:=(Ba l6 nq).grown dm tr fun q hq=>((pP.out.below (Ba (aF w6.heap.size w6) nq)).blk q hq).1
 exact ZUx):p:=h
theorem ZL9(h:p:=by
 refine' ZT;have l1:=Aa lW b1;replace E2:=aA (E3 E2.out b1);refine' ZKM;have bg:w.heap.size≤w.heap.size+1:=fG _;cases h1:Mi d
 ·have HF:Hid (Ka d xs=false):=zu
  clear h1
  refine' ZKN;exact Vw HF.out (Ai (Ai (Ai (Ai (Aa HT.out l1) (p:=⟨w.heap.size+1,0,none⟩) bg _) (p:=⟨w.heap.size+1,1,none⟩) bg _) (p:=⟨w.heap.size+1,2,none⟩) bg _) (p:=⟨w.heap.size+1,3,none⟩) bg _)
 refine' zP;obtain k:=_;exact k):p:=h
theorem ZED(h:p:=by refine' ZUM;rw[←de.out];obtain k:=_;exact k):p:=h
theorem ZU0(h:p:=by
 have jd:some G≠(Value.slice Au zs.length cu).ownBlock:=ZU1
 have gu:=aA jd;clear jd;obtain k:=_;exact k):p:=h
theorem ZNf(h:p:=by
 refine' ZKR;have gp:Fe (s.data.toList.take (k+1))=10*Fe (s.data.toList.take k)+(s[k].toNat - 48):=ZU2
 have hn:=Jc k (s.data.toList.take k) (F3 HD.out k) zF;have hp:10^k≤10^16:=eM ZF ZA;obtain⟨n,jk⟩:∃n,Fe (s.data.toList.take k)=n:=⟨_,rfl⟩;rw[jk]at gp hn⊢;have sv:n≤10000000000000000:=ZA
 clear jk hn hp;refine' ZHb
 obtain k:=_;exact k):p:=h
theorem ZFX(h:p:=by have oG:w1.cell? ⟨b,o+k*2,none⟩=some (.int .i64 x.id):=(au.cell (p:=⟨b,o+k*2,none⟩) hb).trans c1;obtain k:=_;exact k):p:=h
theorem ZNr(h:p:=by
 refine' ZKR;have gp:Ni (s.data.toList.take (k+1))=Ni (s.data.toList.take k)++G6 (s[k].toNat - 48):=by rw[aH d7,Yo];rfl
 have yj:=M9 k (s.data.toList.take k) (F3 HD.out k) zF;generalize Ni (s.data.toList.take k)=u at *;obtain⟨b,nx⟩:∃b,s[k]=b:=⟨_,rfl⟩;rw[nx]at hb gp;obtain⟨d,hd⟩:∃d,d=b.toNat - 48:=⟨_,rfl⟩;rw[←hd]at gp;obtain⟨bt,dj⟩:=hb;have tf:d<10:=ZA
 have HS:=aA gp;clear gp;have bc:(k:Int)<7:=ZA
 have kO:=Ot d tf;have yk:u.size≤36:=ZA
 obtain k:=_;exact k):p:=h
theorem zc(h:p:=by rw[eE];omega):p:=h
theorem ZHA(h:p:=by
 refine' ZL4;have l5:Below w.heap.size w w5:=(Ae l4 (aC #[bC aI x.id,aK x.code] 119)).grown ap ZH fun q hq=>(iw.out.blk q hq).1
 exact ZHB):p:=h
theorem ZEo(h:p:=by have HJ:=aA (Ro (sep:=spT) HO.out cg.out.symm ZCQ ZA);refine' ZHV;exact⟨rfl,l3⟩):p:=h
theorem ZU3(h:p:=by
 go_enter Tryz.func16,Tryz.ntmps16
 refine' ZC;refine HK.out.mono ?_;refine' ZT;refine' ZC;obtain k:=_;exact k):p:=h
theorem ZLv(h:p:=by
 refine' zv;have hz:(w.alloc (aC #[] 119)).heap.size=w.heap.size+1:=ZE
 have oA:=(own.made0 (α:=Ltr) w 119 (aD w.heap.size)).alloc (aC #[] 119);have oB:=own.made0 (α:=Ltr) (w.alloc (aC #[] 119)) 119 (base:=w.heap.size) ZE;rw[hz]at oB;have lz:Below w.heap.size w ((w.alloc (aC #[] 119)).alloc (aC #[] 119)):=Ae (Ae (aF _ _) _) _;refine' ZU4;have OA:=aA oA;have OB:=aA oB;clear oA oB hz;obtain k:=_;exact k):p:=h
theorem ZI4(h:p:=by
 go_enter Tryz.func236,Tryz.ntmps236
 refine' ZC;rw[←HW.out]
 first
  |(refine' ZJO;exact⟨rfl,HT.out⟩)
  |(refine Ax rfl rfl (Bp fi.out) fA rfl Tryz.sizePlc rfl ?_;exact⟨rfl,Ai (Ai (Ai HT.out (aD _) _) (aD _) _) (aD _) _⟩)):p:=h
theorem ZUD(h:p:=by
 generalize pbL r=xs at *;refine' ZFw;refine' ZBc;go_wp2_with (go_at_call 41;refine' ZBq;refine' ZCt;have k1:=k0.below z1;refine' ZUr;refine' ZKH)
 exact ZJl):p:=h
theorem ZUI(h:p:=by refine' ZAy;clear hS;have ca:(wd.toList==[108,101,116,116,101,114,115])=false:=h4 Cf ZE;have db:(wd.toList==[112,108,97,110])=false:=h4 Df ZE;have d8:(wd.toList==[102,111,114,119,97,114,100,115])=false:=h4 Bg ZE;have fd:(wd.toList==[110,101,116])=false:=h4 Es ZE;clear h4 hz;obtain k:=_;exact k):p:=h
theorem ZMT(h:p:=by have fq:Below wq.heap.size wq (wq.alloc (aC #[bC aI x.id,aK x.code] 119)).drew:=Ag (Ae (aF _ _) _);obtain⟨p1,_,_⟩:=Eh (o:=.slice none 0 0) (rest:=[]) jy.out (own.nil_ _ _ _) ⟨.inl rfl,fun k hk=>.inl rfl⟩ fq ey ir mV.out sj.out bz ap cn;have p4:=Ex (G:=G) (d:=d) (g:=g) (m:=qs.length+1) (cap:=cap) (Ag (Ae lq (aC #[bC aI x.id,aK x.code] 119))) ap (fun j hj=>(jc.out.blk j hj).1) mt;exact ZMb):p:=h
theorem zN(h:p:=by
 rintro e w' ⟨rfl,rfl⟩
 obtain k:=_;exact k):p:=h
theorem ZMM(h:p:=by
 have tT:Below wq.heap.size wq (wq.alloc (aC #[bC aI x.id,aK x.code] 119)):=Ae (aF _ _) _;have sR:=aA (jy.out.below tT);have eo:∀j u,[(.slice (some ⟨wq.heap.size,0,none⟩) 1 1:Value)][j]? =some u→((wq.alloc (aC #[bC aI x.id,aK x.code] 119)).alloc (aC #[.slice (some ⟨wq.heap.size,0,none⟩) 1 1] 27)).cell? ((⟨wq.heap.size+1,0,none⟩:Addr).add j)=some u:=by rw[←mU];exact Bz (wq.alloc (aC #[bC aI x.id,aK x.code] 119)) _ [.slice (some ⟨wq.heap.size,0,none⟩) 1 1]
 clear mU tT
 obtain k:=_;exact k):p:=h
theorem ZCR(h:p:=by simp[IntKind.wrap,IntKind.bits,IntKind.signed];omega):p:=h
theorem ZAA(h:p:=by
 show Bu _ _ _ _ _ _ _ _ (Act.put _ (some 58) _) _
 refine' ZU
 obtain k:=_;exact k):p:=h
theorem ZUJ(h:p:=by
 go_wp2_with (first|refine' ZJ3|(refine' ZJ4;obtain⟨r0,r1,r2,r3,r4,r5,r6,r7,hr⟩:=k1.res;refine' ZCu))
 have HF:=aA (duo.set8 k1);refine' ZJk;have h:=Bs.fin (a:=Hg) (x0:=.slice AL s.letters.length cL) (x1:=.int .i64 s.day.plan.bins) (x2:=.int .i64 s.day.plan.passes) (x3:=.slice AO s.day.plan.order.length cO) (x4:=.slice AF s.day.fwds.length cF) (x5:=.slice AH s.day.held.length cH) (x6:=.int .i64 s.day.size) (x7:=.slice AN s.net.length cN) (HS.out.cut k1.lay) k1.lay;rw[de.out]at h;exact h):p:=h
theorem YY(h:p:=by simp only[bG];obtain k:=_;exact k):p:=h
theorem ZDQ(h:p:=by refine' zV;exact⟨_,_,Bf ZX,by rw[(bw.out HF.out).1];exact ze,by rw[(bw.out HF.out).2];exact ze,.inl rfl,l1⟩):p:=h
theorem ZPM(h:p:=by
 have mM:∀j u,lX.flatten[j]? =some u→w.cell? (ad.add j)=some u:=fun j u hu=>by
  have tI:j<lX.flatten.length:=(List.getElem?_eq_some_iff.1 hu).1;rw[J8 mP,qq]at tI;have hk:j/El.size α<ys.length:=Nat.div_lt_of_lt_mul (by rw[Nat.mul_comm];exact tI);have tB:j%El.size α<El.size α:=Nat.mod_lt _ ct;have hj:j=j/El.size α*El.size α+j%El.size α:=by rw[Nat.mul_comm];exact(Nat.div_add_mod j _).symm
  obtain⟨b,o,hA,_,f8⟩:=kN (j/El.size α) ZA hk;injection hA with hA;subst hA;rw[Ii,hj];refine f8 _ u ?_;rw[hj]at hu;rw[←hu,Ql mP ZA tB]
 obtain k:=_;exact k):p:=h
theorem ZL0(h:p:=by
 refine' ZC;go_loopw[9,10] (fun g i wr=>∃j:Nat,j≤hs.length∧i=.int .i64 j∧g=.bool false∧wr=w2) (fun _ i _=>hs.length - (intOf i).toNat)
 case atStart=>exact⟨0,aM _,rfl,ZL1,rfl⟩
 case round=>
  obtain⟨j,hj,rfl,rfl,rfl⟩:=hrel;by_cases ab:j<hs.length
  ·have ko:(j:Int)<(hs.length:Int):=ZA
   refine' ZC;go_roundw
   case rel=>exact⟨j+1,ZA,ZJ,by first|rfl|trivial,by first|rfl|trivial⟩
   case measure=>exact ZK
  ·have ko:¬((j:Int)<(hs.length:Int)):=ZA
   exact ZL3):p:=h
theorem ZMt(h:p:=by
 refine' ZPn
 ·refine' ZPo;go_round
  case rel=>
   refine' ZHk
   ·refine' ZAE;rw[hG.out,H1.out,H2.out,←hS.out,aj.out,H3.out];rfl
  case measure=>exact ZK):p:=h
theorem ZNp(h:p:=by
 go_enter Tryz.func236,Tryz.ntmps236
 refine' ZC;rw[←HW.out]
 go_region_held3 (fun _=>True) (first|trivial|fail) (first|(go_at_call 292;refine' ZHd;have bt:=E3 (w:=w0.drew) fi.out b1;obtain⟨c0,c1,c2,f0,f1,f2⟩:=B7 bt;have ik:=aA bt;clear bt)|fail)
 all_goals
  clear c0 c1 c2 f0 f1 f2;have K1:=aA (Aa (Ag HT.out) b1);clear b1
  refine' ZC;refine Ax rfl rfl (Bp ik.out) fA rfl Tryz.sizePlc rfl ?_;exact⟨rfl,Ai (Ai (Ai K1.out (aD _) _) (aD _) _) (aD _) _⟩):p:=h
theorem ZBO(h:p:=by
 refine' ZC;refine jz.out.mono ?_;rintro e w1 ⟨rfl,h1⟩
 refine' ZI;exact⟨rfl,h1⟩):p:=h
theorem ZNT(h:p:=by
 have jS:((rs.length:Int)==0)=false:=beq_eq_false_iff_ne.2 ZA;have pO:0<rs.length:=ZA
 clear ag h0;have ez:=Ed (P:=aB) 28 9 i0 _ aW hi ah rs.length zf ZA
 refine' ZC;have kF:Ck 9 (w1.alloc (aC (madeCells #[.string ⟨#[]⟩] rs.length) 9)) w1.heap.size rs.length 0 (rs.map Ek):=Ck.made w1 _ _ _ ZAK _;have bg:Below w1.heap.size w1 (w1.alloc (aC (madeCells #[.string ⟨#[]⟩] rs.length) 9)):=(aF _ _).alloc (aD _) _;generalize w1.alloc (aC (madeCells #[.string ⟨#[]⟩] rs.length) 9)=w0 at *;clear ez;have cg:Hid ((rs.map Ek).length=rs.length):=ZBD
 go_loopw[17] (fun i wr=>∃k:Nat,k≤rs.length∧i=.int .i64 k∧Below w1.heap.size w1 wr∧Ck 9 wr w1.heap.size rs.length k (rs.map Ek)) (fun i _=>rs.length - (intOf i).toNat)
 case atStart=>exact ZBE
 obtain k:=_;exact k):p:=h
theorem ZBU(h:p:=by
 refine' ZC;rw[←ar.out,←bp.out]
 obtain k:=_;exact k):p:=h
theorem ZGk(h:p:=by subst e0;refine' ZKQ;have jP:=aA ah;clear ah;refine' zX;obtain k:=_;exact k):p:=h
theorem zj(h:p:=by obtain⟨w3,rfl⟩:∃w3:World,w3=wr:=⟨_,rfl⟩;obtain k:=_;exact k):p:=h
theorem ZKO(h:p:=by obtain⟨AA,mA,cA,rfl,qH,_,_,_⟩:=hA.rd;subst qH;obtain⟨AB,mB,cB,rfl,tk,_,_,_⟩:=hB.rd;subst tk;have HA:=aA hA;have HB:=aA hB;clear hA hB;have yv:=cy.out;have qF:=gi.out;obtain k:=_;exact k):p:=h
theorem ZIf(h:p:=by refine' ZQm;have pK:=R8 pG.out hp (aD _);refine' ZQn;obtain⟨ps,d9⟩:∃ps,Aj 32 t=ps:=⟨_,rfl⟩;rw[d9]at hn ic hp HR;obtain k:=_;exact k):p:=h
theorem ZSN(h:p:=by
 have d7:k<d.data.toList.length:=by simpa using ab
 have ku:=Kf d k ab;have am:=aA (Va d k ab);rw[lg,fC]at ku;have gp:Fe (d.data.toList.take (k+1))=10*Fe (d.data.toList.take k)+(d[k].toNat - 48):=ZU2
 have hn:=Jc k (d.data.toList.take k) lg zF;have hp:10^k≤10^16:=eM ZF ZA;obtain⟨n,jk⟩:∃n,Fe (d.data.toList.take k)=n:=⟨_,rfl⟩;rw[jk]at gp hn⊢;have sv:n≤10000000000000000:=ZA
 clear jk hn hp lg;obtain⟨b,nx⟩:∃b,d[k]=b:=⟨_,rfl⟩;rw[nx]at ku gp am;have HS:=aA gp;clear gp;have va:=aA ku;clear ku;have bc:(k:Int)<(d.size:Int):=ZA
 obtain k:=_;exact k):p:=h
theorem ZNU(h:p:=by
 have fe:=aA (fun(W:World) (hF:Ck 9 W w1.heap.size rs.length k (rs.map Ek))=>hF.step zY ZAs (ecs:=[.string (Ek rs[k])]) ZEn);clear lN;generalize rs[k]=x at *;obtain⟨p,q⟩:=x;have ct:=yt.out;simp only at ct y1 y2;obtain⟨s1,_,s2⟩:=ct;have jY:Hid (Ek ⟨p,q⟩=p++⟨#[62]⟩++q):=rfl;refine' ZFe;refine' zO;have iu:=au.size;refine' ZEq;have vn:¬9223372036854775807<p.size+1+q.size:=ZA
 have vp:¬9223372036854775807<p.size+1:=ZA
 obtain k:=_;exact k):p:=h
theorem ZNa(h:p:=by have sA:=Jd a 3;have sB:=Jd b 2;have sC:=Jd c 2;have HV:Hid (Hf ⟨(a:Int),(b:Int),(c:Int)⟩=Iy a 3++Iy b 2++Iy c 2):=rfl;obtain⟨sa,DH⟩:∃s,Iy a 3=s:=⟨_,rfl⟩;obtain⟨sb,yI⟩:∃s,Iy b 2=s:=⟨_,rfl⟩;obtain⟨sc,EV⟩:∃s,Iy c 2=s:=⟨_,rfl⟩;rw[DH]at HA sA HV;rw[yI]at HB sB HV;rw[EV]at HC sC HV;rw[HV.out];have sA:=eJ sA;have sB:=eJ sB;have sC:=eJ sC;clear DH yI EV;obtain⟨w0,ac⟩:∃u,u=w.alloc (aC #[.int .i64 (a:Int),.int .i64 (b:Int),.int .i64 (c:Int)] 147):=⟨_,rfl⟩;have q0:=Af ac 0 (.int .i64 (a:Int)) rfl;have q1:=Af ac 1 (.int .i64 (b:Int)) rfl;have q2:=Af ac 2 (.int .i64 (c:Int)) rfl;refine' ZBn;obtain k:=_;exact k):p:=h
theorem ZTt(h:p:=by refine' zJ;show Calls aB _ #[.agg #[.slice AL s.letters.length cL,.int .i64 s.day.plan.bins,.int .i64 s.day.plan.passes,.slice AO s.day.plan.order.length cO,.slice AF s.day.fwds.length cF,.slice AH s.day.held.length cH,.int .i64 s.day.size,.slice AN s.net.length cN],.string Cy,.slice (some ⟨g,0,none⟩) 1 c] w _;refine' ZEF;refine' ZAS;obtain k:=_;exact k):p:=h
theorem YM(h:p:=by
 show Bu _ _ _ _ _ _ _ _ (Act.put _ (some 61) _) _
 refine' ZU
 obtain k:=_;exact k):p:=h
theorem ZMJ(h:p:=by
 refine' ZC4;have lm:=aA (Ul (s:=s) ab);obtain⟨f1,f2,f3⟩:=PO.out k hk;have pY:Hid (∀k',k=k'+1→∃y:ByteArray,y.size≤maxLen∧∀W,Below w.heap.size w W→W.cell? ⟨b,o+k'*2+1,none⟩=some (.string y)):=fun k' fu=>by obtain⟨b',o',pZ,_,⟨_,PP⟩,_,e2⟩:=HR.out.ltrU k' ZA;injection pZ with pZ;injection pZ with jv jN;subst jv jN;exact⟨_,PP,e2⟩
 refine' zp;obtain⟨L,hL⟩:∃L,Gr s (xs.take k)=L:=⟨_,rfl⟩;rw[hL]at hB lm f1 f2 f3;clear hL;have kM:Hid (∀d (h:d<L.length),L[d].length≤60):=fun d h=>aG (Nn h) ZA
 obtain k:=_;exact k):p:=h
theorem ZM0(h:p:=by
 refine' ZDX;have HD:=aA im;obtain⟨hp,ho,hf,hh,_⟩:=AbR im;have HP:=aA hp;refine' zZ;have HF:=aA hf;have HH:=aA hh;refine' ZMz;unfold maxLen at e4;have HQ:Hid (Nh d s=if Mi d&&Ap s then
  (if(Bc d.fwds s).2.2=true then
    if 0≤rkI d.held (Bc d.fwds s).1 then((Bc d.fwds s).1,Lv 2)
    else if 0≤rkI d.plan.order (Bc d.fwds s).1 then((Bc d.fwds s).1,Lv 3)
    else((Bc d.fwds s).1,Lv 4)
  else(s,Lv 1))else(⟨#[]⟩,⟨#[]⟩)):=rfl
 obtain k:=_;exact k):p:=h
theorem ZIA(h:p:=by refine' zC;obtain⟨vL,vO,_,_,_,⟨c0,c1,c2,c3,_,_,_,_⟩,_,hL,hO,_⟩:=Ca hD;refine' ZJG;refine' ZJD;obtain k:=_;exact k):p:=h
theorem ZEu(h:p:=by
 have mf:(48:Int)≤(b.toNat:Int):=ZA
 have pf:(b.toNat:Int)≤57:=ZA
 refine' ZC;go_round
 case rel=>exact⟨k+1,ZA,ZJ,by rw[HS.out];congr 1;omega⟩
 case measure=>exact ZK):p:=h
theorem ZF2(h:p:=by
 have HK:Hid (Calls aB 51 #[.string ak,.string ⟨#[32]⟩] w fun e w'=>e=.returned (.tuple #[.string wd,.string rest,.bool true])∧Below w.heap.size w w'):=(Er ak 32 w hz).mono fun e w' h=>ZD1
 obtain k:=_;exact k):p:=h
theorem ZU5(h:p:=by refine' ZAX;have l4:=Aa ll b4;have m4:=Aa (aF wl.heap.size wl) b4;have B4:=BL.out.trans (m4.mono BL.out.size);obtain k:=_;exact k):p:=h
theorem ZKJ(h:p:=by rw[←hu]at da ga jW;clear hu;obtain⟨Au,mu,cu,rfl,kn,_,_,_⟩:=da.rd;subst kn;have jc:=aA da;clear da;have lI:=aA ga;clear ga;obtain k:=_;exact k):p:=h
theorem ZPb(h:p:=by
 rintro e w5 ⟨rfl,b5⟩;have l5:=Aa lq b5;have jT:=aA (HO.out.below b5);clear b5 lq
 refine' ZC;rw[EN.out];refine(NX.out d _ _ EM.out ZA (ev.out.on l5)).mono ?_;rw[tp.out];rintro e w6 ⟨v6,rfl,o6,b6⟩;have l6:=Aa l5 b6;have pP:=aA (jT.out.below b6);obtain⟨A6,n6,c6,rfl,EH,_,_,tq⟩:=o6.rd;subst EH;have xu:=aA o6.rd;clear o6 b6 l5;have tr:=l6.size;have nC:zs.length+ys.length≤200000000:=by have h1:=vr.out;have h2:=mK.out;have h3:=DG.out;have h4:k*10^(g+1)≤10*10000000:=cC ZA h3;omega
 obtain k:=_;exact k):p:=h
theorem ZB7(h:p:=by go_at_call 43;(with_reducible refine(dy.out _).mono ?_);obtain k:=_;exact k):p:=h
theorem ZQW(h:p:=by
 go_wp2_with (at_builtin;refine Vk (α:=ByteArray) rfl (.tmp 26) (.tmp 31) _ rfl w.heap.size 9 i0 _ 16 aW hi ah aw aq rfl ZF (.slice A xs.length cp) xs (s.extract fr k) rfl (HO.out.alloc _) ⟨w2.heap.size,0,none⟩ 1 [.string (s.extract fr k)] rfl ⟨BQ,rfl⟩ (Bz w2 _ [.string (s.extract fr k)]) ZN ZA ZH ?_;intro v' w4 fj ep _)
 have kB:Below w.heap.size w2 w4:=((aF _ _).alloc hz _).trans (Ay (HO.out.alloc _) ep ZH);have jq:=aA fj;clear ep fj;obtain k:=_;exact k):p:=h
theorem zI(h:p:=by intro g cap w5 bz ap cn jJ;obtain k:=_;exact k):p:=h
theorem YD(h:p:=by
 have HE:=aA (show k=xs.length by omega)
 obtain k:=_;exact k):p:=h
theorem ZSk(h:p:=by
 go_wp2_with (at_builtin;refine An (α:=ByteArray) rfl (.tmp 29) (.tmp 34) 28 rfl w.heap.size 9 i0 _ 16 aW hi ah aw aq rfl ZF (.slice Av L.length cp) L x rfl (HO.out.alloc _) ⟨w2.heap.size,0,none⟩ 1 [.string x] rfl ⟨se,rfl⟩ (Bz w2 _ [.string x]) ZN ZA ZH ?_;intro g cap w8 ta ii BD ME)
 have l8:Below w.heap.size w w8:=(lr.alloc lr.size (aC #[.string x] 9)).grown ii ZH fun r e=>(HO.out.blk r e).1
 have gy:=aA ta;clear ta ii BD
 obtain k:=_;exact k):p:=h
theorem ZBl(h:p:=by
 go_round
 case rel=>exact⟨k+1,ZA,ZJ,HX.out it.out⟩
 case measure=>exact ZK):p:=h
theorem ZND(h:p:=by
 (with_reducible refine(vI.out _ ld).mono ?_);rintro e w3 ⟨rfl,b3⟩;have l3:=Aa ld b3;have yJ:=q0 w3 l3;have yK:=q1 w3 l3;have jn:=xz.out.below l3;obtain⟨u0,g0⟩:=jn.cell (j:=k) ZCP;have f0:=jn.free k;have EW:=(fun v:Value=>(fZ w3 ⟨w1.heap.size,k,none⟩ ⟨w2.heap.size,0,none⟩ v (fun e=>YJ)).trans yJ);have EX:=(fun v:Value=>(fZ w3 ⟨w1.heap.size,k,none⟩ ⟨w2.heap.size,1,none⟩ v (fun e=>YJ)).trans yK)
 obtain k:=_;exact k):p:=h
theorem ZHc(h:p:=by
 obtain⟨w0,ac⟩:∃u,u=w.alloc (aC #[.int .i64 0,.int .i64 0,.int .i64 0] 147):=⟨_,rfl⟩;refine' ZBn;have fi:Hid (w0.heap[w.heap.size]? =some (.cells #[.int .i64 0,.int .i64 0,.int .i64 0] 147 (0,0))):=ZJQ
 obtain k:=_;exact k):p:=h
theorem zh(h:p:=by obtain⟨i0,hi,ah,aw,aq⟩:=eA Tryz.infoStr;obtain k:=_;exact k):p:=h
theorem ZEA(h:p:=by have RX:=aA (rdN.of_own (R:=cut R w.heap.size (w.heap.size+2)) jX fun k hk=>.inr ZA);have iv:=aA (fun W (h:Below W2.heap.size W2 W)=>HX.out _ W (jX.rd.on h));obtain k:=_;exact k):p:=h
theorem zv(h:p:=by obtain⟨i1,ji,dp,dq,dr⟩:=eA Tryz.infoLtr;obtain k:=_;exact k):p:=h
theorem ZSP(h:p:=by
 refine' ZHa;have w3:aI.wrap ((n:Int)*10)=(n:Int)*10:=bI _ ZA;have w4:aI.wrap ((n:Int)*10+((b.toNat:Int) - 48))=(n:Int)*10+((b.toNat:Int) - 48):=bI _ ZA;have mf:¬(b.toNat:Int)<48:=ZA
 have pf:¬(57:Int)<(b.toNat:Int):=ZA
 refine' ZC;go_round
 case rel=>exact⟨k+1,ZA,ZJ,by rw[va.out];exact ZAg,by rw[HS.out];congr 1;omega⟩
 case measure=>exact ZK):p:=h
theorem ZK5(h:p:=by
 have BM:=aA (AoC f xss);have um:Hid (∀d (h:d<(Fd f xss xss.length).length),(Fd f xss xss.length)[d].length≤60):=fun d h=>aG (AaK f xss xss.length d h) mK.out
 have IY:=aA HY.out.1;have SG:=aA HY.out.2;obtain⟨K,hK⟩:∃K,Fd f xss xss.length=K:=⟨_,rfl⟩;rw[hK]at hB um IY;have mD:Hid (K.length=xss.length):=by show _=_;rw[←hK,G4]
 clear hK;generalize Mh f xss xss.length=ws at *;have hws:ws.length≤60:=aG BM.out mK.out;have un:=aA hB;clear hB jV HO;obtain⟨AW,mW,cW,rfl,SH,_,_,_⟩:=hO.rd;subst SH;have j8:=aA hO;clear hO;clear HR HB
 refine' ZC;obtain k:=_;exact k):p:=h
theorem ZE4(h:p:=by
 have tM:(t.toList==[45])=false:=by rw[eY]at ci;unfold sEq at ci;rw[bR ⟨#[45]⟩]at ci;exact ci
 obtain k:=_;exact k):p:=h
theorem ZAB(h:p:=by
 show Bu _ _ _ _ _ _ _ _ (Act.put _ (some 59) _) _
 refine' ZU
 obtain k:=_;exact k):p:=h
theorem ZJ1(h:p:=by
 refine' ZJg;have db:(Es.toList==[112,108,97,110])=false:=ZD
 have d8:(Es.toList==[102,111,114,119,97,114,100,115])=false:=ZD
 refine' ZJh;obtain k:=_;exact k):p:=h
theorem ZJo(h:p:=by have xq:rdD w w.heap.size (.agg #[.int .i64 s.day.plan.bins,.int .i64 s.day.plan.passes,.slice AO s.day.plan.order.length cO,.slice AF s.day.fwds.length cF,.slice AH s.day.held.length cH,.int .i64 s.day.size]) s.day:=⟨_,_,_,rfl,hi.1,hi.2.1,hi.2.2,hS.o.rd,hS.f.rd,hS.h.rd⟩;obtain k:=_;exact k):p:=h
theorem ZKy(h:p:=by
 clear og;obtain⟨ey,da,ga⟩:∃ey:j<gw.length,own 119 w0.heap.size w4 gw[j] qs∧apart gw[j] (.slice (some ⟨G,0,none⟩) xss.length xss.length):=by obtain⟨z1,z2,z3,z4,z5⟩:=br.out;have h3:=z3 j ZA ir;rw[DW]at h3;exact⟨ZA,h3,z5 j ZA⟩
 have jW:w4.cell? ⟨G,j,none⟩=some gw[j]:=Ff br.out.1 j ey;have r8:w4.frozen? ⟨G,j,none⟩=false:=br.out.1.freeAt j;obtain⟨u,hu⟩:∃u,u=gw[j]:=⟨_,rfl⟩;refine' ZKI;have jK:G<w4.heap.size:=(br.out.1.blk G rfl).2;go_wp2
 obtain k:=_;exact k):p:=h
theorem ZMp(h:p:=by
 by_cases az:r<0
 ·refine' zV;exact⟨Bf (by rw[HS.out,aj.out,aP az]<;>rfl),l2⟩
 ·refine' ZIM;have hq:q<fs.length:=ZA
  obtain⟨b,o,rfl,hb,⟨MX,td⟩,c1,c2⟩:=HR.out.fwdU q hq;have HT:=aA (Ah6 aj.out hq);generalize fs[q]=x at *;unfold maxLen at td;refine' ZC;go_roundw
  case rel=>exact⟨k+1,x.dst,ZA,ZJ,rfl,td,l2,by show _=_;rw[HS.out,aj.out,aL ZA,HT.out]⟩
  case measure=>exact ZK):p:=h
theorem ZE0(h:p:=by
 go_enter Tryz.func135,Tryz.ntmps135
 refine' ZC;refine' ZBq;refine' ZP;obtain k:=_;exact k):p:=h
theorem ZCO(h:p:=by
 clear hz
 refine' ZC;refine(HD.out _).mono ?_;refine' ZAq;refine' ZI;exact⟨B8 tj.out.symm,lr⟩):p:=h
theorem YS(h:p:=by simp only[aN,bB]at h;obtain k:=_;exact k):p:=h
theorem ZPB(h:p:=by have ev:=aA hv;have bg:=aA hb;refine' ZEy;obtain⟨A,n,cp,rfl,hn,hc,hm,_⟩:=hb;refine' ZBk;refine' ZN9;obtain⟨k1,k2⟩:=Qj p xs;have HQ:Hid (F5 p xs=if Jh p xs<0 then -1 else xs.length - Jh p xs):=rfl;obtain k:=_;exact k):p:=h
theorem ZH0(h:p:=by refine' ZQi;have oz:=Bd (Bd o2 ⟨w.heap.size,0,none⟩ (.slice A m cp) (by show w.heap.size<_;omega)) ⟨w.heap.size+1,0,none⟩ (.bool true) ZIo;refine' ZQj;obtain k:=_;exact k):p:=h
theorem ZFr(h:p:=by
 go_at_call 351;(with_reducible refine HR.out.mono ?_);rintro e w1 ⟨rfl,d1,t1,s1⟩;have R1:Aside (Jq s m en d d1):=t1;have S2:Aside (SWK enc k w0 blk av d1 w1):=s1;clear t1 s1
 obtain k:=_;exact k):p:=h
theorem ZBs(h:p:=by refine' ZDj;have z2:Boxed W2 _ _ _:=(hb.block _ je.out.lt).trans je.out;obtain k:=_;exact k):p:=h
theorem zH(h:p:=by rintro e w3 ⟨rfl,b3⟩;obtain k:=_;exact k):p:=h
theorem ZT5(h:p:=by
 have iv:=aA (fun W (h:Below W2.heap.size W2 W)=>s7.out _ W ⟨_,rfl,KN.out.1,KN.out.2,RX.rd.on h⟩);have jh:=(Array.getElem?_eq_some_iff.1 dj).1;have g0:=fun W (h:Below W2.heap.size W2 W)=>(B7 ((h.block _ jh).trans dj)).1
 have g1:=fun W (h:Below W2.heap.size W2 W)=>(B7 ((h.block _ jh).trans dj)).2.1
 have g2:=fun W (h:Below W2.heap.size W2 W)=>(B7 ((h.block _ jh).trans dj)).2.2.1
 clear RX dj k0 ao ka kb k1 kU xm y0 y1;refine' ZBX;obtain k:=_;exact k):p:=h
theorem ZP3(h:p:=by
 obtain⟨u,hu⟩:=aQ (show 0≤q by omega);have rq:u<rs.length:=ZA
 obtain⟨b',o',hA,_,⟨BT,_⟩,d1,d2⟩:=HR.out.fwdU u rq;refine' ZAr;subst hu;have wP:Hid (rs[u].src.size<x.src.size→Ie rs c (k+1)=k):=fun h=>HT.out HP.out (.inr ⟨u,rq,HQ.out,h⟩)
 have DS:=aA (JE.out u rq rfl);clear HT JE HM;generalize rs[u]=y at *;unfold maxLen at BT;refine' ZIX;have ur:decide ((u:Int)<0)=false:=aO ZA;obtain k:=_;exact k):p:=h
theorem ZLs(h:p:=by
 refine' ZC4;have jZ:=aA (AjL (hs:=hs) ab);have iq:=aA (Ag8 (hs:=hs) ab);have jx:=aA (Ak5 (hs:=hs) ab);have gm:=aA (AgB (hs:=hs) ab);have cy:=aA (aG (AkO hs (xs.take k)) (Fv xs k));have gi:=aA (aG (AjR hs (xs.take k)) (Fv xs k));refine' zp;generalize Kq hs (xs.take k)=sa at *;generalize Ng hs (xs.take k)=bs at *;refine' ZKO;refine' YQ
 obtain k:=_;exact k):p:=h
theorem ZUF(h:p:=by refine' ZC1;refine' ZFt;refine' ZFu;refine' ZBc;refine' ZBq;rintro e u1 ⟨vX,rfl,oX,z1,fX⟩;refine' ZCw;obtain⟨AX,nX,cX,rfl,PX,PY,PZ,_⟩:=id oX;obtain⟨U1,ki⟩:∃u,u=u1.alloc (aC #[.int .i64 (Ey r).bins,.int .i64 (Ey r).passes,.slice AX nX cX] 30):=⟨_,rfl⟩;obtain k:=_;exact k):p:=h
theorem ZAn(h:p:=by exact⟨0,aM _,rfl,fun j _ hj=>absurd hj (aX j)⟩):p:=h
theorem ZNV(h:p:=by
 have jn:=hf.below lb;obtain⟨u0,g0⟩:=jn.cell (j:=k) ZCP;have f0:=jn.free k;have te:=aA hf;have lF:=aA au;clear jn hf
 refine' ZC;go_roundw
 case rel=> have:=fe.out _ te.out;refine' ZIH;have kO:=lF.out.trans (I6 [.string (p++⟨#[62]⟩++q)] _ k _ (aD _));exact⟨k+1,ZA,ZJ,kO.alloc kO.size _,this.below ((aF _ _).alloc (aD _) _)⟩
 case measure=>exact ZK):p:=h
theorem ZO2(h:p:=by refine' zC;obtain⟨vL,vO,vF,vN,_,⟨c0,c1,c2,c3,c4,c5,c6,_⟩,_,hL,hO,hF,hH,_,_⟩:=Ca hD;refine' ZJG;obtain⟨AF,nF,cF,rfl, -, -, -, -⟩:=hF.rd;obtain⟨AH,nH,cH,rfl, -, -, -, -⟩:=hH.rd;have ER:rdD w w.heap.size (.agg #[.int .i64 s.day.plan.bins,.int .i64 s.day.plan.passes,.slice AO nO cO,.slice AF nF cF,.slice AH nH cH,.int .i64 s.day.size]) s.day:=⟨_,_,_,rfl,hi.1,hi.2.1,hi.2.2,hO.rd,hF.rd,hH.rd⟩;obtain k:=_;exact k):p:=h
theorem ZPJ(h:p:=by
 subst hn;have EZ:=As8 (n:=ys.length) (p:=fun k (cs:List Value)=>∀h:k<ys.length,∃b o,A=some ⟨b,o,none⟩∧El.el w B ys[k] cs∧∀j u,cs[j]? =some u→w.cell? ⟨b,o+(k*El.size α+j),none⟩=some u) (fun k hk=>by obtain⟨b,o,cs,h1,_,h3,h4⟩:=pB k hk;exact⟨cs,fun _=>⟨b,o,h1,h3,h4⟩⟩)
 obtain⟨lX,qq,kN⟩:=EZ;have mP:∀x∈lX,x.length=El.size α:=fun x hx=>by refine' ZAZ;obtain⟨_,_,_,h,_⟩:=kN k hk ZA;exact El.len h
 obtain k:=_;exact k):p:=h
theorem ZRa(h:p:=by
 refine' ZC4;have jZ:=aA (Aq7 (f:=f) ab);have iq:=aA (Ak6 (f:=f) ab);have jx:=aA (ApN (f:=f) ab);have gm:=aA (AjH (f:=f) ab);have cy:=aA (aG (ApG f (xs.take k)) (Fv xs k));have gi:=aA (aG (An6 f (xs.take k)) (Fv xs k));refine' zp;generalize AaG f (xs.take k)=sa at *;generalize Aa1 f (xs.take k)=bs at *;refine' ZKO;refine' YQ
 obtain k:=_;exact k):p:=h
theorem ZTT(h:p:=by
 have ca:(Cz.toList==[99,111,100,101])=false:=ZD
 have db:(Cz.toList==[98,97,114,115])=false:=ZD
 have d8:(Cz.toList==[114,101,97,100])=false:=ZD
 have fd:(Cz.toList==[99,111,117,110,116])=false:=ZD
 have gq:(Cz.toList==[114,97,110,107])=false:=ZD
 have i8:(Cz.toList==[108,111,97,100,115])=false:=ZD
 have jQ:(Cz.toList==[114,101,115,111,108,118,101])=false:=ZD
 have kJ:(Cz.toList==[102,97,116,101])=false:=ZD
 obtain k:=_;exact k):p:=h
theorem ZTW(h:p:=by
 have ca:(Fl.toList==[99,111,100,101])=false:=ZD
 have db:(Fl.toList==[98,97,114,115])=false:=ZD
 have d8:(Fl.toList==[114,101,97,100])=false:=ZD
 have fd:(Fl.toList==[99,111,117,110,116])=false:=ZD
 have gq:(Fl.toList==[114,97,110,107])=false:=ZD
 have i8:(Fl.toList==[108,111,97,100,115])=false:=ZD
 have jQ:(Fl.toList==[114,101,115,111,108,118,101])=false:=ZD
 have kJ:(Fl.toList==[102,97,116,101])=false:=ZD
 obtain k:=_;exact k):p:=h
theorem ZUN(h:p:=by
 have ca:(B5.toList==[99,111,100,101])=false:=ZD
 have db:(B5.toList==[98,97,114,115])=false:=ZD
 have d8:(B5.toList==[114,101,97,100])=false:=ZD
 have fd:(B5.toList==[99,111,117,110,116])=false:=ZD
 have gq:(B5.toList==[114,97,110,107])=false:=ZD
 have i8:(B5.toList==[108,111,97,100,115])=false:=ZD
 have jQ:(B5.toList==[114,101,115,111,108,118,101])=false:=ZD
 have kJ:(B5.toList==[102,97,116,101])=false:=ZD
 obtain k:=_;exact k):p:=h
theorem ZFA(h:p:=by refine' ZKD;exact⟨(Cr hb).trans r2,.inl HP.out,r0,r1,(hB.trans (hb.mono hB.size)).trans (r3 _ (aD _))⟩):p:=h
theorem ZMV(h:p:=by
 have tT:Below wq.heap.size wq (wq.alloc (aC #[] 119)):=Ae (aF _ _) _;have sR:=aA (jy.out.below tT);have eo:∀j u,[(.slice (some ⟨wq.heap.size,0,none⟩) 0 0:Value)][j]? =some u→((wq.alloc (aC #[] 119)).alloc (aC #[.slice (some ⟨wq.heap.size,0,none⟩) 0 0] 27)).cell? ((⟨wq.heap.size+1,0,none⟩:Addr).add j)=some u:=by rw[←mU];exact Bz (wq.alloc (aC #[] 119)) _ [.slice (some ⟨wq.heap.size,0,none⟩) 0 0]
 clear mU tT
 obtain k:=_;exact k):p:=h
theorem ZAK(h:p:=by rw[size_madeCells];exact(dZ _).symm):p:=h
theorem ZTa(h:p:=by
 refine' ZC;go_region_held3 (fun W=>stS w w.heap.size 36 #[.slice AL s.letters.length cL,.int .i64 s.day.plan.bins,.int .i64 s.day.plan.passes,.slice AO s.day.plan.order.length cO,.slice AF s.day.fwds.length cF,.slice AH s.day.held.length cH,.int .i64 s.day.size,.slice AN s.net.length cN] W) (first|(with_reducible exact rN)|(with_reducible exact k2)|fail) (first|(go_at_call 111;(with_reducible refine(HO.out _ rN).mono ?_);refine' YX;have k2:=rN.below z2)|fail)
 obtain k:=_;exact k):p:=h
theorem ZKb(h:p:=by
 clear d1 d2;by_cases kg:y.id=x.id
 ·refine' ZGe;refine' ZO;exact⟨Al (am.out ZKd).symm,nf.alloc ZA _⟩
 ·refine' ZGf;go_roundw
  case rel=>exact⟨m+1,ZA,ZJ,rM.alloc BW _,ZKe⟩
  case measure=>exact ZK):p:=h
theorem ZQo(h:p:=by
 refine' ZCl;obtain⟨F,hF⟩:∃F,Mx (Gl Jl (ps.take k))=F:=⟨_,rfl⟩;rw[hF]at dw⊢;clear hF i6 l3;cases hq:sEq F t
 ·rw[hq]at dw
  have re:(F.toList==t.toList)=false:=hq;clear hq
  refine' ZQ;exact⟨_,[],G9 dw.out,by rw[HR.out,dw.out];exact isN.none_ (own.made0 _ _ ft.out.size),ft.out.alloc ft.out.size _⟩
 ·rw[hq]at dw
  have re:(F.toList==t.toList)=true:=hq;clear hq
  refine' ZQ;exact⟨_,_,G9 dw.out,ZUp,ft.out⟩):p:=h
theorem ZMf(h:p:=by
 have HF:Hid (Tw d xs=Oj d.size (Dh d xs).round):=zu
 have HE:Hid (Eu d xs=Iq d.size (Dh d xs).round):=by show _=_;unfold Eu;rw[h1];rfl
 clear h1;obtain⟨wb,lx⟩:∃u,u=w1.alloc (aC #[.slice R0 (Dh d xs).round.length r0,.slice R1 (Dh d xs).strange.length r1,.slice R2 (Dh d xs).held.length r2,.slice R3 (Dh d xs).stuck.length r3] 78):=⟨_,rfl⟩;have bx:=(Aw lx).1;have lb:=Aa l1 bx;have bp:=aA lx;clear lx
 refine' ZC;rw[←bp.out];obtain k:=_;exact k):p:=h
theorem ZPE(h:p:=by
 go_wp2
 go_quiet (first|(go_at_call 161;refine Da (C2.out _)))
 go_wp2;have lw:=Cx li nq;have LG:(wi.drewN nq).cell? ⟨gk,m,none⟩=some (.int .i64 (a:Nat)):=zB
 have PM:(wi.drewN nq).cell? ⟨gk,k,none⟩=some (.int .i64 ((t+1:Nat):Int)):=zB
 have f2':(wi.drewN nq).frozen? ⟨gk,k,none⟩=false:=zB
 have UI:=aA (ql.out.below (Ba (aF _ _) nq));generalize wi.drewN nq=wj at *
 go_still_tail 13,ZB
 change wpList _ _ _ _ _ wj.drew;obtain k:=_;exact k):p:=h
theorem ZGV(h:p:=by refine' ZBq;rintro e u1 ⟨vX,rfl,oX,z1⟩;refine' ZCw;refine' ZJm;obtain k:=_;exact k):p:=h
theorem zS(h:p:=by
 have H1:=aA h1;clear h1
 obtain k:=_;exact k):p:=h
theorem YK(h:p:=by
 show Bu _ _ _ _ _ _ _ _ (Act.put _ (some 56) _) _
 refine' ZU
 obtain k:=_;exact k):p:=h
theorem YA(h:p:=by
 have a1:¬9223372036854775807<F.size+1:=ZA
 obtain k:=_;exact k):p:=h
theorem ZLF(h:p:=by
 go_wp2;have ox:own (α:=Value) 27 w.heap.size (w.alloc (aC #[] 27)) (.slice (some ⟨w.heap.size,0,none⟩) 0 0) []:=own.made0 w _ (aD _);have l0:Below w.heap.size w (w.alloc (aC #[] 27)):=(aF _ _).alloc (aD _) _;have sP:Hid (Fi (α:=Ltr) 27 119 w.heap.size (w.alloc (aC #[] 27)) (.slice (some ⟨w.heap.size,0,none⟩) 0 0) [] []):=⟨ox,rfl,fun k h=>absurd h (aX k),fun j k h=>absurd h (aX j),fun k h=>absurd h (aX k)⟩;clear ox;generalize(w.alloc (aC #[] 27))=w0 at *
 obtain k:=_;exact k):p:=h
theorem ZOc(h:p:=by
 refine' ZC;have jj:=I3 (α:=Ltr) w0 27 119 10 w0.heap.size (aD _) ZN;have lz:Below w0.heap.size w0 (w0.alloc (aC (madeCells #[.slice none 0 0] 10) 27)):=Ae II _;generalize(w0.alloc (aC (madeCells #[.slice none 0 0] 10) 27))=wz at *;obtain⟨ov,jj⟩:=jj;obtain⟨G,hG⟩:∃G,w0.heap.size=G:=⟨_,rfl⟩;have yM:=aA hG;have ky:Hid (Fi 27 119 w0.heap.size wz (.slice (some ⟨G,0,none⟩) 10 10) (List.replicate 10 ([]:List Ltr)) ov):=by rw[←hG];exact jj
 rw[hG];clear jj hG ez;obtain k:=_;exact k):p:=h
theorem ZTQ(h:p:=by
 have ca:(Dl.toList==[99,111,100,101])=false:=ZD
 have db:(Dl.toList==[98,97,114,115])=false:=ZD
 have d8:(Dl.toList==[114,101,97,100])=false:=ZD
 have fd:(Dl.toList==[99,111,117,110,116])=false:=ZD
 have gq:(Dl.toList==[114,97,110,107])=false:=ZD
 have i8:(Dl.toList==[108,111,97,100,115])=false:=ZD
 have jQ:(Dl.toList==[114,101,115,111,108,118,101])=false:=ZD
 have cm:(Dl.toList==[102,97,116,101])=true:=ZD
 generalize Dl=wd at *;obtain k:=_;exact k):p:=h
theorem ZTw(h:p:=by refine' zJ;show Calls aB _ #[.agg #[.slice AL s.letters.length cL,.int .i64 s.day.plan.bins,.int .i64 s.day.plan.passes,.slice AO s.day.plan.order.length cO,.slice AF s.day.fwds.length cF,.slice AH s.day.held.length cH,.int .i64 s.day.size,.slice AN s.net.length cN],.string C0,.slice (some ⟨g,0,none⟩) 2 c] w _;refine' ZJu;refine' ZAS;refine' ZCs;have sP:=aA (fun W=>Gh a W z0);have AQ:=aA (fun W=>Gh b W z1);obtain⟨mp,xl⟩:∃mp,Ei s.day.plan (Am a) (Am b)=mp:=⟨_,rfl⟩;obtain k:=_;exact k):p:=h
theorem ZFC(h:p:=by refine' ZKD;exact⟨(Cr hb).trans r2,.inr HL.out,r0,r1,(hB.trans (hb.mono hB.size)).trans (r3 _ (aD _))⟩):p:=h
theorem ZMP(h:p:=by
 obtain⟨ey,da⟩:∃ey:d<vs.length,own 119 w.heap.size wl vs[d] L[d]:=by obtain⟨z1,z2,z3,z4,z5⟩:=br.out;exact⟨ZA,z3 d ZA ir⟩
 obtain⟨G,PU,_⟩:=AoR br.out.1 ZA;subst PU;have jW:wl.cell? ⟨G,d,none⟩=some vs[d]:=Ff br.out.1 d ey;obtain⟨Au,mu,cu,hU,kn,_,_,_⟩:=da.rd;rw[hU,kn]at jW;have mV:=aA hU;clear hU kn da;obtain⟨qn,ot⟩:∃q,L[d].length=q:=⟨_,rfl⟩;rw[ot]at jW;have vu:=aA ot;clear ot;obtain k:=_;exact k):p:=h
theorem ZMN(h:p:=by
 have l5:Below w.heap.size w w5:=(Ae (Ae lq (aC #[bC aI x.id,aK x.code] 119)) (aC #[.slice (some ⟨wq.heap.size,0,none⟩) 1 1] 27)).grown ap ZH fun q hq=>(jy.out.1.blk q hq).1
 have vW:=aA (Fi.snoc (sR.out.below (Ae (aF _ _) (aC #[.slice (some ⟨wq.heap.size,0,none⟩) 1 1] 27))) ((qx.out.base_ sQ).alloc (aC #[.slice (some ⟨wq.heap.size,0,none⟩) 1 1] 27)) p8.out bz ap cn);obtain k:=_;exact k):p:=h
theorem ZGL(h:p:=by have s9:=aA (fun(v:Value) (W:World) (h:rd W W.heap.size v ((Cs s.net st c).1.map (Bw s.net)))=>Fn v ((Cs s.net st c).1.map (Bw s.net)) W h hq ZA);obtain k:=_;exact k):p:=h
theorem ZGQ(h:p:=by have dy:=aA (fun W=>ifB (D4 (⟨#[111,107]⟩:ByteArray) W ZF));have de:Hid (Em (okW)=⟨#[111,107]⟩++⟨#[10]⟩):=Fh (a:=okW) ZF;obtain k:=_;exact k):p:=h
theorem ZRD(h:p:=by have Z3:Aside (d3.size=n):=p3.1.trans Z2.out;have yD:Aside (SWK enc k w0 blk av d3 w3):=S3;have P3:Aside (PermIn 0 n d0 d3):=permIn_trans _ _ _ _ _ P2.out (permIn_mono _ _ _ _ _ _ (aM _) ZA (by rw[Z2.out];omega) p3);obtain k:=_;exact k):p:=h
theorem ZDm(h:p:=by have HR:Hid (Ey t=⟨0,0,[]⟩):=Sm HQ.out;refine' ZUq;obtain k:=_;exact k):p:=h
theorem ZPc(h:p:=by
 unfold sEq at qI
 go_wp2_with (at_builtin;refine Cu (α:=ByteArray) rfl (.tmp 68) (.tmp 69) 28 rfl w.heap.size 9 i0 _ 16 aW hi ah aw aq rfl ZF (.slice A3 zs.length c3) zs rfl pP.out (.slice (some ⟨b',o',none⟩) ys.length c6) ys rfl w6.heap.size xu.out ZN ZA tr ?_;intro v7 w7 kz dm _)
 refine' ZPf;obtain k:=_;exact k):p:=h
theorem ZD3(h:p:=by
 go_enter Tryz.func52,Tryz.ntmps52
 refine' ZBv;refine' ZI;exact Bb.of_read HD.out rfl b1):p:=h
theorem ZTO(h:p:=by
 have ca:(Cc.toList==[99,111,100,101])=false:=ZD
 have db:(Cc.toList==[98,97,114,115])=false:=ZD
 have d8:(Cc.toList==[114,101,97,100])=false:=ZD
 have fd:(Cc.toList==[99,111,117,110,116])=false:=ZD
 have gq:(Cc.toList==[114,97,110,107])=false:=ZD
 have i8:(Cc.toList==[108,111,97,100,115])=false:=ZD
 refine' ZSA;obtain k:=_;exact k):p:=h
theorem YL(h:p:=by
 show Bu _ _ _ _ _ _ _ _ (Act.put _ (some 57) _) _
 refine' ZU
 obtain k:=_;exact k):p:=h
theorem ZBg(h:p:=by refine' ZCE;have HB:=aA (hb.on HT.out);obtain k:=_;exact k):p:=h
theorem ZT9(h:p:=by
 have k2:duo w 36 #[.slice AL s.letters.length cL,.int .i64 s.day.plan.bins,.int .i64 s.day.plan.passes,.slice AO s.day.plan.order.length cO,.slice AX nX cX,.slice AH s.day.held.length cH,.int .i64 s.day.size,.slice AN s.net.length cN] false W2:=by rw[be];exact k1.put 4 _
 obtain k:=_;exact k):p:=h
theorem ZW(h:p:=by rintro e w1 ⟨rfl,rfl⟩;obtain k:=_;exact k):p:=h
theorem ZAQ(h:p:=by
 go_enter Tryz.func48,Tryz.ntmps48
 refine' ZBL;obtain k:=_;exact k):p:=h
theorem ZOG(h:p:=by
 have nT:Calls aB 51 #[.string x,.string ⟨#[62]⟩] W fun e w'=>Below W.heap.size W w'∧e=.returned (.tuple #[.string p,.string q,.bool true]):=HC.mono fun e w' h=>ZHt
 have tm:K7 x=some ⟨p,q⟩:=by unfold K7;rw[ij];rfl
 have qM:=Ki ij;have HP:=aA tm;have bv:=L9 pre cw;obtain⟨A,m,cp,rfl,hm,_,_,_⟩:=ho.rd;clear HC ij tm y0 y1 hv ho;obtain k:=_;exact k):p:=h
theorem ZPa(h:p:=by
 have EL:(dgB k).size=1:=rfl;have mK:=aA (O0 net s (g+1) (dgt p k));have EM:Hid ((dgt p k).size+(g+1)=8):=by show _=_;rw[AhN];omega
 obtain⟨d,hd⟩:∃d,dgt p k=d:=⟨_,rfl⟩;have EN:Hid (p++dgB k=d):=hd;rw[hd]at fe nz mK EM;clear hd;obtain⟨ys,j3⟩:∃ys,Dt net s (g+1) d=ys:=⟨_,rfl⟩;rw[j3]at fe nz mK;have tp:=aA j3;clear j3;rw[HZ.out]at fe;obtain⟨A3,n3,c3,rfl,pz,_,_,_⟩:=ho.rd;subst pz;clear ho
 refine' ZC;obtain k:=_;exact k):p:=h
theorem zM(h:p:=by simpa using hk):p:=h
theorem ZJV(h:p:=by
 have oA:own (α:=ByteArray) 9 w.heap.size wA (.slice (some ⟨w.heap.size,0,none⟩) 0 0) []:=ZJX
 have lA:Below w.heap.size w wA:=ZF9
 obtain k:=_;exact k):p:=h
theorem ZE8(h:p:=by have gc:=aA y0;have gd:=aA y1;have je:=aA hv;have ow:=aA ho;obtain k:=_;exact k):p:=h
theorem zY(h:p:=by rw[cg.out];exact ab):p:=h
theorem ZOT(h:p:=by
 generalize Aj 32 t=ps at *;obtain⟨wA,ae⟩:∃u,u=w.alloc (aC #[.int .i64 0,.int .i64 0,.slice none 0 0] 30):=⟨_,rfl⟩;have GD:Below w.heap.size w wA:=ZF9
 refine' ZGA;have mz:wA.heap[w.heap.size]? =some (.cells #[.int .i64 0,.int .i64 0,.slice none 0 0] 30 (0,0)):=by rw[ae];exact bD w _
 refine' ZAx;clear ae;obtain k:=_;exact k):p:=h
theorem ZQv(h:p:=by
 have h2:=wpOp_putIf vc (hfree j oj vc ko uy qo) (fun cs b=>ru i oi cs b hi) (fun cs b=>ru j oj cs b vc) hQ hy h1;have rx:∀k ok,ops[k]? =some ok→k≠i→(L.setIfInBounds j true).getD k true=false→
  (∀e∈ok.after,Region.binds md e=true→e.on≠i)→oi.apart ops ok=true:=fun k ok hk bc JR k7=>by
  refine hfree k ok hk bc ?_ k7;by_cases di:j=k
  ·subst di;exact uy
  ·rw[getD_set_ne true di]at JR;exact JR
 obtain k:=_;exact k):p:=h
theorem ZOa(h:p:=by
 refine' ZBi;have qj:=Ed (P:=aB) 82 27 i0 _ eQ hi lQ 10 zf ZA;have ez:∀W:World,Sem.run aB (Instr.makeSlice 82 (.int .i64 10) (.int .i64 10)) W=.ok (.slice (some ⟨W.heap.size,0,none⟩) 10 10) (W.alloc (aC (madeCells #[.slice none 0 0] 10) 27)):=fun W=>by have h:=qj W;rw[aw]at h;exact h
 clear qj hr;refine' zv;obtain k:=_;exact k):p:=h
theorem ZEI(h:p:=by
 have mE:=aA hd;clear hd
 go_wp2_with (go_at_call 177;refine(Ip _ _ hs).mono ?_;rw[mE.out];refine' zN)
 go_ret;refine⟨Al ?_,rfl⟩;have:=mE.out;obtain k:=_;exact k):p:=h
theorem ZML(h:p:=by
 go_wp2;rw[←jM.out]
 go_quiet (fail)
 try skip
 refine' ZEg;have mU:(wq.alloc (aC #[bC aI x.id,aK x.code] 119)).heap.size=wq.heap.size+1:=ZE
 have qx:Hid (own (α:=Ltr) 119 wq.heap.size (wq.alloc (aC #[bC aI x.id,aK x.code] 119)) (.slice (some ⟨wq.heap.size,0,none⟩) 1 1) [x]):=own.made1 wq _ (Ltr.cells x) x ⟨⟨fa,ew⟩,rfl⟩ (aD _);obtain k:=_;exact k):p:=h
theorem ZQz(h:p:=by
 have pV:(i:Int)<(j:Int):=ZA
 obtain⟨q1,q2,q3,q4⟩:=V3 (show i≤d.size by omega) (show j≤d.size by omega) kN;obtain⟨h,hh⟩:∃h,(i+j)/2=h:=⟨_,rfl⟩;rw[hh]at q3 q4;have Io:i≤h:=ZA
 have hh2:h<j:=ZA
 clear hh;have eh:((h:Int)).toNat=h:=ZA
 have ph:(0:Int)≤(h:Int):=ZA
 have bh:(h:Int)<(d.size:Int):=ZA
 have wh:aI.wrap ((h:Int))=(h:Int):=ZY
 obtain k:=_;exact k):p:=h
theorem ZSR(h:p:=by
 have hn:=Jc d.data.toList.length d.data.toList lg rfl;have qB:d.data.toList.length=d.size:=ZE
 have h3:10^d.data.toList.length≤10^17:=eM ZF ZA;obtain⟨n,jk⟩:∃n,Fe d.data.toList=n:=⟨_,rfl⟩;rw[jk]at HV hn⊢;have wn:aI.wrap (-(n:Int))= -(n:Int):=bI _ ZA;clear jk lg hn qB h3
 refine' ZQ;exact⟨ZJN,rfl⟩):p:=h
theorem ZPz(h:p:=by
 by_cases h:p.size≤c.size
 ·have h':(p.size:Int)≤(c.size:Int):=ZA
  cases hb:sEq (c.extract 0 p.size) p
  exact ZU6;exact ZU6
 ·have h':¬(p.size:Int)≤(c.size:Int):=ZA
  have HB:=aA (AkB h);go_wp2;go_ret;exact⟨Al HB.out.symm,rfl⟩):p:=h
theorem ZMS(h:p:=by
 have jW:wq.cell? ⟨G,d,none⟩=some vs[d]:=Ff jy.out.1 d ey;have r8:wq.frozen? ⟨G,d,none⟩=false:=jy.out.1.freeAt d;have kI:L[d].length≤60:=kM.out d ir;obtain⟨qs,lZ⟩:∃qs,qs=L[d]:=⟨_,rfl⟩;refine' ZHC;obtain⟨u,hu⟩:∃u,u=vs[d]:=⟨_,rfl⟩;refine' ZKI;have jK:G<wq.heap.size:=(jy.out.1.blk G rfl).2;have mt:w.heap.size≤G:=(jy.out.1.blk G rfl).1;go_wp2
 obtain k:=_;exact k):p:=h
theorem ZUa(h:p:=by
 refine' ZC;refine(Wm _ _ o _ W HU.out (by show o.size+5≤_;omega) MS).mono ?_;rintro e w1 ⟨rfl,u1,b1,_⟩;have rI:=aA u1;have cy:=aA (HL.out.trans b1);have gh:=b1.size;clear u1 b1
 refine' ZC;refine(Xq _ _ _ w1 rI.out ZA).mono ?_;refine' zK;have gi:=aA (cy.out.trans b2);clear b2
 refine' ZI;exact⟨B8 (by rw[←HQ.out,tJ.out];exact(Wj he ZA).symm),gi.out⟩):p:=h
theorem ZR5(h:p:=by
 have NR:Hid (∀W:World,rd (W.alloc (aC #[.int .i64 n1,.int .i64 n2] 170)) (W.alloc (aC #[.int .i64 n1,.int .i64 n2] 170)).heap.size (.slice (some ⟨W.heap.size,0,none⟩) 1 1) [(⟨n1,n2⟩:Mis)]):=fun W=>(own.made1 (α:=Mis) W 170 [.int .i64 n1,.int .i64 n2] ⟨n1,n2⟩ (show Mis.ok ⟨n1,n2⟩∧[bC .i64 n1,bC .i64 n2]=Mis.cells ⟨n1,n2⟩from⟨⟨bt,dj⟩,rfl⟩) (aD _)).rd
 obtain k:=_;exact k):p:=h
theorem ZMW(h:p:=by
 have ln:Below w.heap.size w wn:=(Ae (Ae lq (aC #[] 119)) (aC #[.slice (some ⟨wq.heap.size,0,none⟩) 0 0] 27)).grown GA ZH fun q hq=>(jy.out.1.blk q hq).1
 have vW:=aA (Fi.snoc (sR.out.below (Ae (aF _ _) (aC #[.slice (some ⟨wq.heap.size,0,none⟩) 0 0] 27))) ((qx.out.base_ sQ).alloc (aC #[.slice (some ⟨wq.heap.size,0,none⟩) 0 0] 27)) p8.out KY GA rX);obtain k:=_;exact k):p:=h
theorem ZSG(h:p:=by
 refine' ZJL;have hz:=Hi (aU hk);have bj:sEq ((Aj 10 t).getD k ⟨#[]⟩) ⟨#[]⟩=false:=by
  cases hb:sEq ((Aj 10 t).getD k ⟨#[]⟩) ⟨#[]⟩
  ·rfl
  ·rw[e]at hb
   exact absurd (Lx.1 hb) h0
 have e1:Xw (Aj 10 t) (k+1)=(Qk (Xw (Aj 10 t) k) (Aj 10 t)[k]).1:=by rw[Xw,bj,e];rfl
 rw[e1];unfold AxF;rw[e];obtain k:=_;exact k):p:=h
theorem ZUT(h:p:=by
 (with_reducible refine' ZBM);rintro e u2 h2;obtain⟨yL,yl,yO,yo,yF,yf,yH,yh,yN,yn,rfl,S2,z2⟩:=h2.out;have b2:Below W.heap.size W u2:=(Ag (aF W.heap.size W)).trans z2;have HZ:=aA b2;have kH:=(b2.block bS au).trans kO;obtain⟨⟨e0,e1,e2,e3,e4,e5,e6,e7⟩,hf⟩:=Ac kH;refine' ZUf
 obtain k:=_;exact k):p:=h
theorem ZRW(h:p:=by
 have e:xs.take 0++d'.toList++xs.drop (0+d'.toList.length)=d'.toList:=ZBP
 rw[e,fD]at h2;rw[fD]at h3;rw[e1];refine⟨Al4 h2 os,?_⟩;have h4:=Oh (Vo (cU w (some g)) bq) h3;exact ZOu):p:=h
theorem ZTE(h:p:=by refine' ZKB;obtain⟨wB,ai⟩:∃u,u=wA.alloc (aC #[.slice AL s.letters.length cL,.int .i64 s.day.plan.bins,.int .i64 s.day.plan.passes,.slice AO s.day.plan.order.length cO,.slice AF s.day.fwds.length cF,.slice AH s.day.held.length cH,.int .i64 s.day.size,.slice AN s.net.length cN] 36):=⟨_,rfl⟩;have k0:=duo.made ae ai;refine' ZD8;have K0:=aA k0;have M0:=aA m0;obtain k:=_;exact k):p:=h
theorem ZGG(h:p:=by
 first|((with_reducible refine(HC.out _ ZGH).mono ?_);refine' YW;have k1:=stS.below ZGH z1)|fail
 obtain k:=_;exact k):p:=h
theorem zu(h:p:=by show _=_;rw[HQ.out,h1];rfl):p:=h
theorem ZNn(h:p:=by
 refine' ZKR;have gp:F8 (s.data.toList.take (k+1))=F8 (s.data.toList.take k)+(s[k].toNat - 48):=by rw[aH d7,Qi];rfl
 have hn:=Ow k (s.data.toList.take k) (F3 HD.out k) zF;obtain⟨n,jk⟩:∃n,F8 (s.data.toList.take k)=n:=⟨_,rfl⟩;rw[jk]at gp hn⊢;obtain k:=_;exact k):p:=h
theorem ZDa(h:p:=by (try simp only[cK,aS]);omega):p:=h
theorem ZJj(h:p:=by obtain⟨wB,ai⟩:∃u,u=wA.alloc (aC #[.slice none 0 0,.int .i64 0,.int .i64 0,.slice none 0 0,.slice none 0 0,.slice none 0 0,.int .i64 0,.slice none 0 0] 36):=⟨_,rfl⟩;have k0:=duo.made ae ai;obtain k:=_;exact k):p:=h
theorem zz(h:p:=by refine(iz.out _).mono ?_;refine' ZP;obtain k:=_;exact k):p:=h
theorem ZOL(h:p:=by
 obtain⟨A,c,rfl⟩:=Gx hv;obtain⟨w0,ac⟩:∃u,u=w.alloc (aC #[.int .i64 p.bins,.int .i64 p.passes,.slice A p.order.length c] 30):=⟨_,rfl⟩;have bg:w0.heap[w.heap.size]? =some (.cells #[.int .i64 p.bins,.int .i64 p.passes,.slice A p.order.length c] 30 (0,0)):=ZJQ
 have jS:Below w.heap.size w w0:=ZSe
 obtain k:=_;exact k):p:=h
theorem ZFT(h:p:=by
 rintro e w0 ⟨rfl,bg⟩;clear ev;cases ag:okB xs
 ·refine' ZAN;clear ag
  refine' ZO;exact⟨Bo (by rw[ee.out];rfl),bg⟩
 obtain k:=_;exact k):p:=h
theorem ZMo(h:p:=by
 have d7:(k:Int)≤(fs.length:Int):=ZA
 have HS:Hid (Bc fs c=if Gg fs d<0 then(d,k,true)else Gb fs (fs.length+1 - (k+1)) (Vt fs d) (k+1)):=by show _=_;rw[HG.out,show fs.length+1 - k=(fs.length+1 - (k+1))+1 by omega];rfl
 obtain⟨r,aj⟩:∃r,Hid (Gg fs d=r):=⟨_,rfl⟩;have ce:=AbC (fun x:Fwd=>sEq x.src d) fs;rw[show fiI (fun x:Fwd=>sEq x.src d) fs=r from aj.out]at ce
 refine' ZC;obtain k:=_;exact k):p:=h
theorem ZCB(h:p:=by ·refine' ZO;exact⟨Al (am.out (by rw[hG.out];exact ZH)).symm,au.alloc ct _⟩):p:=h
theorem ZCF(h:p:=by rw[dR];exact⟨j,ZA,rfl⟩):p:=h
theorem ZCS(h:p:=by
 have HT:Hid (Jk p=false):=Rf ZA
 refine' ZI;exact⟨Al HT.out.symm,HB.out⟩):p:=h
theorem ZSZ(h:p:=by refine' ZU7;refine' ZU8;exact⟨⟨0,0,0⟩,by rw[vT.out];rfl,fun h=>absurd (vT.out.symm.trans h) ZE,ZF,Ai (Ai (Ai j7.out (aD _) _) (aD _) _) (aD _) _⟩):p:=h
theorem ZAC(h:p:=by
 show Bu _ _ _ _ _ _ _ _ (Act.put _ (some 62) _) _
 refine' ZU
 obtain k:=_;exact k):p:=h
theorem ZCz(h:p:=by
 refine' ZA2;go_simp;refine hK.out _ _ (fun _=>?_) (fun aa=>?_)
 ·first|exact lS|exact oC|exact l7.alloc fw _
 refine' ZBd;obtain k:=_;exact k):p:=h
theorem zA(h:p:=by have H2:=aA h2;clear h2;obtain k:=_;exact k):p:=h
theorem ZFd(h:p:=by refine' ZAu;have ev:=aA (show rd w w.heap.size (.slice A n cp) net from⟨A,n,cp,rfl,hn,hc,hm,hr⟩);obtain k:=_;exact k):p:=h
theorem YB(h:p:=by
 go_enter Tryz.func11,Tryz.ntmps11
 refine' ZBU;obtain k:=_;exact k):p:=h
theorem ZI6(h:p:=by
 refine' ZJH;have db:(Bg.toList==[112,108,97,110])=false:=ZD
 refine' ZJI;obtain k:=_;exact k):p:=h
theorem YQ(h:p:=by
 have bc:(k:Int)<(xs.length:Int):=ZA
 obtain k:=_;exact k):p:=h
theorem ZAh(h:p:=by obtain⟨A,n,c,rfl,hn,hc,hm,hr⟩:=hv;obtain k:=_;exact k):p:=h
theorem ZCY(h:p:=by rw[List.all_cons,aN]at h;obtain⟨y,hy⟩:=Option.isSome_iff_exists.1 h.1;obtain k:=_;exact k):p:=h
theorem ZNt(h:p:=by
 refine' ZHW;have t7:=Ed (P:=aB) 24 5 i0 _ eG hi ah 8 zf ZA;have ez:∀W:World,Sem.run aB (Instr.makeSlice 24 (.int .i64 8) (.int .i64 8)) W=.ok (.slice (some ⟨W.heap.size,0,none⟩) 8 8) (W.alloc (aC (madeCells #[.int .u8 0] 8) 5)):=fun W=>by have h:=t7 W;rw[aw]at h;exact h
 obtain k:=_;exact k):p:=h
theorem ZR(h:p:=by simp only[if_true];obtain k:=_;exact k):p:=h
theorem ZKg(h:p:=by
 have MB:Below w3.heap.size w3 w3.drew:=Ag (aF _ _);go_wp2
 go_region_held3 (fun W=>Below w0.heap.size w0 W) (first|exact ld|exact Aa ld b4|exact Aa (Aa ld b4) b5) (first|(go_at_call 75;refine(CJ.out _ MB).mono ?_;rintro e w4 ⟨vf,rfl,o4,b4⟩)|(go_at_call 74;refine(CD.out _ (Aa ld b4) _ o4.rd).mono ?_;rintro e w5 ⟨RI,vO5,RJ,rfl,IM,RK,RL,b5⟩))
 have l5:=Aa (Aa ld b4) b5;obtain k:=_;exact k):p:=h
theorem ZEv(h:p:=by
 ·have HE:Hid (s.data.toList.take k=s.data.toList):=bA ZH
  refine' ZI;exact⟨Bo (by rw[HE.out]),rfl⟩):p:=h
theorem ZS(h:p:=by decide+kernel):p:=h
theorem ZMZ(h:p:=by refine Ce (α:=Ltr) ZG (.tmp 60) (.tmp 65) 27 ZG w.heap.size 119 i1 _ 24 aV ji dp dq dr rfl ZF (.slice Au qs.length cu) qs x ZG ((jc.out.alloc _).drew) ⟨wn.heap.size,0,none⟩ 1 (Ltr.cells x) ZG ⟨⟨fa,ew⟩,rfl⟩ (Ft wn _ (Ltr.cells x)) ZN ZA ZH ?_;refine' zI;obtain k:=_;exact k):p:=h
theorem ZTn(h:p:=by refine' zJ;show Calls aB _ #[.agg #[.slice AL s.letters.length cL,.int .i64 s.day.plan.bins,.int .i64 s.day.plan.passes,.slice AO s.day.plan.order.length cO,.slice AF s.day.fwds.length cF,.slice AH s.day.held.length cH,.int .i64 s.day.size,.slice AN s.net.length cN],.string C8,.slice (some ⟨g,0,none⟩) 1 c] w _;refine' ZEF;refine' ZAS;have HI:=aA (fun W=>Gh f W hz);obtain k:=_;exact k):p:=h
theorem ZTu(h:p:=by
 have HX:Hid (∀W,Below w.heap.size w W→Calls aB 31 #[.slice AH s.day.held.length cH] W fun e w'=>e=.returned (.string (Cb s.day.held))∧Below W.heap.size W w'):=fun W hW=>ifB (Fn _ s.day.held W (hS.h.rd.on hW) hq ZA)
 have dy:=aA (fun W=>Fa (Cb s.day.held) W);have de:Hid (Em ⟨#[]⟩=⟨#[110,111,10]⟩):=Jw;refine' ZBa;refine' ZJy;clear hz ho hq hl;obtain k:=_;exact k):p:=h
theorem ZTM(h:p:=by
 have ca:(Ds.toList==[99,111,100,101])=false:=ZD
 have db:(Ds.toList==[98,97,114,115])=false:=ZD
 have d8:(Ds.toList==[114,101,97,100])=false:=ZD
 have fd:(Ds.toList==[99,111,117,110,116])=false:=ZD
 have gq:(Ds.toList==[114,97,110,107])=false:=ZD
 refine' ZSB;obtain k:=_;exact k):p:=h
theorem ZFl(h:p:=by refine' zl;clear iy uh hp pK;have uZ:=aA hop;have et:=aA m7;have jg:=aA cw;have j8:=aA ho;clear cw;obtain k:=_;exact k):p:=h
theorem ZGa(h:p:=by refine' ZC;refine Ax rfl rfl (Bp kh.out) Tryz.underlying30 rfl Tryz.sizePlK rfl ?_;obtain k:=_;exact k):p:=h
theorem ZSb(h:p:=by refine' ZU7;obtain⟨x0,x1,x2,_,_,_⟩:=PK.out _ b3;refine' ZU8;exact⟨p,by rw[vT.out];rfl,ff.out,ee.out,Ai (Ai (Ai j7.out (aD _) _) (aD _) _) (aD _) _⟩):p:=h
theorem ZHy(h:p:=by
 ·refine hB.trans ⟨?_,?_,?_,?_,fun k h1=>oW k ZA ZA⟩
  ·exact ap.os.trans hb.os
  ·exact ap.tape.trans hb.tape
  ·exact ap.output.trans hb.output
  ·exact tN.1):p:=h
theorem ZNR(h:p:=by
 refine' ZC;generalize P++(⟨#[32]⟩:ByteArray)=Q at *;have qC:¬9223372036854775807<Q.size+p.size:=ZA
 have oI:¬9223372036854775807<Q.size+p.size+1:=ZA
 have qD:¬9223372036854775807<Q.size+p.size+1+q.size:=ZA
 go_quiet (fail)
 refine' ZC;go_roundw
 case rel=>exact⟨k+1,ZA,ZJ,lv.out,Ba lr _⟩
 case measure=>exact ZK):p:=h
theorem ZCe(h:p:=by refine' zC;obtain⟨_,_,vF,_,_,⟨_,_,_,_,c4,_,_,_⟩,_,_,_,hF,_⟩:=Ca hD;obtain k:=_;exact k):p:=h
theorem ZOQ(h:p:=by
 obtain⟨c0,c1,c2,_,_,_⟩:=B7 bt;have q0:=fun W (hW:Below w1.heap.size w1 W)=>(hW.cell (p:=⟨w.heap.size,0,none⟩) (Az c0)).trans c0
 have q1:=fun W (hW:Below w1.heap.size w1 W)=>(hW.cell (p:=⟨w.heap.size,1,none⟩) (Az c1)).trans c1
 have q2:=fun W (hW:Below w1.heap.size w1 W)=>(hW.cell (p:=⟨w.heap.size,2,none⟩) (Az c2)).trans c2
 clear bt c0 c1 c2
 refine' ZC;obtain k:=_;exact k):p:=h
theorem ZKM(h:p:=by
 have k0:=Dv E2.out 0 (.slice none 0 0) rfl;have k1:=Dv E2.out 1 (.slice none 0 0) rfl;have k2:=Dv E2.out 2 (.slice none 0 0) rfl;have k3:=Dv E2.out 3 (.slice none 0 0) rfl;have kf:=Nx E2.out
 obtain k:=_;exact k):p:=h
theorem ZSo(h:p:=by
 refine' ZAc;have qW:=(Ch.1 ag).1;have qA:Hid (∀W,Below w.heap.size w W→Calls aB 77 #[.slice A fs.length c] W fun e w'=>e=.returned (.bool true)∧W=w'):=fun W hW=>by
  have:=D2 _ fs W (HV.out.on hW)
  rwa [ag]at this
 have HC:Hid (∀k (h:k<fs.length),fs[k].src.size≤maxLen):=fun k h=>by have:=(Cp ((Ch.1 ag).2 k h).1).1;exact ZN
 obtain k:=_;exact k):p:=h
theorem ZTV(h:p:=by
 refine' ZJw;have x1:=Bx hf 1 ZE;have y1:=fun W (h:stS w w.heap.size 36 #[.slice AL s.letters.length cL,.int .i64 s.day.plan.bins,.int .i64 s.day.plan.passes,.slice AO s.day.plan.order.length cO,.slice AF s.day.fwds.length cF,.slice AH s.day.held.length cH,.int .i64 s.day.size,.slice AN s.net.length cN] W)=>(h.lay.cell (p:=⟨g,1,none⟩) bv).trans x1
 obtain k:=_;exact k):p:=h
theorem ZHv(h:p:=by
 intro v5 w5 o5 ap;have u2:Boxed w5 _ _ _:=(z2.alloc _).kept ap (fun e=>by have:=(o2.blk _ e.symm).1;omega);have e2:=u2.cell;have g2:=u2.frozen;obtain⟨A5,n5,c5,rfl, -, -, -, -⟩:=o5.rd
 obtain k:=_;exact k):p:=h
theorem ZP1(h:p:=by
 obtain⟨b,o,rfl,hb,⟨mc,me⟩,y1,y2⟩:=HR.out.fwdU k ab
 have HM:=aA (fun h=>AeU (c:=c) ab HQ.out h);have HT:=aA (fun h h'=>AfP (c:=c) ab h h');have JE:=aA (fun(u:Nat) (hu:u<rs.length) (e:q=u) (h:¬rs[u].src.size<rs[k].src.size)=>AeX (c:=c) ab hu (HQ.out.trans e) h);generalize JF:rs[k]=x at *;clear JF;have qe:=mc;unfold maxLen at mc;obtain k:=_;exact k):p:=h
theorem ZMC(h:p:=by
 rintro e w4 ⟨vF,vH,rfl,oF,oH,SX,b4⟩;have l4:=Aa l3 b4;replace E2:=aA (E3 E2.out b4);have CC:Hid (w3.heap.size≤w4.heap.size):=aA b4.size;have qp:=aA (Dd oH OK.out (aD _));replace OK:=aA (OK.out.below b4);have OF:=aA oF;have OH:=aA oH;obtain⟨Ah,nh,ch,rfl,SY,_,_,_⟩:=oH.rd;subst SY;clear oF oH b4 OA
 refine' ZC;obtain k:=_;exact k):p:=h
theorem ZHp(h:p:=by
 rw[HO.out,HV.out];refine' ZE0;go_wp2_with (first|(go_at_call 220;refine' ZDd)|(go_at_call 221;refine(th.out _).mono ?_;refine' ZP))
 go_ret2;exact ZV):p:=h
theorem ZU9(h:p:=by
 refine⟨fun h=>absurd hr (by rw[h];simp),fun j hj=>?_⟩;by_cases ko:j=i
 ·subst ko
  exact hy.wpOp hi hS ⟨fun _=>hS,H⟩
 obtain k:=_;exact k):p:=h
theorem ZKC(h:p:=by
 refine Bk (rs:=[12]) ZB ZE ?_;refine' ZA2;go_simp;refine hK.out _ _ (fun h=>absurd rfl h) (fun _=>?_);clear hK K
 refine' ZU;refine J2 ZB ?_ _;obtain k:=_;exact k):p:=h
theorem ZTb(h:p:=by refine' zJ;show Calls aB _ #[.agg #[.slice AL s.letters.length cL,.int .i64 s.day.plan.bins,.int .i64 s.day.plan.passes,.slice AO s.day.plan.order.length cO,.slice AF s.day.fwds.length cF,.slice AH s.day.held.length cH,.int .i64 s.day.size,.slice AN s.net.length cN],.string Bt,.slice (some ⟨g,0,none⟩) 2 c] w _;refine' ZJu;refine' ZAS;obtain k:=_;exact k):p:=h
theorem ZTh(h:p:=by refine' zJ;show Calls aB _ #[.agg #[.slice AL s.letters.length cL,.int .i64 s.day.plan.bins,.int .i64 s.day.plan.passes,.slice AO s.day.plan.order.length cO,.slice AF s.day.fwds.length cF,.slice AH s.day.held.length cH,.int .i64 s.day.size,.slice AN s.net.length cN],.string C4,.slice (some ⟨g,0,none⟩) 1 c] w _;refine' ZEF;refine' ZAS;obtain k:=_;exact k):p:=h
theorem zW(h:p:=by simp at hk;omega):p:=h
theorem ZNE(h:p:=by
 have te:=aA jn;have dz:=aA (Aa lF.out l3);clear jn g0 f0 yJ yK EW EX b3 l3 e0 e1
 refine' ZC;go_roundw
 case rel=> have:=fe.out w3 te.out;refine' ZIH;exact ZNK
 case measure=>exact ZK):p:=h
theorem ZEJ(h:p:=by refine' ZFX;have nU:w1.cell? ⟨b,o+k*2+1,none⟩=some (.string x.code):=(au.cell (p:=⟨b,o+k*2+1,none⟩) hb).trans c2;obtain k:=_;exact k):p:=h
theorem ZHa(h:p:=by
 have w1:IntKind.wrap .u8 ((b.toNat:Int) - 48)=(b.toNat:Int) - 48:=ZCR
 have w2:aI.wrap ((b.toNat:Int) - 48)=(b.toNat:Int) - 48:=bI _ ZA;obtain k:=_;exact k):p:=h
theorem zD(h:p:=by refine' ZC;rw[←dc.out];obtain k:=_;exact k):p:=h
theorem ZDW(h:p:=by refine' ZAu;have ev:=aA (show rd w w.heap.size (.slice A n cp) fs from⟨A,n,cp,rfl,hn,hc,hm,hr⟩);obtain k:=_;exact k):p:=h
theorem ZBm(h:p:=by obtain⟨k,hk,rfl,au,hf⟩:=hrel;refine' zl;clear kF bg;have gh:=l1.size;obtain k:=_;exact k):p:=h
theorem ZEq(h:p:=by
 have bj:w1.heap.size<w2.heap.size:=by obtain⟨cs,h1,_⟩:=hf;exact(Array.getElem?_eq_some_iff.1 h1).1
 obtain k:=_;exact k):p:=h
theorem ZMX(h:p:=by
 have pz:(vs++[Value.slice (some ⟨wq.heap.size,0,none⟩) 0 0]).length=vs.length+1:=ZE
 have PT:vs.length+1≤61:=ZA
 have pO:0<vs.length+1:=Nat.succ_pos _;have qy:=vW;clear vW kM;have kM:=rH;clear rH;generalize L++[[]]=L2 at *;generalize vs++[Value.slice (some ⟨wq.heap.size,0,none⟩) 0 0]=gw at *;generalize vs.length+1=n2 at *;obtain k:=_;exact k):p:=h
theorem ZC4(h:p:=by
 obtain⟨b,o,rfl,hb,⟨fa,ew⟩,c1,c2⟩:=HR.out.ltrU k ab
 obtain k:=_;exact k):p:=h
theorem ZB9(h:p:=by
 refine hK.out _ _ (fun _=>?_) (fun aa=>?_)
 ·exact l7
 refine' ZBd;obtain k:=_;exact k):p:=h
theorem ZV(h:p:=by exact⟨rfl,rfl⟩):p:=h
theorem ZBX(h:p:=by have er:=k2.drew;have l2:=Ag (aF W2.heap.size W2);obtain k:=_;exact k):p:=h
theorem ZOe(h:p:=by
 have nC:(Bm f 10 (xs.take k))[d].length≤1000:=ZUn
 obtain⟨zs,fx⟩:∃zs,zs=(Bm f 10 (xs.take k))[d]:=⟨_,rfl⟩;refine' ZUo;have xF:(d:Int)<10:=ZA
 refine' ZU0;obtain k:=_;exact k):p:=h
theorem ZUi(h:p:=by
 rw[fQ]
 go_wp2_with (go_at_call 314;refine H2.out.mono ?_;rintro e w2 ⟨rfl,d2,p2,s2,S2⟩)
 have Z2:Aside (d2.size=n):=p2.1.trans Z1.out;have vC:Aside (SWK enc k w0 blk av d2 w2):=S2;have P2:Aside (PermIn 0 n d0 d2):=permIn_trans _ _ _ _ _ P1.out (permIn_mono _ _ _ _ _ _ (aM _) ZA (by rw[Z1.out];omega) p2);obtain k:=_;exact k):p:=h
theorem ZIh(h:p:=by refine' ZQp;have y1:=y1 w2 (aF _ _);cases qi;subst pZ;clear uj hop m7;obtain k:=_;exact k):p:=h
theorem zG(h:p:=by simpa using h):p:=h
theorem ZGR(h:p:=by have dy:=aA (fun W=>ifB (Fa (⟨#[111,107]⟩:ByteArray) W));refine' ZGP;obtain k:=_;exact k):p:=h
theorem ZNh(h:p:=by
 obtain⟨h7,_⟩:=Cp hc;have ig:Ea c.data.toList=true:=ZHe
 have hx:∀i j,j≤c.size→Ea (c.extract i j).data.toList=true:=fun i j hj=>by
  refine' ZBr;have e:(c.data.extract i j).toList=(c.data.toList.take j).drop i:=by simp[List.drop_take]
  rw[e];exact Rm (F3 ig j) i
 obtain k:=_;exact k):p:=h
theorem ZLp(h:p:=by
 have lV:=aA ((br.out.below ((aF _ _).alloc (aD _) (aC #[bC aI y.id,aK y.code] 119))).grown ap (Br et.out));have l5:Below w.heap.size w w5:=(Ae l4 (aC #[bC aI y.id,aK y.code] 119)).grown ap ZH fun q hq=>(iw.out.blk q hq).1
 exact ZHB):p:=h
theorem ZBu(h:p:=by have ho:=h.obj;refine' ZIE;obtain k:=_;exact k):p:=h
theorem ZMw(h:p:=by
 refine' ZAp;go_region_held3 (fun W=>Below wo.heap.size wo W) (first|exact ld|exact Aa ld b3) (first|(go_at_call 231;first|((with_reducible refine(C1.out _).mono ?_);refine' zN)|((with_reducible refine(C2.out _).mono ?_);refine' zN))|(go_at_call 228;refine(C3.out _ ld).mono ?_;refine' zH))
 have l3:=Aa lo (Aa ld b3);go_wp2;obtain k:=_;exact k):p:=h
theorem ZBY(h:p:=by
 (with_reducible refine(iv.out _ l2).mono ?_);refine' ZGW
 obtain k:=_;exact k):p:=h
theorem ZGI(h:p:=by
 go_at_call 43;refine(dy.out _).mono ?_;refine' ZP
 obtain k:=_;exact k):p:=h
theorem ZBC(h:p:=by refine' ZI;exact⟨B8 HF.out.symm,l1⟩):p:=h
theorem ZK3(h:p:=by refine' ZUw;have lk:Hid (D7 (.slice (some ⟨g,0,none⟩) (zr.length+1) cap) (.slice (some ⟨G,0,none⟩) xss.length xss.length) gw):=Kj br.out fk.out cn ZE;obtain k:=_;exact k):p:=h
theorem ZPq(h:p:=by
 obtain⟨b',o',rfl,pA,⟨mc,me⟩,d1,d2⟩:=UM.out.fwdU m nE
 have hT:=aA (Hv (p:=I0 net) x.rules m nE);have hI:Hid (I0 net x.rules[m]=false→x.rules.all (I0 net)=false):=fun h=>List.all_eq_false.2 ⟨_,aU nE,by simp[h]⟩
 generalize x.rules[m]=y at *;have uJ:(m:Int)<(x.rules.length:Int):=ZA
 obtain k:=_;exact k):p:=h
theorem ZDV(h:p:=by rw[eH];exact .inr (List.all_eq_false.2 ⟨k,zM,by simp[h]⟩)):p:=h
theorem ZNu(h:p:=by
 go_enter Tryz.func153,Tryz.ntmps153
 refine' ZC;obtain⟨wz,kW⟩:∃u,u=w.alloc (aC (madeCells #[.int .u8 0] 8) 5):=⟨_,rfl⟩;have hg:E8 wz w.heap.size (List.replicate 8 0):=ZNX
 refine' ZHX;have LL:=aA hg;clear kW ez hg
 obtain k:=_;exact k):p:=h
theorem ZSt(h:p:=by
 go_region_held3 (fun W=>Below w.heap.size w W) (first|exact ld|exact l4|exact l3|fail) (first|(go_at_call 86;(with_reducible refine(lF.out _ (by first|exact ld|exact l4)).mono ?_);rintro e w3 ⟨rfl,l3⟩)|(go_at_call 28;(with_reducible refine(rW.out _ (by first|exact l3|exact ld)).mono ?_);rintro e w4 ⟨rfl,l4⟩)|fail)
 obtain k:=_;exact k):p:=h
theorem ZNx(h:p:=by
 obtain⟨b,o,rfl,hb,ag,c1⟩:=HR.out.str k ab
 have HX:Hid (∀h:sEq xs[k] c=false,∀j (h1:j<xs.length),j<k+1→sEq xs[j] c=false):=fun h j h1 hj=>ZA9
 have HY:Hid (∀h:sEq xs[k] c=true,rkI xs c=k):=fun h=>by have e:=Ay4 ab (fun j hj=>HG.out j ZA hj) h;rw[Yx ZA,e]
 refine' zp;obtain k:=_;exact k):p:=h
theorem ZIl(h:p:=by
 go_roundw
 case rel=>exact⟨m+1,ZA,ZA,ZJ,nJ.out,by rw[gu.out];exact jq.out,BB.out,ny.out,lw.trans br.out⟩
 case measure=>exact ZK):p:=h
theorem ZL6(h:p:=by
 have ex:Hid (apart (.slice (some ⟨g,0,none⟩) (bs.length+1) cap) (.slice AA sa.length cA)):=Dg (Br et.out) cn fun j hj=>by have:=(iw.out.blk j hj).2;exact ZH
 go_roundw
 case rel=>exact⟨k+1,ZA,ZJ,l5,by rw[eu.out];exact ny.out,by rw[ff.out];exact bz,Br ex.out⟩
 case measure=>exact ZK):p:=h
theorem ZO3(h:p:=by
 refine' ZDo;have q4:=fun W (hW:Below w.heap.size w W)=>(hW.cell (p:=⟨d,4,none⟩) (Az c4)).trans c4
 have q5:=fun W (hW:Below w.heap.size w W)=>(hW.cell (p:=⟨d,5,none⟩) (Az c5)).trans c5
 have q6:=fun W (hW:Below w.heap.size w W)=>(hW.cell (p:=⟨d,6,none⟩) (Az c6)).trans c6
 refine' ZBN;obtain k:=_;exact k):p:=h
theorem ZPP(h:p:=by
 obtain⟨b,o,rfl,hb,⟨mc,me⟩,y1,y2⟩:=HR.out.fwdU k ab
 have HS:=aA (Nd (p:=Iz p) rs k ab);have HA:=aA (ArF (p:=Iz p) rs k ab);generalize rs[k]=x at *;have uR:Hid (Iz p x=(decide (p.size<x.src.size)&&pre x.src p)):=rfl;have qe:=mc;unfold maxLen at mc;refine' ZFe
 obtain k:=_;exact k):p:=h
theorem ZD2(h:p:=by refine' zC;obtain⟨_,_,_,vN,os,⟨_,_,_,_,_,_,_,c7⟩,_,_,_,_,_,hN,_⟩:=Ca hD;obtain k:=_;exact k):p:=h
theorem ZSF(h:p:=by
 refine' ZF4;rcases hx with rfl|rfl|rfl|rfl|rfl|rfl|rfl|rfl|rfl|rfl|rfl|rfl|rfl
 ·exact Ci e0
 ·exact Ci e1
 ·exact Ci e2
 ·exact Ci e3
 ·exact Ci e4
 ·exact Ci e5
 ·exact Ci e6
 ·exact Ci e7
 ·exact Ci e8
 ·exact Ci e9
 ·exact Ci qY
 ·exact Ci qZ
 ·exact Ci q8):p:=h
theorem ZE9(h:p:=by
 (refine' YH;gi_at_call 135;refine(CallsIn.inRound l (callsIn_wide.2 (HN.out _))).mono ?_;refine' ZP)
 obtain k:=_;exact k):p:=h
theorem ZPl(h:p:=by
 refine' ZDw;have HX:Hid (∀h:sEq fs[k].name c=false,∀j (h1:j<fs.length),j<k+1→sEq fs[j].name c=false):=fun h j h1 hj=>ZA9
 have HY:Hid (∀h:sEq fs[k].name c=true,Gq fs c=k):=fun h=>Sk ab (fun j hj di=>HG.out j hj di) h
 clear hu;refine' YU;obtain k:=_;exact k):p:=h
theorem ZJb(h:p:=by refine Ax rfl rfl (Bp il.out) Tryz.underlying30 rfl Tryz.sizePlK rfl ?_;exact AqZ k7 (Ai (Ai (Ai L1.out (fG _) _) (fG _) _) (fG _) _)):p:=h
theorem ZKx(h:p:=by
 have BK:(r==(j:Int))=true:=by simp[og]
 have kI:qs.length≤60:=YT
 obtain⟨nd,iv⟩:Hid (K.set j (D8 f j (ys.take (m+1)))=(K.set j qs).set j ((K.set j qs)[j]'ir++[x]))∧Hid (Gv f j (ys.take (m+1))=rs):=⟨(BI.out ZGc).1,(BI.out ZGc).2⟩;obtain k:=_;exact k):p:=h
theorem ZUC(h:p:=by refine' zJ;show Calls aB _ #[.agg #[.slice AL s.letters.length cL,.int .i64 s.day.plan.bins,.int .i64 s.day.plan.passes,.slice AO s.day.plan.order.length cO,.slice AF s.day.fwds.length cF,.slice AH s.day.held.length cH,.int .i64 s.day.size,.slice AN s.net.length cN],.string Cf,.string r] w _;refine' ZAS;obtain k:=_;exact k):p:=h
theorem ZAZ(h:p:=by obtain⟨k,hk,rfl⟩:=bO hx;obtain k:=_;exact k):p:=h
theorem ZQJ(h:p:=by
 refine' ZAp;go_region_held3 (fun W=>Below wo.heap.size wo W) (first|exact ld|exact Aa ld b3) (first|(go_at_call 288;refine(C1.out _).mono ?_;refine' zN)|(go_at_call 284;refine(C2.out _).mono ?_;refine' zN)|(go_at_call 337;refine(C3.out _ ld).mono ?_;refine' zH))
 have l3:=Aa lo (Aa ld b3);go_wp2;obtain k:=_;exact k):p:=h
theorem zK(h:p:=by rintro e w2 ⟨rfl,b2⟩;obtain k:=_;exact k):p:=h
theorem ZD6(h:p:=by
 go_simp;refine hK.out _ _ (fun _=>?_) (fun aa=>?_)
 ·first|exact kD|exact mY
 refine' ZBd;obtain k:=_;exact k):p:=h
theorem ZLR(h:p:=by refine' ZCE;subst e0;have HO:=aA (BcL HP.out);refine' zX;clear ac hv;refine' ZAH;obtain⟨r,aj⟩:∃r,Hid (rkI p.order c=r):=⟨_,rfl⟩;obtain⟨q,HQ⟩:∃q,Hid (Ky p.bins k=q):=⟨_,rfl⟩;obtain⟨qa,qb⟩:=Px h1 h2 k hk;rw[HQ.out]at qa qb;obtain⟨ra,rb⟩:=Sc p.order c;rw[aj.out]at ra rb;obtain k:=_;exact k):p:=h
theorem ZTk(h:p:=by refine' zJ;show Calls aB _ #[.agg #[.slice AL s.letters.length cL,.int .i64 s.day.plan.bins,.int .i64 s.day.plan.passes,.slice AO s.day.plan.order.length cO,.slice AF s.day.fwds.length cF,.slice AH s.day.held.length cH,.int .i64 s.day.size,.slice AN s.net.length cN],.string Dk,.slice (some ⟨g,0,none⟩) 1 c] w _;refine' ZEF;obtain k:=_;exact k):p:=h
theorem ZLP(h:p:=by
 have HC:Hid (∀W,Below w0.heap.size w0 W→Calls aB 171 #[.agg #[.int .i64 p.bins,.int .i64 p.passes,.slice A0 p.order.length c0],.string x.code,.int .i64 k] W fun e w'=>e=.returned (.int .i64 r)∧Below W.heap.size W w'):=fun W hW=>by rw[←aj.out,jY.out];exact Sd _ p x.code k W (HP.out.on hW) g1 g2 yy nN
 go_wp2
 obtain k:=_;exact k):p:=h
theorem ZAo(h:p:=by
 have bc:(k:Int)<(fs.length:Int):=ZA
 obtain k:=_;exact k):p:=h
theorem ZTL(h:p:=by
 have ca:(Fj.toList==[99,111,100,101])=false:=ZD
 have db:(Fj.toList==[98,97,114,115])=false:=ZD
 have d8:(Fj.toList==[114,101,97,100])=false:=ZD
 have fd:(Fj.toList==[99,111,117,110,116])=false:=ZD
 have cm:(Fj.toList==[114,97,110,107])=true:=ZD
 generalize Fj=wd at *;obtain k:=_;exact k):p:=h
theorem ZM9(h:p:=by
 refine' zp;obtain⟨id,code⟩:=x;simp only at jO kP jf y1 y2 z1 z2 z4;obtain⟨m,rfl⟩:=aQ (show 0≤id by omega);have DB:m≤9999:=ZA
 have jY:Hid (Ja ⟨(m:Int),code⟩=Cl m++⟨#[58]⟩++code):=by show _=_;unfold Ja;rw[bE]
 refine' YQ;refine' zO;obtain k:=_;exact k):p:=h
theorem ZT7(h:p:=by refine' zJ;show Calls aB _ #[.agg #[.slice AL s.letters.length cL,.int .i64 s.day.plan.bins,.int .i64 s.day.plan.passes,.slice AO s.day.plan.order.length cO,.slice AF s.day.fwds.length cF,.slice AH s.day.held.length cH,.int .i64 s.day.size,.slice AN s.net.length cN],.string Bg,.string r] w _;refine' ZAS;obtain k:=_;exact k):p:=h
theorem ZUB(h:p:=by refine' zJ;show Calls aB _ #[.agg #[.slice AL s.letters.length cL,.int .i64 s.day.plan.bins,.int .i64 s.day.plan.passes,.slice AO s.day.plan.order.length cO,.slice AF s.day.fwds.length cF,.slice AH s.day.held.length cH,.int .i64 s.day.size,.slice AN s.net.length cN],.string Es,.string r] w _;refine' ZAS;obtain k:=_;exact k):p:=h
theorem ZUE(h:p:=by refine' zJ;show Calls aB _ #[.agg #[.slice AL s.letters.length cL,.int .i64 s.day.plan.bins,.int .i64 s.day.plan.passes,.slice AO s.day.plan.order.length cO,.slice AF s.day.fwds.length cF,.slice AH s.day.held.length cH,.int .i64 s.day.size,.slice AN s.net.length cN],.string Df,.string r] w _;refine' ZAS;obtain k:=_;exact k):p:=h
theorem ZNs(h:p:=by
 have rT:k=s.size:=ZA
 have HL:Hid (s.data.toList.take k=s.data.toList):=bA ZH;have bc:¬((k:Int)<7):=ZA
 rw[HL.out];have yj:=M9 7 s.data.toList HD.out ZH;have kO:=Ot q sH;generalize Ni s.data.toList=u at *;have yk:u.size≤36:=ZA
 obtain k:=_;exact k):p:=h
theorem ZUQ(h:p:=by
 have bc:(k:Int)<(ls.length:Int):=ZA
 refine' zO;have y1:=Bx HO.out k ab;have tJ:Hid (ls.drop k=ls[k]::ls.drop (k+1)):=cZ ab;have vP:=aA (fe.out k ab);have yS:=aA (sJ.out k ab);have vQ:=aA (AjE (ans:=ans) ab);have qJ:=aA (Al6 (ans:=ans) ab);obtain k:=_;exact k):p:=h
theorem ZQ9(h:p:=by
 rw[fQ]
 go_wp2_with (go_at_call 314;refine H1.out.mono ?_;rintro e w1 ⟨rfl,d1,p1,s1,S1⟩)
 have Z1:Aside (d1.size=n):=p1.1.trans HN.out;have tu:Aside (SWK enc k w0 blk av d1 w1):=S1;have P1:Aside (PermIn 0 n d0 d1):=permIn_mono _ _ _ _ _ _ (aM _) ZA (by rw[HN.out];omega) p1;obtain k:=_;exact k):p:=h
theorem ZJ5(h:p:=by refine Ax rfl rfl (Cj HR.out) gI rfl Tryz.sizeSt rfl ?_;obtain k:=_;exact k):p:=h
theorem ZOb(h:p:=by
 have kl:=(Ep.1 ag).1;have HF:Hid (∀k (h:k<xs.length),∃hz:dd<xs[k].code.size,48≤(xs[k].code[dd]).toNat∧(xs[k].code[dd]).toNat≤57∧Lk dd xs[k]=(((xs[k].code[dd]).toNat - 48:Nat):Int)):=fun k h=>Ze ((Ep.1 ag).2 k h).2.2.1 ig
 clear ag;obtain⟨f,kA⟩:∃f:Ltr→Int,Hid (f=Lk dd):=⟨_,rfl⟩;obtain k:=_;exact k):p:=h
theorem ZB4(h:p:=by refine' ZQ;exact⟨ZJN,rfl⟩):p:=h
theorem ZTB(h:p:=by
 have hn:w.heap.size≠w.heap.size+1:=ZA
 rw[bP _ _ _ _ hn,bP _ _ _ _ hn,bP _ _ _ _ hn,bP _ _ _ _ hn,bP _ _ _ _ hn,bP _ _ _ _ hn,bP _ _ _ _ hn,bP _ _ _ _ hn];exact h.box):p:=h
theorem ZHb(h:p:=by
 obtain⟨b,nx⟩:∃b,s[k]=b:=⟨_,rfl⟩;rw[nx]at hb gp;obtain⟨bt,dj⟩:=hb;have HS:=aA gp;clear gp;have bc:(k:Int)<(s.size:Int):=ZA
 obtain k:=_;exact k):p:=h
theorem ZHY(h:p:=by
 have e:l=l.take k++[l[k]]:=by
  conv=>lhs;rw[←dW k l,cZ ZA]
  rw[dK ZA]
 obtain k:=_;exact k):p:=h
theorem ZIO(h:p:=by unfold Oper.wp execOp;simp only[ho,resolve,invoke,builtin,Sem.run_bind,Sem.run_pure,Result.andThen_ok,List.map_toArray,cD,gC,hs,hx,mQ];obtain k:=_;exact k):p:=h
theorem ZAF(h:p:=by rw[←HE.out];exact HG.out):p:=h
theorem ZR4(h:p:=by have bt:=Tj f1;have dj:=Tj f2;have HQ:Hid (Jp s.day.plan s.letters (Am f0) (Am f1) (Am f2)=if Lo s.day.plan s.letters (Am f0) [⟨Am f1,Am f2⟩]then Co (Fr s.day.plan s.letters (Am f0) [⟨Am f1,Am f2⟩])else⟨#[]⟩):=rfl;generalize Am f0=n0 at *;generalize Am f1=n1 at *;generalize Am f2=n2 at *;obtain k:=_;exact k):p:=h
theorem ZTN(h:p:=by
 have q4:=fun W (h:stS w w.heap.size 36 #[.slice AL s.letters.length cL,.int .i64 s.day.plan.bins,.int .i64 s.day.plan.passes,.slice AO s.day.plan.order.length cO,.slice AF s.day.fwds.length cF,.slice AH s.day.held.length cH,.int .i64 s.day.size,.slice AN s.net.length cN] W)=>(Ac h.box).1.2.2.2.2.1
 obtain k:=_;exact k):p:=h
theorem ZUv(h:p:=by
 obtain⟨b,o,rfl,hb,ag,c1,c2⟩:=HR.out.fwdU k ab
 have HX:Hid (∀h:sEq fs[k].src c=false,∀j (h1:j<fs.length),j<k+1→sEq fs[j].src c=false):=fun h j h1 hj=>ZA9
 have HY:Hid (∀h:sEq fs[k].src c=true,Gg fs c=k):=fun h=>Sk ab (fun j hj di=>HG.out j hj di) h
 refine' YU;obtain k:=_;exact k):p:=h
theorem ZFv(h:p:=by
 refine' ZU3;refine(jz.out _ b1).mono ?_;rintro e w2 ⟨rfl,h2⟩
 refine' ZI;exact Bb.pre b1 ⟨rfl,h2⟩):p:=h
theorem ZMa(h:p:=by have fq:Below wn.heap.size wn (wn.alloc (aC #[bC aI x.id,aK x.code] 119)).drew:=Ag (Ae (aF _ _) _);obtain⟨p1,_,_⟩:=Eh (o:=.slice none 0 0) (rest:=[]) qy.out (own.nil_ _ _ _) ⟨.inl rfl,fun k hk=>.inl rfl⟩ fq ey ir mV.out sj.out bz ap cn;obtain k:=_;exact k):p:=h
theorem ZHg(h:p:=by refine' YZ;refine' ZC;refine jz.out.mono ?_;rintro e w1 ⟨rfl,h1⟩;refine' zS;refine' ZI;exact Bb.of_read HD.out rfl H1.out):p:=h
theorem ZOX(h:p:=by
 have jw:=Lp (d:=Mj p0) (ng:=Kn p0);have ef:=Lp (d:=Mj p1) (ng:=Kn p1);rw[show N5 (Mj p0) (Kn p0)=Hp p0 from rfl]at jw;rw[show N5 (Mj p1) (Kn p1)=Hp p1 from rfl]at ef;generalize Hp p0=v0 at *;generalize Hp p1=v1 at *;clear g0 g1 z0 z1 sS o1;have QC:(1:Int)<(ps.length:Int):=ZA
 obtain k:=_;exact k):p:=h
theorem ZAw(h:p:=by
 have bc:(k:Int)<(ps.length:Int):=ZA
 obtain k:=_;exact k):p:=h
theorem ZF3(h:p:=by have h:=Ij rest 32 W hr;rw[hp]at h;exact h.mono fun e w' h=>⟨h.1,h.2.1,h.2.2.1⟩):p:=h
theorem ZAs(h:p:=by rw[cg.out];exact YV):p:=h
theorem ZKa(h:p:=by have hT:=aA (Hv (p:=fun y:Ltr=>y.id != x.id) xs m ZA);have hI:=aA (Od (p:=fun y:Ltr=>y.id != x.id) xs m k ZA ez);generalize xs[m]=y at *;refine' ZN8;obtain k:=_;exact k):p:=h
theorem zf(h:p:=by rw[aq];omega):p:=h
theorem ZGz(h:p:=by
 have eu:=aA (Qa (f:=f) (n:=N) ab (by rw[io.out];exact az))
 have ff:=aA (L7 (f:=f) ab (by rw[io.out];exact az));have nC:=DI.out
 obtain k:=_;exact k):p:=h
theorem ZLi(h:p:=by
 intro L
 induction L with
 |nil=>intro n r h;simp at h
 |cons a L ih=>
  intro n r h;cases n with
  |zero=>exact ZH
  |succ n=> simp only[List.set_cons_succ,cT,aS,gV];have:=ih n r zG;omega):p:=h
theorem ZCU(h:p:=by rw[bI _ ZA];omega):p:=h
theorem ZDe(h:p:=by
 go_wp2_with (go_at_call 240;(with_reducible refine kw.out.mono ?_);refine' ZP)
 obtain k:=_;exact k):p:=h
theorem ZIU(h:p:=by have jj:own (α:=ByteArray) 9 w.heap.size (w.alloc (aC #[] 9)) (.slice (some ⟨w.heap.size,0,none⟩) 0 0) []:=own.made0 w _ (aD _);obtain k:=_;exact k):p:=h
theorem ZLt(h:p:=by
 refine' ZDC;have l4:=Aa lr (Aw cz).1;refine' ZDD;have m4:=aF wl.heap.size wl;have iw:=aA (HA.out.below BL.out);have br:=aA (HB.out.below BL.out);have mq:w.heap.size≤wl.heap.size:=l4.size
 refine' ZC;rw[←jM.out];obtain k:=_;exact k):p:=h
theorem zd(h:p:=by refine' ZT;have l1:=Aa l0 b1;obtain k:=_;exact k):p:=h
theorem YF(h:p:=by have l0:=aF w.heap.size w;obtain k:=_;exact k):p:=h
theorem ZP8(h:p:=by
 refine' zZ;clear ho;have AJ:(i:Int)<(net.length:Int):=ZA
 have sX:=aA ((D1.1 HK.out).2 i nZ).2.2.2.1;have HL:=aA (fun h=>Ao7 (net:=net) (c:=c) nZ h);have HH:=aA (fun h h'=>ApK (net:=net) (c:=c) nZ h h');have de:=aA (fun h h'=>AyW HK.out (c:=c) nZ h h');have xw:=AoH sX.out c;obtain k:=_;exact k):p:=h
theorem ZTm(h:p:=by
 refine' ZJy;clear hz ho;refine' ZJJ;go_enter Tryz.func47,Tryz.ntmps47
 refine' ZC;go_wp2_with (first|(go_at_call 93;refine(HI.out _).mono ?_;refine' ZP)|(go_at_call 92;refine(HZ.out _).mono ?_;refine' ZP))
 rw[←ar.out,←bp.out]
 obtain k:=_;exact k):p:=h
theorem ZLa(h:p:=by generalize(w0.alloc (aC (madeCells #[.slice none 0 0] N) 27))=wz at *;have mt:w0.heap.size≤w.heap.size+1:=eJ jP.out;have ix:=jj;rw[show(Value.slice (some ⟨w0.heap.size,0,none⟩) N N)=(Value.slice (some ⟨w.heap.size+1,0,none⟩) N N) by rw[jP.out]]at ix;clear jj;obtain k:=_;exact k):p:=h
theorem ZIQ(h:p:=by obtain⟨wo,ie⟩:∃wo:World,wo=w1.alloc (aC #[.string x.src,.string x.dst] 181):=⟨_,rfl⟩;refine' ZHK;obtain k:=_;exact k):p:=h
theorem ZU4(h:p:=by have km:Hid (apart (.slice (some ⟨w.heap.size,0,none⟩) 0 0) (.slice (some ⟨w.heap.size+1,0,none⟩) 0 0)):=.inr (by show some _≠some _;simp);obtain k:=_;exact k):p:=h
theorem ZOV(h:p:=by
 have y0:=Bx o1 0 ZA;have y1:=Bx o1 1 ZA;have g0:ps.getD 0 ⟨#[]⟩=ps[0]:=by refine' ZG8;rfl
 have g1:ps.getD 1 ⟨#[]⟩=ps[1]:=by refine' ZG8;rfl
 obtain k:=_;exact k):p:=h
theorem ZGE(h:p:=by have HX:=aA (fun(v:Value) (W:World) (h:rd W W.heap.size v xs)=>Et v xs W h);obtain k:=_;exact k):p:=h
theorem ZSM(h:p:=by
 clear ah bg;refine' ZB3;refine' ZC;go_loop[5,6] (fun t i=>∃k:Nat,k≤d.size∧i=.int .i64 k∧Ea (d.data.toList.take k)=true∧t=.int .i64 (Fe (d.data.toList.take k):Int)) (fun _ i=>d.size - (intOf i).toNat)
 case atStart=>exact⟨0,aM _,rfl,rfl,rfl⟩
 obtain k:=_;exact k):p:=h
theorem ZFk(h:p:=by
 rcases ge with h|h
 ·rw[bA ZA,bA ZA]
 obtain k:=_;exact k):p:=h
theorem za(h:p:=by
 rw[bF]
 obtain k:=_;exact k):p:=h
theorem ZQF(h:p:=by rw[bF]):p:=h
theorem ZBc(h:p:=by
 go_enter Tryz.func12,Tryz.ntmps12
 refine' ZBU;obtain k:=_;exact k):p:=h
theorem ZSf(h:p:=by obtain⟨vo,e,_,_,h⟩:=hv;injection e with e;injection e with e;injection e with _ e;injection e with _ e;injection e with e _;rw[e];exact h.on hW):p:=h
theorem ze(h:p:=by exact own.nil_ _ _ _):p:=h
theorem ZJD(h:p:=by have pM:rdP w w.heap.size (.agg #[.int .i64 s.day.plan.bins,.int .i64 s.day.plan.passes,.slice AO nO cO]) s.day.plan:=⟨_,rfl,hi.1,hi.2,hO.rd⟩;obtain k:=_;exact k):p:=h
theorem ZRX(h:p:=by
 refine' ZC;first
  |(refine' ZJO;exact⟨rfl,j6.out⟩)
  |(refine Ax rfl rfl (Bp fi.out) fA rfl Tryz.sizePlc rfl ?_;exact⟨rfl,Ai (Ai (Ai j6.out (aD _) _) (aD _) _) (aD _) _⟩)):p:=h
theorem ZCb(h:p:=by refine' ZI;exact Bb.of_read HD.out rfl (aF _ _)):p:=h
theorem ZRL(h:p:=by have T3:Aside (Tg n 20 d3):=(T2.out).perm 2 ZA ZA ZA ZF p3 (by rw[Z2.out];omega);have lh:Aside (SortedIn Dc 0 20 d3):=Dp g8.out p3 ZA;have j5:Aside (SortedIn Dc 20 40 d3):=Dp j4.out p3 ZA;obtain k:=_;exact k):p:=h
theorem ZBb(h:p:=by rw[fH _ _ _ _ _ _ hh];rfl):p:=h
theorem ZJc(h:p:=by refine' ZSu;have jb:=(De.1 hk).2.1;have wp:aI.wrap ((p.order.length:Int) - 1)=(p.order.length:Int) - 1:=bI _ ZA;obtain k:=_;exact k):p:=h
theorem ZB5(h:p:=by (with_reducible refine(HC.out _ ao.lay).mono ?_);obtain k:=_;exact k):p:=h
theorem ZG2(h:p:=by
 have xF:(d:Int)<(N:Int):=ZA
 have r9:¬((d:Int)<0):=ZA
 refine' ZU0;have jK:G<w3.heap.size:=(dz.out.1.blk G rfl).2;go_wp2
 obtain k:=_;exact k):p:=h
theorem ZSn(h:p:=by
 rw[MG]at DV HK
 have hk:=HK.out;subst hk;clear MG
 go_wp2_with (first|(refine' ZSm)|(go_at_call 78;refine DV.out.mono ?_;refine' zH))
 have l3:=Aa gi.out b3;obtain k:=_;exact k):p:=h
theorem ZCJ(h:p:=by have eu:=aA (jZ.out hf);have ff:=aA (jx.out hf);obtain k:=_;exact k):p:=h
theorem ZBz(h:p:=by refine' ZC;refine(kZ _).mono ?_;refine' ZP;clear kZ;obtain k:=_;exact k):p:=h
theorem ZNZ(h:p:=by have HP:=aA hp;obtain⟨⟨h1,h2⟩,⟨h3,h4⟩,⟨h5,h6⟩⟩:=Rs.1 hp;clear hp;obtain⟨a,b,c⟩:=p;simp only at h1 h2 h3 h4 h5 h6;obtain⟨a,rfl⟩:=aQ h1;obtain⟨b,rfl⟩:=aQ h3;obtain⟨c,rfl⟩:=aQ h5;obtain k:=_;exact k):p:=h
theorem ZKH(h:p:=by
 have vZ:=q0 _ k1;have wc:=q1 _ k1;have tZ:=q2 _ k1;have we:=q3 _ k1;have wg:=q4 _ k1;have wt:=q5 _ k1;have wv:=q6 _ k1;have p9:=q7 _ k1
 obtain k:=_;exact k):p:=h
theorem ZMB(h:p:=by
 rintro e w3 ⟨vA,vK,rfl,oA,oK,SV,b3⟩;refine' YC;replace E2:=aA (E3 E2.out b3);have CA:Hid (w2.heap.size≤w3.heap.size):=aA b3.size;have OA:=aA oA;have OK:=aA oK;obtain⟨Ak,nk,ck,rfl,SW,_,_,_⟩:=oK.rd;subst SW;clear oA oK b3
 refine' ZC;obtain k:=_;exact k):p:=h
theorem ZNb(h:p:=by
 first|((with_reducible refine(HA.out _).mono ?_);refine' YW;have k1:=Aa ld z1)|((with_reducible refine(HB.out _).mono ?_);refine' YX;have k2:=Aa k1 z2)|((with_reducible refine' ZBq);refine' YI;have k3:=Aa k2 z3)|fail
 obtain k:=_;exact k):p:=h
theorem zL(h:p:=by unfold Bj;omega):p:=h
theorem ZP5(h:p:=by refine' ZAu;have ev:=aA (show rd w w.heap.size (.slice A n cp) rs from⟨A,n,cp,rfl,hn,hc,hm,hr⟩);refine' zk;have BR:=Hm rs c rs.length;obtain⟨q,hq⟩:∃q,Iv rs c=q:=⟨_,rfl⟩;have qL:Ie rs c rs.length=q:=hq;rw[qL]at BR;have HQ:=aA hq;clear hq qL;obtain k:=_;exact k):p:=h
theorem ZUy(h:p:=by have fq:Below w4.heap.size w4 (w4.alloc (aC #[bC aI x.id,aK x.code] 119)).drew:=Ag (Ae (aF _ _) _);obtain k:=_;exact k):p:=h
theorem ZFW(h:p:=by ·refine' YD;refine' ZO;exact⟨Bo (by rw[HM.out,HE.out,aY,ee.out];rfl),au⟩):p:=h
theorem ZQu(h:p:=by
 have qo:∀e∈oj.after,Region.binds md e=true→e.on≠i:=fun e he hb qi=>by have h1:=cw e he hb;have h0:=(mem_ready.1 hr).1;rw[qi]at h1;exact ZQw
 obtain k:=_;exact k):p:=h
theorem ZVA(h:p:=by
 clear hq;generalize Pm p=F at *
 refine' ZC;rw[←mJ.out];refine(FO.out _).mono ?_;refine' zH;obtain k:=_;exact k):p:=h
theorem ZJ8(h:p:=by exact⟨b,o,hA,hb,ag,fun W hW=>(hW.cell (p:=⟨b,o+k*2,none⟩) hb).trans c1,fun W hW=>(hW.cell (p:=⟨b,o+k*2+1,none⟩) hb).trans c2⟩):p:=h
theorem ZKz(h:p:=by
 refine' zI;have qQ:w5.cell? ⟨G,j,none⟩=some (.slice Au qs.length cu):=(ap.cell_far ⟨G,j,none⟩ ZH gu.out).trans zB;have qR:w5.frozen? ⟨G,j,none⟩=false:=(ap.frozen_far ⟨G,j,none⟩ ZH gu.out).trans zB
 obtain k:=_;exact k):p:=h
theorem ZKo(h:p:=by
 have yy:k≤4:=ZA
 obtain⟨f,kA⟩:∃f:Ltr→Int,Hid (f=rbF p (k:Int)):=⟨_,rfl⟩;have jY:Hid (∀x,f x=Dm p x.code k):=fun x=>by rw[kA.out];show Dm p x.code _=_;rw[bE]
 have FN:Hid (∀x, -1≤f x∧f x<xss.length):=fun x=>by rw[jY.out];have h1:=M2 p x.code k g1;have h2:=tO.out;omega
 obtain k:=_;exact k):p:=h
theorem ZM4(h:p:=by
 refine' zK;have l2:=Aa l1 b2;clear l1 b1 b2;cases ok
 ·refine' ZQ;exact⟨Bf (by rw[HQ.out,H1.out,H2.out,de.out]<;>rfl),Aa HT.out l2⟩
 have wY:Hid (Nh d s=if 0≤rkI d.held to then(to,Lv 2)else if 0≤rkI d.plan.order to then(to,Lv 3)else(to,Lv 4)):=by show _=_;rw[HQ.out,H1.out,H2.out,de.out];rfl
 obtain k:=_;exact k):p:=h
theorem ZMn(h:p:=by
 go_wp2
 go_loopw[1,7] (fun t i wr=>∃(k:Nat) (d:ByteArray),k≤fs.length+1∧i=.int .i64 k∧t=.string d∧d.size≤2^63 - 1∧Below w.heap.size w wr∧Hid (Bc fs c=Gb fs (fs.length+1 - k) d k)) (fun _ i _=>fs.length+1 - (intOf i).toNat)
 case atStart=>exact⟨0,c,aM _,rfl,rfl,ax,l0,HF.out⟩
 obtain k:=_;exact k):p:=h
theorem zX(h:p:=by have dc:=aA ac;obtain k:=_;exact k):p:=h
theorem ZFa(h:p:=by obtain⟨q,hq⟩:=aQ (show 0≤r by omega);subst hq;obtain⟨kI,ot⟩:=Sf aj.out;obtain k:=_;exact k):p:=h
theorem ZD9(h:p:=by refine' ZKA;refine' ZD8;have K0:=aA k0;clear m0;obtain k:=_;exact k):p:=h
theorem ZE7(h:p:=by have l6:Below w.heap.size w w6:=L3.out.trans (mS.mono ZA);clear B0 B1 B2 L3 mS HS ft;obtain k:=_;exact k):p:=h
theorem ZFN(h:p:=by refine' ZC;refine(rA.out _).mono ?_;refine' ZP;refine' ZC;refine(pL.out _).mono ?_;refine' ZP;obtain k:=_;exact k):p:=h
theorem ZAz(h:p:=by refine' YY;show 1≤_+1+_;omega):p:=h
theorem ZCa(h:p:=by
 rw[i7]at HV ic
 have jp:=aA ic;clear ic i7
 dsimp only
 obtain k:=_;exact k):p:=h
theorem ZRz(h:p:=by
 have q1:=fun W (hW:Below w.heap.size w W)=>(hW.cell (p:=⟨d,1,none⟩) (Az c1)).trans c1
 have q2:=fun W (hW:Below w.heap.size w W)=>(hW.cell (p:=⟨d,2,none⟩) (Az c2)).trans c2
 have q3:=fun W (hW:Below w.heap.size w W)=>(hW.cell (p:=⟨d,3,none⟩) (Az c3)).trans c3
 obtain k:=_;exact k):p:=h
theorem ZBH(h:p:=by rw[fH _ _ _ _ _ _ h];rfl):p:=h
theorem ZB8(h:p:=by exact Bs.fin (s':=s) (HS.out.cut L4.out) L4.out):p:=h
theorem ZFm(h:p:=by rw[HT.out,jg.out,fC]at dw;rw[HT.out]at HR;refine' ZF7;obtain k:=_;exact k):p:=h
theorem ZMU(h:p:=by
 try clear tS
 refine' ZEg;have mU:(wq.alloc (aC #[] 119)).heap.size=wq.heap.size+1:=ZE
 have qx:Hid (own (α:=Ltr) 119 wq.heap.size (wq.alloc (aC #[] 119)) (.slice (some ⟨wq.heap.size,0,none⟩) 0 0) []):=own.made0 wq _ (aD _);obtain k:=_;exact k):p:=h
theorem ZJp(h:p:=by
 refine' ZBU;refine qr.out.mono ?_;refine' ZT;have o1:=aA (yu.below b1);have o2:=aA (oB.below b1);have l1:=aA (Aa lB b1)
 obtain k:=_;exact k):p:=h
theorem ZBK(h:p:=by rw[aO ZA];simp):p:=h
theorem ZH7(h:p:=by
 have j6:=aA l0;clear ag l0
 refine' ZQ;exact⟨.slice none 0 0,[],by rw[HQ.out];rfl,by rw[AcE HQ.out];exact Md _ _ _ _,j6.out⟩):p:=h
theorem ZRU(h:p:=by
 rw[Sort.get_flatK _ _ _ _ (by simpa using KH),show(xs.toArray)[t/2]! =xs[t/2] by simp[ab],bW];rcases(show t%2=0∨t%2=1 by omega)with e|e
 ·rw[e]
  conv=>lhs;rw[show t=t/2*2 by omega]
  exact c1
 ·rw[e]
  conv=>lhs;rw[show t=t/2*2+1 by omega]
  exact c2):p:=h
theorem ZOZ(h:p:=by
 have HR:=aA (AhP HQ.out);have fg:=aA (ja.out.below b3);clear c0 c1 nU f0 f1 f2 jl;obtain⟨c0,c1,nU,f0,f1,f2⟩:=B7 DJ;refine' ZH5;clear k6 DJ wC dj uT sf b3
 refine' ZGa;obtain k:=_;exact k):p:=h
theorem ZO7(h:p:=by
 have O1:=aA o1;obtain⟨x0,x1,x2,x3,rfl,p0,p1,p2,p3, -⟩:=o1;obtain⟨A0,n0,m0,rfl, -, -, -, -⟩:=p0.rd;obtain⟨A1,n1,m1,rfl, -, -, -, -⟩:=p1.rd;obtain⟨A2,n2,m2,rfl, -, -, -, -⟩:=p2.rd;obtain⟨A3,n3,m3,rfl, -, -, -, -⟩:=p3.rd;clear p0 p1 p2 p3
 obtain k:=_;exact k):p:=h
theorem ZZ(h:p:=by exact aM _):p:=h
theorem ZPL(h:p:=by
 have h0:ys.length=0:=by
  rcases Nat.eq_zero_or_pos ys.length with h|h
  ·exact h
  ·obtain⟨_,_,_,h1,_⟩:=pB 0 h
   cases h1
 have hy:ys=[]:=bQ h0;subst hy;have hd:lX=[]:=bQ (by simpa using qq);subst hd;obtain k:=_;exact k):p:=h
theorem ZTK(h:p:=by
 have ca:(Eo.toList==[99,111,100,101])=false:=ZD
 have db:(Eo.toList==[98,97,114,115])=false:=ZD
 have d8:(Eo.toList==[114,101,97,100])=false:=ZD
 refine' ZRo;obtain k:=_;exact k):p:=h
theorem ZKF(h:p:=by obtain⟨A',n',c',hv,_,h1,h2,_⟩:=hf.rd;injection hv with _ e2 e3;omega):p:=h
theorem ZRb(h:p:=by
 have HQ:Hid (Fw xs f=if Re f xs then((Kw f xs).length:Int)else -1):=by
  show _=_;unfold Fw Kw;show(if Re f xs=true then _ else _)=_
  split<;>rfl
 rw[HQ.out];clear HQ ib;obtain⟨A,n,c,rfl, -, -, -, -⟩:=hb;generalize Kw f xs=L at *;generalize Ts f xs=M at *;obtain k:=_;exact k):p:=h
theorem ZOs(h:p:=by rw[aH ZFR,iD,List.take_set_of_le (aD _),List.drop_set_of_lt ZA];rw[show k+1+ys.length=k+(ys.length+1) by omega];simp):p:=h
theorem ZGK(h:p:=by have:=Mt _ s.net st c W (hS.n.rd.on h0.lay) hz;rw[hn]at this;exact this):p:=h
theorem ZFw(h:p:=by
 have cm:(Cf.toList==[108,101,116,116,101,114,115])=true:=ZD
 generalize Cf=wd at *;obtain k:=_;exact k):p:=h
theorem ZUZ(h:p:=by obtain⟨cb,fb,hb⟩:=hb;rw[hO k _ hc (fun e'=>by injection e' with e';subst e';rw[hb]at hc;injection hc with hc;injection hc with _ hc _;exact h2 hc.symm) fun c fz e'=>by injection e' with _ e' _;exact h1 e',hc]):p:=h
theorem YZ(h:p:=by
 go_enter Tryz.func58,Tryz.ntmps58
 obtain k:=_;exact k):p:=h
theorem ZCN(h:p:=by refine' ZAk;exact ZGZ):p:=h
theorem zB(h:p:=by go_simp):p:=h
theorem ZHt(h:p:=by
 obtain⟨hb,⟨h,_⟩|⟨p',q',h,he⟩⟩:=h
 ·rw[ij]at h;cases h
 ·rw[ij]at h;cases h;exact⟨hb,he⟩):p:=h
theorem ZB1(h:p:=by rw[swp_other _ _ _ _ ZA ZA];obtain k:=_;exact k):p:=h
theorem ZQ7(h:p:=by
 ((with_reducible refine(tg.out d1 w1 R1.out S2.out ha oN).mono ?_);rintro e w3 ⟨rfl,d3,⟨p3,q3⟩,s3⟩;have P3:Aside (PermIn a mid d1 d3):=p3;refine' ZQ8)
 obtain k:=_;exact k):p:=h
theorem ZES(h:p:=by generalize xss[k]=ys at *;obtain⟨A2,m2,c2,rfl,nI,kC,jr,kq⟩:=hu;obtain k:=_;exact k):p:=h
theorem ZEW(h:p:=by injection h1 with h1;injection h1 with h1;simp only[List.cons.injEq,and_true,true_and]at h1;obtain k:=_;exact k):p:=h
theorem ZDk(h:p:=by
 have c0:=z0.cell;have c1:=z1.cell;have f0:=z0.frozen;have f1:=z1.frozen
 obtain k:=_;exact k):p:=h
theorem ZIk(h:p:=by have jq:=aA fj;have br:=aA kB;have BB:=aA ul;have ny:=aA cn;rw[bv]at jq;clear fq ep fj kB ul cn;obtain k:=_;exact k):p:=h
theorem ZEL(h:p:=by obtain⟨M,hM⟩:=aQ (show 0≤p.passes by omega);have pW:=aA hM;clear hM;obtain k:=_;exact k):p:=h
theorem ZAH(h:p:=by have l0:=aF w0.heap.size w0;obtain k:=_;exact k):p:=h
theorem ZBi(h:p:=by obtain⟨i0,hi,lQ,aw,aq⟩:=eA Tryz.infoRow;obtain k:=_;exact k):p:=h
theorem zQ(h:p:=by have HV:=aA hv;obtain k:=_;exact k):p:=h
theorem ZTF(h:p:=by
 refine' ZT8;have jX:own 128 wB.heap.size W2 (.slice AX nX cX) xs:=by rw[be];exact Bd OX.out ⟨w.heap.size,4,none⟩ _ ZGC
 refine' ZT9;obtain k:=_;exact k):p:=h
theorem zC(h:p:=by have HD:=aA hD;obtain k:=_;exact k):p:=h
theorem ZMO(h:p:=by
 obtain⟨d,hd⟩:∃d,L.length=d+1:=⟨L.length - 1,by have:L.length≠0:=fun e=>gx (f2.1 e);omega⟩
 have ir:d<L.length:=ZA
 obtain⟨k',fu⟩:∃k',k=k'+1:=⟨k - 1,ZA⟩;obtain⟨yp,hyp,e2⟩:=pY.out k' fu;clear f2 pY;subst fu;obtain k:=_;exact k):p:=h
theorem ZPA(h:p:=by
 ·go_wp2
  go_roundw
  case rel=> refine⟨k+1,ZA,ZJ,by rw[CE.out,x8.out];congr 1;omega,k6.setCell ZH _,zB,by simpa using ft,?_⟩;rw[CE.out,kM.out];exact HSI.out _ zL
  case measure=>exact ZK):p:=h
theorem ZTr(h:p:=by
 have ca:(Cy.toList==[115,105,122,101])=false:=ZD
 have cm:(Cy.toList==[104,111,108,100])=true:=ZD
 generalize Cy=wd at *;go_enter Tryz.func47,Tryz.ntmps47
 refine' ZC;go_wp2_with (go_at_call 94;refine' zz)
 rw[←ar.out,←bp.out];obtain k:=_;exact k):p:=h
theorem ZE6(h:p:=by have x1:Boxed w6 (w.heap.size+1) 4 (.bool false):=(mS.block _ ZA).trans B1.out;obtain k:=_;exact k):p:=h
theorem ZAP(h:p:=by have lf:=y0 _ k0;rw[ar.out]at lf;obtain k:=_;exact k):p:=h
theorem ZBv(h:p:=by refine' ZC;refine HF.out.mono ?_;refine' ZT;obtain k:=_;exact k):p:=h
theorem ZH8(h:p:=by obtain⟨z1,z2,z3,z4,z5⟩:=dz.out;exact⟨ZA,z3 d ZA lC,z5 d ZA⟩):p:=h
theorem ZGM(h:p:=by clear hq hl hn hz;generalize(Cs s.net st c).1.map (Bw s.net)=L at *;generalize Cb L=F at *;obtain k:=_;exact k):p:=h
theorem ZH1(h:p:=by rw[HR.out,jp.out,aP rfl];exact(oz.grown (grownBy_putObj' _ D _) (Vq oz oZ)).base_ ZA):p:=h
theorem ZCy(h:p:=by
 obtain⟨r0,r1,r2,r3,r4,r5,r6,r7,hr⟩:=k3.res;refine' ZCu
 obtain k:=_;exact k):p:=h
theorem z6(h:p:=by exact⟨rfl,aF _ _⟩):p:=h
theorem ZBe(h:p:=by
 by_cases di:j<k
 ·exact HG.out j di
 obtain k:=_;exact k):p:=h
theorem ZFB(h:p:=by
 have c0:=z0.cell;have c1:=z1.cell;have c2:=z2.cell;have f0:=z0.frozen;have f1:=z1.frozen
 obtain k:=_;exact k):p:=h
theorem ZK1(h:p:=by have p4:=Ex (G:=G) (d:=j) (g:=g) (m:=qs.length+1) (cap:=cap) (Ag (Ae l4 (aC #[bC aI x.id,aK x.code] 119))) ap (fun j hj=>(jc.out.blk j hj).1) mt;refine' ZKL;obtain k:=_;exact k):p:=h
theorem ZCD(h:p:=by obtain⟨b,o,u,rfl,hb,hu,c1⟩:=HR.out.rowU k ab;obtain k:=_;exact k):p:=h
theorem ZRM(h:p:=by have Z4:Aside (d4.size=n):=p4.1.trans Z3.out;have EU:Aside (SWK enc k w0 blk av d4 w4):=S4;have P4:Aside (PermIn 0 n d0 d4):=permIn_trans _ _ _ _ _ P3.out (permIn_mono _ _ _ _ _ _ (aM _) ZA (by rw[Z3.out];omega) p4);obtain k:=_;exact k):p:=h
theorem ZJF(h:p:=by
 first|((with_reducible refine(pL.out _).mono ?_);refine' ZP)|((with_reducible refine(th.out _).mono ?_);refine' ZP)|fail
 obtain k:=_;exact k):p:=h
theorem ZAg(h:p:=by unfold dig;exact ZH):p:=h
theorem ZK2(h:p:=by
 have BK:(r==(j:Int))=false:=by simp[og]
 obtain⟨nd,iv⟩:Hid (K.set j (D8 f j (ys.take (m+1)))=K.set j qs)∧Hid (Gv f j (ys.take (m+1))=rs++[x]):=⟨(wG.out ZGc).1,(wG.out ZGc).2⟩;obtain k:=_;exact k):p:=h
theorem ZFV(h:p:=by obtain⟨k,m,hk,rfl,rfl,m0,m1,HM,au⟩:=hrel;refine' zR;have sr:=au.size;clear bg;obtain k:=_;exact k):p:=h
theorem ZET(h:p:=by refine' ZBg;have HM:=aA (hm.on HT.out);refine' ZGk;clear ac hv hb hm;refine' ZBh;obtain k:=_;exact k):p:=h
theorem ZBx(h:p:=by obtain⟨A1,n1,c1,rfl, -, -, -, -⟩:=o1.rd;obtain k:=_;exact k):p:=h
theorem ZLJ(h:p:=by
 go_wp2
 go_region_held3 (fun W=>Below w0.heap.size w0 W) (first|exact ld|exact Aa ld b3) (first|(go_at_call 171;refine(HC.out _ ld).mono ?_;refine' zH))
 have i6:=Aa ld b3;have B3:Below w1.heap.size w1 w3:=Aa ((aF _ _).drew) b3;obtain k:=_;exact k):p:=h
theorem ZHS(h:p:=by refine' ZCM;exact List.mem_map.2 ⟨x,dY hx,rfl⟩):p:=h
theorem ZRc(h:p:=by
 refine' ZC;refine HS.out.mono ?_;rintro e w1 ⟨vA,vB,rfl,oA,oB, -,b1⟩;obtain⟨A1,n1,c1,rfl,ef, -, -, -⟩:=oA.rd;obtain⟨A2,n2,c2,rfl, -, -, -, -⟩:=oB.rd;have HN:=aA ef;have B1:=aA b1;clear oA oB ef b1
 refine' ZI
 obtain k:=_;exact k):p:=h
theorem ZQq(h:p:=by have lY:Hid (ps.take (k+1)=ps.take k++[ps[k]]):=aH fy;obtain k:=_;exact k):p:=h
theorem ZDp(h:p:=by rw[aS,cE];omega):p:=h
theorem ZIK(h:p:=by
 obtain⟨b,o,rfl,hb,_,c1,c2⟩:=HR.out.ltr k ab
 obtain⟨i1,i2⟩:=AlN ee.out k ab;obtain k:=_;exact k):p:=h
theorem ZNl(h:p:=by refine' ZC;refine Ax rfl rfl (bD w (aC #[.int .i64 p.area,.int .i64 p.walk,.int .i64 p.point] 147)) fA rfl Tryz.sizePlc rfl ?_;exact⟨rfl,Ag ((aF w.heap.size w).alloc (aD _) _)⟩):p:=h
theorem ZCo(h:p:=by show w.heap.size≤w.heap.size+1;omega):p:=h
theorem ZSX(h:p:=by have PK:=aA (fun W (h:Below W2.heap.size W2 W)=>B7 ((h.block _ (Array.getElem?_eq_some_iff.1 kB).1).trans kB));have kw:=aA (fun W (h:Below W2.heap.size W2 W)=>(h.block _ (Array.getElem?_eq_some_iff.1 dj).1).trans dj);obtain k:=_;exact k):p:=h
theorem ZJr(h:p:=by
 go_wp2_with (first|(go_at_call 28;refine(rW.out _).mono ?_;refine' YX;have k2:=k1.below z2)|(refine' ZGI))
 obtain k:=_;exact k):p:=h
theorem ZQK(h:p:=by rw[dR]at hy;obtain⟨j,hj,rfl⟩:=hy;simp only[fI];exact F6.2 (h3 j ZA)):p:=h
theorem ZKR(h:p:=by
 have d7:k<s.data.toList.length:=by simpa using ab
 have hb:=Iw HD.out s[k] (by have:=aU d7;exact this)
 obtain k:=_;exact k):p:=h
theorem zP(h:p:=by refine' zS;refine' ZC;obtain k:=_;exact k):p:=h
theorem ZJC(h:p:=by obtain⟨w0,ac⟩:∃w0,w0=w.alloc (aC #[.int .i64 p.bins,.int .i64 p.passes,.slice A0 p.order.length c0] 30):=⟨_,rfl⟩;obtain k:=_;exact k):p:=h
theorem ZBA(h:p:=by obtain⟨k,hk,rfl,lr,HG⟩:=hrel;refine' zR;obtain k:=_;exact k):p:=h
theorem ZEy(h:p:=by obtain⟨vo,rfl,jO,kP,Ao,no,mF,rfl,k7,sw,rr,i7⟩:=hv;subst k7;clear sw rr i7;obtain k:=_;exact k):p:=h
theorem ZEC(h:p:=by
 refine hK.out _ _ (fun _=>?_) (fun aa=>?_)
 ·exact l8
 refine' ZBd;obtain k:=_;exact k):p:=h
theorem ZPX(h:p:=by generalize net[k]=x at *;refine' ZCi;obtain⟨wo,ie⟩:∃wo:World,wo=w1.alloc (aC #[.string x.name,.slice A2 x.rules.length k2] 45):=⟨_,rfl⟩;refine' ZHK;obtain k:=_;exact k):p:=h
theorem ZIz(h:p:=by
 have y5:¬(60:Int)<(n:Int):=ZA
 have y6:¬(80:Int)≤(n:Int):=ZA
 have y7:¬(80:Int)<(n:Int):=ZA
 obtain k:=_;exact k):p:=h
theorem ZNN(h:p:=by
 clear ag
 refine' ZC;go_loopw[3,4] (fun t i wr=>∃k:Nat,k≤rs.length∧i=.int .i64 k∧t=.string (Jb rs k)∧Below w.heap.size w wr) (fun _ i _=>rs.length - (intOf i).toNat)
 case atStart=>exact⟨0,aM _,rfl,by rw[Ou],l1⟩
 obtain k:=_;exact k):p:=h
theorem ZLO(h:p:=by refine⟨.inr ZGg,fun k hk=>.inr fun e=>?_⟩;obtain⟨z1,z2,z3,_⟩:=ix;have hh:w.heap.size+1+1<wz.heap.size:=((z3 k hk ZA).blk _ e.symm).2;omega):p:=h
theorem ZNo(h:p:=by
 have hn:=Ow s.size s.data.toList hd ZE;have HE:Hid (Kv s.data.toList=(10 - F8 s.data.toList%10)%10):=rfl;generalize F8 s.data.toList=n at *;generalize Kv s.data.toList=k at *;have qc:n≤180:=ZA
 clear hd hn;obtain k:=_;exact k):p:=h
theorem ZUL(h:p:=by
 rintro e u2 h2;obtain⟨GJ,GK,GL,GM,GN,GO,GP,GQ,GS,GT,rfl,S2,z2⟩:=h2.out;have ff:=aA (Q9 S2 ZA);have k2:=k1.below z2;have L2:=aA k2.lay;refine' ZJi
 obtain k:=_;exact k):p:=h
theorem ZBG(h:p:=by
 rw[bV]at o7;have fw:=l7.size
 obtain k:=_;exact k):p:=h
theorem YJ(h:p:=by injection e;omega):p:=h
theorem YO(h:p:=by simp only[if_true]at hP hZ⊢;obtain k:=_;exact k):p:=h
theorem ZEP(h:p:=by show _=_;exact ZEX):p:=h
theorem ZJK(h:p:=by refine' ZU3;refine(kj.out _).mono ?_;rintro e w2 ⟨rfl,o2,b2⟩;obtain k:=_;exact k):p:=h
theorem ZCm(h:p:=by obtain⟨i1,ji,dp,dq,dr⟩:=eA Tryz.infoFwd;obtain k:=_;exact k):p:=h
theorem ZFo(h:p:=by rw[aH h,gU,cQ];simp[hf]):p:=h
theorem ZIj(h:p:=by refine' ZQ;exact⟨_,G9 (HO.out.trans HB.out),by rw[HR.out,HB.out];exact own.made0 _ _ lw.size,lw.alloc lw.size _⟩):p:=h
theorem ZLS(h:p:=by
 refine' ZW;by_cases hr:r<0
 ·refine' ZI;exact⟨Bo (by rw[ApL (by rw[aj.out];exact hr)]),HT.out⟩
 have f9:0≤r:=ZA
 have HE:Hid (Dm p c k=r/q%p.bins):=by show _=_;rw[AoZ (by rw[aj.out];omega),aj.out,HQ.out]
 obtain k:=_;exact k):p:=h
theorem YT(h:p:=by have:=HL.out;omega):p:=h
theorem ZGu(h:p:=by
 have DI:Hid ((Bn f (xs.take k)).length≤1000):=by show _≤_;have:=E4 (fun x=>decide (f x<0)) xs k;unfold Bn;omega
 obtain k:=_;exact k):p:=h
theorem ZCW(h:p:=by refine' ZO;exact⟨Bo (HY.out it.out).symm,rfl⟩):p:=h
theorem ZPy(h:p:=by
 refine' ZAp;go_region_held3 (fun W=>Below wo.heap.size wo W) (first|exact ld|exact Aa ld b3) (first|(go_at_call 284;refine(C1.out _).mono ?_;refine' zN)|(go_at_call 234;refine(C3.out _ ld).mono ?_;refine' zH))
 obtain k:=_;exact k):p:=h
theorem ZBT(h:p:=by refine' YY;show _+1+_≤_;omega):p:=h
theorem ZBV(h:p:=by refine' ZKA;have ao:=k0.drew;refine' ZUz;obtain k:=_;exact k):p:=h
theorem ZPC(h:p:=by
 refine' ZT;generalize Jh p xs=q at *;have B1:=HB.out.trans (b1.mono HB.out.size);by_cases h:q<0
 ·refine' ZI;exact⟨Bo (by rw[HQ.out,aP h]),B1⟩
 ·refine' ZI;exact⟨Bo (by rw[HQ.out,aL ZA]),B1⟩):p:=h
theorem ZR1(h:p:=by rw[bL,aR hk];rfl):p:=h
theorem ZPn(h:p:=by
 rw[aj.out];refine' ZW;cases h3:(r==(k:Int))
 ·have H3:=aA h3
  have sO:(r != (k:Int))=true:=ZEz
  clear h3
  refine' ZI;exact⟨Al (am.out (by rw[hG.out,←hS.out,aj.out,H3.out];simp)).symm,rfl⟩
 obtain k:=_;exact k):p:=h
theorem ZR6(h:p:=by obtain⟨an,rX⟩:∃z:ByteArray,z=Jp s.day.plan s.letters n0 n1 n2:=⟨_,rfl⟩;rw[←rX]at HQ⊢;generalize Lo s.day.plan s.letters n0 [⟨n1,n2⟩]=ok at *;generalize Fr s.day.plan s.letters n0 [⟨n1,n2⟩]=L at *;obtain k:=_;exact k):p:=h
theorem ZCV(h:p:=by exact⟨0,aM _,rfl,rfl⟩):p:=h
theorem ZU1(h:p:=by
 have h:=lI.out;unfold apart at h;rcases h with h|h
 ·rw[h];simp
 ·exact fun e=>h e.symm):p:=h
theorem ZMq(h:p:=by
 ·have d7:¬(k:Int)≤(fs.length:Int):=ZA
  have HE:Hid (Bc fs c=(⟨#[]⟩,0,false)):=by show _=_;rw[HG.out,show fs.length+1 - k=0 by omega];rfl
  refine' zV;exact⟨Bf ZCj,lr⟩):p:=h
theorem ZNQ(h:p:=by
 refine' ZEp;have lv:Hid (aK (P++⟨#[32]⟩++p++⟨#[62]⟩++q)=.string (Jb rs (k+1))):=by
  show _=_;rw[pN.out,oJ.out ZA];unfold Ek
  congr 1
  refine Cv ?_;simp[spT]
 obtain k:=_;exact k):p:=h
theorem ZBw(h:p:=by
 go_enter Tryz.func52,Tryz.ntmps52
 refine' ZC;obtain k:=_;exact k):p:=h
theorem ZN1(h:p:=by
 have mE:=aA hd;clear hd
 go_wp2_with (first|(go_at_call 231;refine(Cw _ _ ag).mono ?_;refine' ZA5)|(go_at_call 281;refine(M5 _ (cs.take k) _ _ (ev.out.take hk)).mono ?_;rw[mE.out];refine' zN))
 obtain k:=_;exact k):p:=h
theorem ZLd(h:p:=by refine' YD;go_wp2;go_ret2;have hB:=HB.out;have hO:=HO.out;have hF:=fh.out;rw[HE.out,aY]at hB hO hF⊢;exact⟨_,_,vs,rfl,hB.base_ (iP bf),hO.base_ (iP bf),hF,Aa HT.out lr⟩):p:=h
theorem ZOv(h:p:=by obtain⟨f1,sk⟩:∃f,(Bc fs p).1=f:=⟨_,rfl⟩;obtain⟨f2,vg⟩:∃f,(Bc fs p).2.1=f:=⟨_,rfl⟩;obtain⟨f3,jn⟩:∃f,(Bc fs p).2.2=f:=⟨_,rfl⟩;rw[sk,vg,jn]at pD;rw[jn]at HY HS;clear sk vg jn;obtain k:=_;exact k):p:=h
theorem ZCI(h:p:=by obtain⟨k,hk,rfl,lr,hA,hB,et⟩:=hrel;refine' zj;obtain k:=_;exact k):p:=h
theorem ZIp(h:p:=by
 obtain⟨_,iu⟩:=Mr jt;have nZ:i<x.size:=by simpa using iu
 have ax:=Nt jt;have jf:=Ki ax;rw[jt]at kZ;obtain k:=_;exact k):p:=h
theorem ZCH(h:p:=by refine' ZAa;obtain⟨A,n,c,rfl,hn,hc,hm,hr⟩:=hb;obtain k:=_;exact k):p:=h
theorem ZI0(h:p:=by
 have y0:(20:Int)≤(n:Int):=ZA
 have y1:(20:Int)<(n:Int):=ZA
 have y2:(40:Int)≤(n:Int):=ZA
 obtain k:=_;exact k):p:=h
theorem ZN2(h:p:=by clear f9;have hB:Below w.heap.size w (w.alloc (aC #[bC aI p.bins,bC aI p.passes,Value.slice A p.order.length cp] 30)):=(aF _ _).alloc (aD _) _;have HB:=aA hB;clear hB;obtain k:=_;exact k):p:=h
theorem YE(h:p:=by obtain⟨k,hk,rfl,HG⟩:=hrel;obtain k:=_;exact k):p:=h
theorem ZEE(h:p:=by refine Bk (rs:=[11]) ZB ZE ?_;refine' ZA2;obtain k:=_;exact k):p:=h
theorem ZNJ(h:p:=by obtain⟨A0,c0,A1,c1,A2,c2,A3,c3,e0⟩:=At9 hv;obtain⟨w0,ac⟩:∃w0,w0=w.alloc (aC #[.slice A0 r.round.length c0,.slice A1 r.strange.length c1,.slice A2 r.held.length c2,.slice A3 r.stuck.length c3] 78):=⟨_,rfl⟩;obtain k:=_;exact k):p:=h
theorem ZN9(h:p:=by have hB:Below w.heap.size w (w.alloc (aC #[bC aI p.bins,bC aI p.passes,Value.slice Ao p.order.length mF] 30)):=(aF _ _).alloc (aD _) _;have HB:=aA hB;clear hB;obtain k:=_;exact k):p:=h
theorem YG(h:p:=by
 have HP:=aA hp;clear hp
 obtain k:=_;exact k):p:=h
theorem ZFu(h:p:=by
 have cm:(Df.toList==[112,108,97,110])=true:=ZD
 generalize Df=wd at *;obtain k:=_;exact k):p:=h
theorem ZNq(h:p:=by have HD:=aA ig;have sH:=Rn s.data.toList;have HE:Hid (Sj s.data.toList=Ni s.data.toList++G6 (Kv s.data.toList)++⟨#[124]⟩):=rfl;obtain⟨q,hq⟩:∃q,Kv s.data.toList=q:=⟨_,rfl⟩;rw[hq]at yi HE sH;obtain k:=_;exact k):p:=h
theorem ZAt(h:p:=by simp[World.frozen?,h]):p:=h
theorem zq(h:p:=by simp<;>omega):p:=h
theorem ZHM(h:p:=by first|with_reducible refine Da (C1.out _)|with_reducible refine Da (C2.out _)):p:=h
theorem ZHs(h:p:=by
 obtain⟨hb,⟨_,he⟩|⟨p,q,h,_⟩⟩:=h
 ·exact⟨hb,he⟩
 ·rw[ij]at h;cases h):p:=h
theorem ZDw(h:p:=by
 obtain⟨b,o,A2,k2,rfl,hb,ag,hu,c1,c2⟩:=HR.out.ofcU k ab
 obtain k:=_;exact k):p:=h
theorem ZDD(h:p:=by have BL:=aA (Aw cz).1;have jM:=aA cz;clear cz;obtain k:=_;exact k):p:=h
theorem ZGt(h:p:=by
 obtain⟨tC,tD⟩:=HF.out x;rw[←jY.out]at tC tD;have io:Hid (f xs[k]=f x):=by show _=_;rw[←HX.out]
 obtain k:=_;exact k):p:=h
theorem ZC7(h:p:=by refine' ZBg;subst e0;refine' zX;clear ac hv hb;refine' ZBh;obtain k:=_;exact k):p:=h
theorem ZH2(h:p:=by refine' ZCT;obtain⟨q0,q1,q2,_,_,_⟩:=B7 bg;have j6:=aA jS;have fi:=aA bg;obtain k:=_;exact k):p:=h
theorem ZHD(h:p:=by refine' ZDX;have HD:=aA im;have HB:=aA (hb.on HT.out);refine' zX;clear ac hb hv im;refine' ZBh;obtain k:=_;exact k):p:=h
theorem ZBf(h:p:=by show _=_;rw[HQ.out,h2];simp):p:=h
theorem ZPg(h:p:=by have HO:Hid (own (α:=ByteArray) 9 w.heap.size (w4.alloc (aC #[.string p] 9)) (.slice (some ⟨w4.heap.size,0,none⟩) 1 1) [p]):=own.made1 (α:=ByteArray) w4 9 [.string p] p ⟨xt,rfl⟩ lq.size;obtain k:=_;exact k):p:=h
theorem ZUk(h:p:=by have T2:Aside (Tg n 20 d2):=(T1.out).perm 1 ZA ZA ZA ZF p2 (by rw[Z1.out];omega);have g8:Aside (SortedIn Dc 0 20 d2):=Dp g7.out p2 ZA;obtain k:=_;exact k):p:=h
theorem ZEH(h:p:=by
 rw[bA ZH]at hd
 have HD:=aA hd;clear hd;obtain k:=_;exact k):p:=h
theorem ZOu(h:p:=by exact⟨h4.os,h4.tape,h4.output,aG h4.size (by simp[Go.Sort.grow]),fun k hk bj=>by show(_++os)[k]? =_;rw[iJ (bU hk h4.size)];exact h4.block k hk bj⟩):p:=h
theorem ZP6(h:p:=by
 obtain⟨u,hu⟩:=aQ (show 0≤q by omega)
 subst hu;have rq:u<rs.length:=ZA
 obtain⟨b,o,rfl,hb,⟨mc,me⟩,y1,y2⟩:=HR.out.fwdU u rq;have HS:=aA (Rx HQ.out rq);obtain k:=_;exact k):p:=h
theorem ZAW(h:p:=by rintro e w3 ⟨v3,rfl,o3,b3⟩;obtain k:=_;exact k):p:=h
theorem ZAj(h:p:=by rintro e w1 ⟨v1,rfl,o1,b1⟩;obtain k:=_;exact k):p:=h
theorem ZF9(h:p:=by rw[ae];exact(aF _ _).alloc (aD _) _):p:=h
theorem ZPK(h:p:=by obtain⟨cs,ax,OV⟩:=List.mem_flatten.1 hu;obtain⟨k,hk,rfl⟩:=bO ax;obtain⟨_,_,_,h,_⟩:=kN k hk ZA;exact El.one h u OV):p:=h
theorem ZBE(h:p:=by exact⟨0,aM _,rfl,bg,kF⟩):p:=h
theorem ZFS(h:p:=by rw[aH hk,gU,cQ];obtain k:=_;exact k):p:=h
theorem ZQf(h:p:=by
 refine' YR;have hk:=(ho.blk k hb).1;rcases hr k e.symm with h|⟨_,o,iy,kG⟩
 ·omega
 ·obtain⟨o',nQ,fj⟩:=Hn ho hb
  rw[nQ]at iy;injection iy with iy;rw[iy,kG]at fj;cases fj):p:=h
theorem ZAE(h:p:=by
 obtain rfl:j=k:=ZA
 obtain k:=_;exact k):p:=h
theorem ZAM(h:p:=by have HV:=aA (I7 HO.out);obtain k:=_;exact k):p:=h
theorem ZB2(h:p:=by simp[Lib.compareBytes]at h):p:=h
theorem ZUr(h:p:=by
 have ah:=k0.lt;have aw:=k1.lt;have R5:=aA (rdN.of_own (R:=cut R w.heap.size (w.heap.size+2)) o5 fun k hk=>.inr (aG ah hk));obtain⟨A5,n5,c5,rfl, -, -, -, -⟩:=o5.rd;clear o5 ah
 obtain k:=_;exact k):p:=h
theorem ZHV(h:p:=by
 clear lU mG
 refine' ZC;refine HJ.out.mono ?_;rw[←HF.out];refine' zH;refine' YC;refine' ZI;obtain k:=_;exact k):p:=h
theorem ZDh(h:p:=by refine' ZC;refine(HN.out _).mono ?_;refine' ZP;obtain k:=_;exact k):p:=h
theorem ZTJ(h:p:=by
 have ca:(Ga.toList==[99,111,100,101])=false:=ZD
 have db:(Ga.toList==[98,97,114,115])=false:=ZD
 have cm:(Ga.toList==[114,101,97,100])=true:=ZD
 generalize Ga=wd at *;obtain k:=_;exact k):p:=h
theorem zo(h:p:=by rintro e w2 ⟨rfl,rfl⟩;obtain k:=_;exact k):p:=h
theorem ZGs(h:p:=by refine' ZC4;obtain⟨x,hx⟩:∃x,x=xs[k]:=⟨_,rfl⟩;have HX:=aA hx;rw[←hx]at c1 c2 fa ew;clear hx;obtain k:=_;exact k):p:=h
theorem ZLm(h:p:=by
 have lG:=Cq h2;have jU:=(Ch.1 H1.out).1;refine' zA;have HF:Hid (Ve fs xs=true):=ZEP
 have HY:Hid (E6 fs xs=F9 fs xs∧Gu fs xs=Lj fs xs):=by unfold E6 Gu;rw[HF.out];exact ZV
 clear HB
 refine' ZC;obtain k:=_;exact k):p:=h
theorem ZSz(h:p:=by
 refine' ZU;refine Bh (i:=2) (v:=?zv2) rfl rfl ZB ZB ZB ZB (fun _ _ _ h=>h) (aZ ⟨ZG,?zy2⟩) ZL ?zr2
 case zy2=> exact ZM
 obtain k:=_;exact k):p:=h
theorem ZBN(h:p:=by have ld:=Ag (aF w.heap.size w);obtain k:=_;exact k):p:=h
theorem ZKY(h:p:=by
 have kW:wo.heap.size=w1.heap.size+1:=by subst ie;simp
 have x9:Below w.heap.size w wo:=by subst ie;exact au.alloc ct _
 rw[←ie];have CF:w1.heap.size<wo.heap.size:=ZA
 clear ie kW
 obtain k:=_;exact k):p:=h
theorem ZEn(h:p:=by rw[lN];exact⟨by have:=kT.out.1;exact ZN,rfl⟩):p:=h
theorem ZFn(h:p:=by
 have bc:¬((k:Int)<(ps.length:Int)):=ZA
 have mD:=aA fy;obtain k:=_;exact k):p:=h
theorem ZJm(h:p:=by
 have OX:=aA oX;obtain⟨AX,nX,cX,rfl, -, -, -, -⟩:=oX.rd;clear oX
 obtain k:=_;exact k):p:=h
theorem ZIx(h:p:=by
 have T4:Aside (SortedIn lt mid b d4):=q4;have S4:Aside (SWK enc k w0 blk av d4 w4):=s4;clear p4 q4 s4
 obtain k:=_;exact k):p:=h
theorem zp(h:p:=by generalize xs[k]=x at *;obtain k:=_;exact k):p:=h
theorem ZFt(h:p:=by
 have ca:(Df.toList==[108,101,116,116,101,114,115])=false:=ZD
 obtain k:=_;exact k):p:=h
theorem ZAL(h:p:=by have jz:=aA HC;clear HC;obtain k:=_;exact k):p:=h
theorem ZGl(h:p:=by obtain⟨kX,jl,pF⟩:=Lf.1 h1;obtain⟨lD,mH,rU⟩:=Jz.1 kX;refine' ZC9;obtain k:=_;exact k):p:=h
theorem ZSs(h:p:=by
 have qC:¬9223372036854775807<P.size+lb.size:=ZA
 have oI:¬9223372036854775807<P.size+lb.size+1:=ZA
 have qD:¬9223372036854775807<P.size+lb.size+1+dl.size:=ZA
 obtain k:=_;exact k):p:=h
theorem ZI8(h:p:=by
 (with_reducible refine(HN.out _ B1.out).mono ?_);refine' ZII
 obtain k:=_;exact k):p:=h
theorem ZQd(h:p:=by
 have qC:¬9223372036854775807<P.size+nm.size:=ZA
 have oI:¬9223372036854775807<P.size+nm.size+1:=ZA
 have qD:¬9223372036854775807<P.size+nm.size+1+F.size:=ZA
 obtain k:=_;exact k):p:=h
theorem ZMd(h:p:=by rintro e w1 ⟨vR,rfl,oR,b1⟩;have l1:=Aa l0 b1;have AC:=oR.rd;obtain⟨R0,r0,R1,r1,R2,r2,R3,r3,eR⟩:=At9 AC;subst eR;obtain⟨pr,_,_,_⟩:=AlF AC;have PR:=aA pr;clear AC pr oR b1;obtain k:=_;exact k):p:=h
theorem ZF5(h:p:=by show _=_;rw[HT.out];exact am.out ZAg):p:=h
theorem ZEi(h:p:=by exact⟨0,aM _,rfl,fun j hj=>absurd hj (aX j)⟩):p:=h
theorem ZFU(h:p:=by exact⟨0,0,aM _,rfl,rfl,ZA,ZA,rfl,bg⟩):p:=h
theorem ZKc(h:p:=by
 have uz:=aA hid;clear hid
 go_wp2_with (first|(go_at_call 94;refine(Cm _ _ o3).mono ?_;refine' ZA5)|(go_at_call 167;refine(D0 _ _ _ _).mono ?_;rw[uz.out];refine' zN))
 obtain k:=_;exact k):p:=h
theorem ZHn(h:p:=by show _=_;unfold nOk;rw[aO (show¬d.size≤17 by omega)];simp):p:=h
theorem ZEx(h:p:=by
 ((with_reducible refine(H1.out _).mono ?_);refine' ZP)
 obtain k:=_;exact k):p:=h
theorem zV(h:p:=by
 refine' ZC;go_ret3
 obtain k:=_;exact k):p:=h
theorem ZM6(h:p:=by rw[aH h,cQ,cD,gC,G5];intro e;have:=aT List.length e;rw[bF,bH,cK]at this;omega):p:=h
theorem ZCZ(h:p:=by rw[HO.out,jp.out]):p:=h
theorem ZSg(h:p:=by refine' ZGa;exact⟨.slice none 0 0,ZF1,by rw[HR.out];exact(own.nil_ _ 9 0).rd,Ai (Ai (Ai lK.out (aD _) _) (aD _) _) (aD _) _,.inl rfl⟩):p:=h
theorem ZPh(h:p:=by have:=HG.out;rw[bA ZA]at this;exact this):p:=h
theorem ZLh(h:p:=by have HU:=aA hu;clear hu;generalize j3:(xss.take k).flatten=zs at *;have tp:=aA j3;clear j3;have df:=aA ho;obtain⟨A3,m3,c3,rfl,tQ,_,_,_⟩:=ho.rd;subst tQ;clear ho;obtain k:=_;exact k):p:=h
theorem ZRT(h:p:=by
 unfold Sort.HoldsK;intro t ht;rw[Sort.size_flatK]at ht;have KH:t<xs.length*2:=by simpa using ht
 have ab:t/2<xs.length:=ZA
 refine⟨?_,by rw[bW];exact h.freeAt _⟩;obtain k:=_;exact k):p:=h
theorem ZD7(h:p:=by have HF:=aA (duo.set8 (AcR q9.out k1));exact ZGB):p:=h
theorem ZGn(h:p:=by obtain⟨A,n,c,rfl,rZ,hc,hm,hr⟩:=hv;subst rZ;unfold maxLen at hm;refine' ZA7;obtain k:=_;exact k):p:=h
theorem ZVB(h:p:=by rw[hG.out,H1.out,H2.out];rfl):p:=h
theorem ZKS(h:p:=by rw[HR.out,jp.out];exact ze):p:=h
theorem ZFf(h:p:=by
 go_wp2
 go_quiet (first|(go_at_call 255;refine Da (CB.out _)))
 go_wp2
 obtain k:=_;exact k):p:=h
theorem ZDH(h:p:=by
 have HE:=aA (show k=xss.length by omega)
 obtain k:=_;exact k):p:=h
theorem ZNI(h:p:=by
 go_region_held3 (fun W=>Below w2.heap.size w2 W) (first|exact ld|exact l3|fail) (first|(go_at_call 28;(with_reducible refine(rW.out _).mono ?_);refine' zH;have l3:=Aa ld b3)|fail)
 obtain k:=_;exact k):p:=h
theorem ZMi(h:p:=by simp only[aN]at this;refine⟨this.1.1,this.1.2,fun j hj=>?_⟩;have hh:=List.all_eq_true.1 this.2 fs[j] ZCF;simp only[fI]at hh;exact F6.1 hh):p:=h
theorem YW(h:p:=by rintro e u1 ⟨rfl,z1⟩;obtain k:=_;exact k):p:=h
theorem ZDr(h:p:=by obtain⟨k,hk,rfl,rfl,lr⟩:=hrel;obtain k:=_;exact k):p:=h
theorem ZS0(h:p:=by
 try refine' ZUd
 refine Bh (i:=3) (v:=?zv3) rfl rfl ZB ZB ZB ZB (fun _ _ _ h=>h) (aZ ⟨ZG,?zy3⟩) ZL ?zr3
 case zy3=> exact ZM
 obtain k:=_;exact k):p:=h
theorem ZCi(h:p:=by
 have bc:(k:Int)<(net.length:Int):=ZA
 obtain k:=_;exact k):p:=h
theorem ZEO(h:p:=by refine(Cn _ xs _ (HB.out.on l1)).mono ?_;refine' zK;have l2:=Aa l1 b2;obtain k:=_;exact k):p:=h
theorem ZLH(h:p:=by
 obtain⟨f,kA⟩:∃f:Ltr→Int,Hid (f=fun x=>Ej ms x (Dm p x.code k0)):=⟨_,rfl⟩;rw[←kA.out];have jY:Hid (∀x,f x=Ej ms x (Dm p x.code k0)):=fun x=>by rw[kA.out]
 rw[rE.out];obtain k:=_;exact k):p:=h
theorem ZDK(h:p:=by obtain⟨i0,hi,ah,aw,aq⟩:=eA Tryz.infoLtr;obtain k:=_;exact k):p:=h
theorem ZDs(h:p:=by obtain⟨i0,hi,ah,aw,aq⟩:=eA Tryz.infoInt;obtain k:=_;exact k):p:=h
theorem ZF6(h:p:=by rw[HN.out];exact aT aK lv.out):p:=h
theorem ZAT(h:p:=by rw[ho]at this;exact this):p:=h
theorem ZGm(h:p:=by have lV:=aA (Ho (br.out.below ((aF _ _).alloc (aD _) _)) fk.out ap);obtain k:=_;exact k):p:=h
theorem zZ(h:p:=by have HO:=aA ho;obtain k:=_;exact k):p:=h
theorem ZBt(h:p:=by obtain⟨A,n,cp,rfl,hn,hc,nD,hr⟩:=hb;obtain k:=_;exact k):p:=h
theorem ZQh(h:p:=by refine⟨.tuple #[.slice none 0 0,.bool false],ZQk,_,by rw[jp.out],by rw[HR.out,jp.out];exact⟨[],isN.none_ (own.nil_ _ _ _)⟩,mT⟩):p:=h
theorem ZJI(h:p:=by
 have cm:(Bg.toList==[102,111,114,119,97,114,100,115])=true:=ZD
 generalize Bg=wd at *;obtain k:=_;exact k):p:=h
theorem ZJ6(h:p:=by
 rcases h2 with⟨h2,_⟩|⟨g',cap,bu,hv,hg,hh,hc,hm,hs,ht⟩
 ·injection h2 with h2
  cases h2
 obtain k:=_;exact k):p:=h
theorem ZPd(h:p:=by
 go_roundw
 case rel=>exact⟨k+1,m,ZA,ZJ,ZJ,GI,ZPe,l7,by rw[fe.out];exact oq.out⟩
 case measure=>exact ZK):p:=h
theorem ZHo(h:p:=by
 refine' ZE0;go_wp2_with (go_at_call 220;refine' ZDd)
 go_ret2;exact ZV):p:=h
theorem ZLU(h:p:=by
 have xI:¬q=0:=ZA
 have bt:¬p.bins=0:=ZA
 have d0:0≤r/q:=Int.ediv_nonneg f9 ZA;have d1:r/q≤1000:=by have:=Int.ediv_le_self q f9;omega
 go_wp2
 obtain k:=_;exact k):p:=h
theorem ZK9(h:p:=by
 obtain⟨BP,ve⟩:Hid (D9 f K (ws.take (q+1))=L)∧Hid (Bn f (ws.take (q+1))=rs++[x]):=⟨(iv.out.1 (by rw[aj.out];exact az)).1,(iv.out.1 (by rw[aj.out];exact az)).2⟩
 obtain k:=_;exact k):p:=h
theorem ZKZ(h:p:=by
 obtain⟨m,hm,rfl,rM,HA⟩:=hrel;have BW:=rM.size;have qE:=x9.size;have TK:w1.heap.size<wr.heap.size:=ZA
 have nf:Below w.heap.size w wr:=x9.trans (rM.mono qE);obtain k:=_;exact k):p:=h
theorem ZNe(h:p:=by
 refine' ZC;go_loop[3,4] (fun t i=>∃k:Nat,k≤s.size∧i=.int .i64 k∧t=.int .i64 (Fe (s.data.toList.take k):Int)) (fun _ i=>s.size - (intOf i).toNat)
 case atStart=>exact ZCV
 obtain k:=_;exact k):p:=h
theorem ZNm(h:p:=by
 refine' ZC;go_loop[3,4] (fun t i=>∃k:Nat,k≤s.size∧i=.int .i64 k∧t=.int .i64 (F8 (s.data.toList.take k):Int)) (fun _ i=>s.size - (intOf i).toNat)
 case atStart=>exact ZCV
 obtain k:=_;exact k):p:=h
theorem ZLW(h:p:=by
 have l2:Below w.heap.size w w2:=lr.trans (Ay df.out sn lr.size);go_roundw
 case rel=>exact⟨k+1,ZA,ZJ,l2,by rw[HS.out];exact kG⟩
 case measure=>exact ZK):p:=h
theorem ZMu(h:p:=by have y0:=Af ie 0 (.string x.src) rfl;have y1:=Af ie 1 (.string x.dst) rfl;refine' ZDv;have im:=aA (ev.out.on lo);have lR:=aA ie;clear ie;obtain k:=_;exact k):p:=h
theorem ZCC(h:p:=by
 rw[bX ZA]
 obtain k:=_;exact k):p:=h
theorem ZEh(h:p:=by obtain⟨j,hj,rfl⟩:=bO hx;obtain k:=_;exact k):p:=h
theorem ZCL(h:p:=by
 have HE:=aA (show k=fs.length by omega)
 obtain k:=_;exact k):p:=h
theorem ZQe(h:p:=by
 go_region_held3 (fun W=>Below w.heap.size w W) (first|exact ld|exact l3|fail) (first|(go_at_call 88;(with_reducible refine(HC.out _ ld).mono ?_);rintro e w3 ⟨rfl,l3⟩)|fail)
 obtain k:=_;exact k):p:=h
theorem ZF4(h:p:=by intro x hx;simp only[List.mem_cons,List.not_mem_nil,or_false]at hx;obtain k:=_;exact k):p:=h
theorem ZEd(h:p:=by have eu:=aA (iq.out hf);have ff:=aA (gm.out hf);obtain k:=_;exact k):p:=h
theorem ZIF(h:p:=by refine⟨?_,cU _ _⟩;simpa [World.setCells]using h):p:=h
theorem zm(h:p:=by
 rw[fQ];go_wp2
 obtain k:=_;exact k):p:=h
theorem ZNW(h:p:=by
 have HE:=aA (show k=rs.length by omega)
 have HO:=aA ((HE.out▸hf:Ck _ _ _ _ rs.length _).own cg.out.symm (aD _) ZN);clear hf;have l2:=Aa l1 au;obtain k:=_;exact k):p:=h
theorem ZKG(h:p:=by have ay:=bd.1;have cx:=bd.2;unfold maxLen at ay;clear bd;obtain k:=_;exact k):p:=h
theorem ZOx(h:p:=by rw[bL,bL,aR (show 0<xs.length by omega),aR (show xs.length - 1<xs.length by omega)];obtain k:=_;exact k):p:=h
theorem ZA6(h:p:=by have:=pW.out;omega):p:=h
theorem ZQ5(h:p:=by clear hg;have lA:=S1.out.ld R ZA P pc ZA;have lB:=S1.out.ld R ZA P c ZA;have f8:=S1.out.cmp HC.out ZA d[pc]! d[c]!;obtain k:=_;exact k):p:=h
theorem ZMx(h:p:=by
 go_roundw
 case rel=>
  refine⟨k+1,ZA,ZJ,l3,fun j hj=>?_⟩;refine' ZBe
  ·refine' ZAE;rw[hG.out,H1.out,H2.out,xT.out,HD.out];rfl
 case measure=>exact ZK):p:=h
theorem ZN3(h:p:=by
 go_enter Tryz.func72,Tryz.ntmps72;go_wp2
 go_quiet (first|(go_at_call 169;refine Da (DY.out _))|(go_at_call 167;refine Da (JI.out _))|(go_at_call 170;refine Da (SR.out _)))
 obtain k:=_;exact k):p:=h
theorem ZQ0(h:p:=by clear hg;have lA:=S1.out.ld R ZA P h ZA;have lB:=S1.out.ld R ZA P a ZA;have f8:=S1.out.cmp HC.out ZA d[h]! d[a]!;obtain k:=_;exact k):p:=h
theorem ZS1(h:p:=by
 refine' ZU;refine Bh (i:=6) (v:=?zv5) rfl rfl ZB ZB ZB ZB (fun _ _ _ h=>h) (aZ ⟨ZG,?zy5⟩) ZL ?zr5
 case zy5=> exact ZM
 obtain k:=_;exact k):p:=h
theorem ZO(h:p:=by go_wp2;go_ret;obtain k:=_;exact k):p:=h
theorem ZRs(h:p:=by
 have pw:=Oy p xs k;have sN:=aA pw;have HE:Hid (Gs p xs k=(Fz p xs k).map List.length):=rfl;have tO:Hid (Qm p xs k=false→Fz p xs k=[]):=fun h=>by unfold Fz;rw[h];rfl
 obtain k:=_;exact k):p:=h
theorem ZAV(h:p:=by obtain⟨h1,h2,h3,h4,h5⟩:=h;obtain k:=_;exact k):p:=h
theorem ZQ2(h:p:=by clear hg;have lA:=S1.out.ld R ZA P m ZA;have lB:=S1.out.ld R ZA P h ZA;have f8:=S1.out.cmp HC.out ZA d[m]! d[h]!;obtain k:=_;exact k):p:=h
theorem ZKv(h:p:=by refine' ZC;rw[←jM.out];refine(Yb _ p x.code k _ (HP.out.on ll) g1 g2 yy ZA).mono ?_;rw[←jY.out,aj.out];refine' ZU5;have jq:=aA (ql.out.below B4);obtain k:=_;exact k):p:=h
theorem ZOh(h:p:=by
 have P1:=aA p1;clear p1 fq
 refine' ZC;go_roundw
 case rel=>exact⟨k+1,_,ZA,ZJ,p4,by rw[eu.out,←HX.out];exact P1.out⟩
 case measure=>exact ZK):p:=h
theorem ZPk(h:p:=by refine' zQ;clear hv;refine' YF;obtain⟨r,hr⟩:∃r,Gq net s=r:=⟨_,rfl⟩;have bw:=aA (fun h=>Ax6 (net:=net) (s:=s) h);rw[hr]at bw;refine' ZCh;obtain k:=_;exact k):p:=h
theorem ZIn(h:p:=by
 have ne:∀k,k<z→some k≠row:=fun k hk e=>by rcases hr k e.symm with h|⟨h,_⟩<;>omega
 obtain k:=_;exact k):p:=h
theorem ZIw(h:p:=by
 (try simp only[Exit.inBlock,Exit.then])
 refine bodyPost_ret (results_none rfl _ _ _) rfl ?_;obtain k:=_;exact k):p:=h
theorem ZRR(h:p:=by rw[show(k+1)*2=k*2+1+1 by omega];simp only[jA,Ltr.cells,Fwd.cells,dB,bV,World.setCells]):p:=h
theorem ZJA(h:p:=by
 have cm:(Bt.toList==[102,111,114,119,97,114,100])=true:=ZD
 generalize Bt=wd at *;obtain k:=_;exact k):p:=h
theorem ZID(h:p:=by
 have hj:j=0:=by
  cases j with
  |zero=>rfl
  |succ j=>simp at hu
 subst hj;simp at hu;subst hu;obtain k:=_;exact k):p:=h
theorem ZCX(h:p:=by rw[decide_eq_decide];omega):p:=h
theorem ZEK(h:p:=by
 have ut:m=k:=ZA
 have HE:=aA ut;clear ut;go_wp2
 obtain k:=_;exact k):p:=h
theorem ZPY(h:p:=by
 have hp6:=Ak2 HK.out jb
 have cg:=aA jb;clear jb;obtain⟨g,rfl⟩:∃g,f=g+1:=⟨f - 1,ZA⟩;have dm:g+1≤7:=ZA
 have DG:=aA (AsT dm);obtain k:=_;exact k):p:=h
theorem ZJx(h:p:=by
 refine' ZC3;clear k0 ao k3 hr e0 e1 e2 e3 e4 e5 e6 e7 f0 f1 f2 f3 f4 f5 f6 f7
 refine' ZED;obtain k:=_;exact k):p:=h
theorem ZMz(h:p:=by obtain⟨A,n,c,e1,e2,e3,e4,ce⟩:=hh;injection e1 with e1 JO ux;subst e1 JO ux;have HR:=aA ce;clear hp ho hf hv im ce e2;refine' zX;clear ac;refine' ZAH;obtain k:=_;exact k):p:=h
theorem ZBD(h:p:=by show _=_;exact ZQF):p:=h
theorem ZUW(h:p:=by rw[←Nat.succ_mul];exact iK _ ZA):p:=h
theorem ZAl(h:p:=by rw[aN]at h;obtain k:=_;exact k):p:=h
theorem YX(h:p:=by rintro e u2 ⟨rfl,z2⟩;obtain k:=_;exact k):p:=h
theorem YI(h:p:=by rintro e u3 ⟨rfl,z3⟩;obtain k:=_;exact k):p:=h
theorem ZD5(h:p:=by obtain⟨Av,m,cp,rfl,ly,_,_,_⟩:=ho.rd;subst ly;obtain k:=_;exact k):p:=h
theorem ZIW(h:p:=by rw[aJ ZA,aJ ZA];rfl):p:=h
theorem ZQy(h:p:=by
 go_wp2_with (go_at_call 368;refine H.out.mono ?_;rintro e w1 ⟨rfl,d1,q1,s1⟩)
 have tt:d1.size=d.size:=q1.1.trans kN;have S2:Aside (SWK enc k w0 blk av d1 w1):=s1;obtain k:=_;exact k):p:=h
theorem ZTA(h:p:=by obtain⟨_,_,_,_,_,_,_,_,hr⟩:=h.res;have h8:=Cj (a:=x0) (b:=x1) (c:=x2) (d:=x3) (e:=x4) (f:=x5) (h:=x6) (i:=x7) hr;have hl:w.heap.size≤w.heap.size+1:=fG _;obtain k:=_;exact k):p:=h
theorem ZQn(h:p:=by obtain⟨A,n,c,rfl,hn,yP,bd,_⟩:=hp.rd;have iy:=pG.out.below b1;have uh:Below w.heap.size w w1:=LA.out.trans (b1.mono LA.out.size);have ic:=kV.out;clear kV b1;obtain k:=_;exact k):p:=h
theorem ZNi(h:p:=by
 have iz:Hid (∀W:World,Calls aB 231 #[.string c] W fun e w'=>e=.returned (.bool true)∧W=w'):=fun W=>by have:=Cw c W ZN;exact ZBI
 obtain k:=_;exact k):p:=h
theorem ZDg(h:p:=by show _=_;rw[vi.out,HO.out];rfl):p:=h
theorem ZL4(h:p:=by have lV:=aA ((br.out.below ((aF _ _).alloc (aD _) (aC #[bC aI x.id,aK x.code] 119))).grown ap (Br et.out));obtain k:=_;exact k):p:=h
theorem YH(h:p:=by refine⟨trivial,?_⟩;obtain k:=_;exact k):p:=h
theorem ZPw(h:p:=by
 have HE:=aA (show m=x.rules.length by omega)
 have UN:Hid (x.rules.all (I0 net)=true):=by have:=HA.out;rw[HE.out,aY]at this;exact this
 refine' ZC;obtain k:=_;exact k):p:=h
theorem ZJB(h:p:=by refine' ZC;refine HR.out.mono ?_;refine' ZT;refine' ZI;exact Bb.of_read HD.out rfl b1):p:=h
theorem ZOY(h:p:=by
 have dj:u2.heap[w.heap.size]? =some (.cells #[.int .i64 0,.int .i64 0,.slice none 0 0] 30 (0,0)):=by rw[qd];exact(dH _ _ _ ZA).trans GG
 obtain k:=_;exact k):p:=h
theorem ZKm(h:p:=by
 clear h1
 refine' zV;exact⟨_,_,[],Bf ZX,(bw.out HF.out _).1,(bw.out HF.out _).2,⟨.inl rfl,fun k h=>absurd h (aX k)⟩,Aa HT.out l1⟩):p:=h
theorem ZR7(h:p:=by
 rcases jL.2 with⟨h0,_⟩|⟨g',cap,bu,hv,UU,hg,yP,bd,ax,yg⟩
 ·cases h0
 injection hv with e1 _ e3;injection e1 with e1;injection e1 with e1;subst e1 e3;obtain k:=_;exact k):p:=h
theorem ZAi(h:p:=by
 intro g cap w4 fj ep kR rF
 obtain k:=_;exact k):p:=h
theorem ZDb(h:p:=by
 obtain⟨b,o,rfl,hb,_,y1,y2⟩:=HR.out.fwdU k ab
 obtain k:=_;exact k):p:=h
theorem ZAv(h:p:=by rintro e u1 ⟨v1,rfl,o1,z1⟩;obtain k:=_;exact k):p:=h
theorem ZSy(h:p:=by
 refine Bh (i:=1) (v:=?zv1) rfl rfl ZB ZB ZB ZB (fun _ _ _ h=>h) (aZ ⟨ZG,?zy1⟩) ZL ?zr1
 case zy1=> exact ZM
 obtain k:=_;exact k):p:=h
theorem ZN6(h:p:=by
 have ah:(w.alloc (aC #[bC aI p.bins,bC aI p.passes,Value.slice Ao p.order.length mF] 30)).heap.size=w.heap.size+1:=ZE
 obtain k:=_;exact k):p:=h
theorem ZEw(h:p:=by
 have LN:IntKind.wrap .u8 (48+(d:Int))=48+(d:Int):=ZCR
 obtain k:=_;exact k):p:=h
theorem ZNy(h:p:=by
 ·have HE:Hid (rkI xs c= -1):=by have e:=AeN (cs:=xs) (c:=c) (fun j hj=>HG.out j hj ZA);exact AaV ZA
  exact ZDf):p:=h
theorem zg(h:p:=by
 have it:=aA he
 obtain k:=_;exact k):p:=h
theorem ZAm(h:p:=by rintro e w2 ⟨v2,rfl,o2,b2⟩;obtain k:=_;exact k):p:=h
theorem ZOg(h:p:=by obtain⟨p1,_,_⟩:=Eh (o:=.slice none 0 0) (rest:=([]:List Ltr)) dz.out (own.nil_ _ _ _) ⟨.inl rfl,fun k hk=>.inl rfl⟩ fq ey lC HU.out rG.out fj ep kR;obtain k:=_;exact k):p:=h
theorem ZUw(h:p:=by
 have l5:Below w0.heap.size w0 w5:=(Ae l4 (aC #[bC aI x.id,aK x.code] 119)).grown ap ZH fun q hq=>(jq.out.blk q hq).1
 obtain k:=_;exact k):p:=h
theorem ZJG(h:p:=by obtain⟨AL,nL,cL,rfl, -, -, -, -⟩:=hL.rd;obtain⟨AO,nO,cO,rfl, -, -, -, -⟩:=hO.rd;obtain k:=_;exact k):p:=h
theorem ZQS(h:p:=by unfold Aj;rw[gX,show(((fun x:ByteArray=>x.data.toList) ∘ fun l:List UInt8=>(⟨l.toArray⟩:ByteArray))=id)from funext fun l=>ZE,List.map_id];obtain k:=_;exact k):p:=h
theorem ZHO(h:p:=by
 have ld:=Ag lb;have hkc:k≤cp:=ZA
 have GZ:(k:Int)≤(cp:Int):=ZA
 obtain k:=_;exact k):p:=h
theorem ZIe(h:p:=by
 clear ci ob kj;have kV:=aA (Rj 32 t);have HC:=fun W=>I9 t 32 W ht
 refine' ZC;obtain k:=_;exact k):p:=h
theorem ZUx(h:p:=by
 have oq:=aA kz;clear kz;go_roundw
 case rel=>exact⟨k+1,ZA,ZJ,by rw[yw.out],l7,by rw[fe.out];exact oq.out⟩
 case measure=>exact ZK):p:=h
theorem ZSE(h:p:=by have:=Dz h.plan;have h2:=h.size;unfold Fp at h2;rw[aN,bB,bB]at h2;exact zL):p:=h
theorem ZOi(h:p:=by
 go_wp2_with (go_at_call 200;refine(qK _).mono ?_;refine' zN)
 go_ret;exact⟨rfl,0,_,by rw[Go.Sort.alloc_eq_grow,Go.Sort.alloc_eq_grow,Go.Sort.grow_grow];rfl⟩):p:=h
theorem ZHH(h:p:=by ·refine' zS;refine' ZI;exact⟨Al (am.out (by rw[hG.out,H1.out];rfl)).symm,rfl⟩):p:=h
theorem ZAO(h:p:=by refine eS 1 ?_;obtain k:=_;exact k):p:=h
theorem ZSV(h:p:=by
 go_wp2_with (first|(go_at_call 183;refine(xc.out _ lr).mono ?_;rintro e w4 ⟨rfl,l4⟩)|(go_at_call 28;refine(TV.out _ l4).mono ?_;rintro e w5 ⟨rfl,l5⟩))
 obtain k:=_;exact k):p:=h
theorem ZE2(h:p:=by
 refine(callsIn_wide (n:=9)).1 ?_;have PL:1≤9:=ZA
 obtain k:=_;exact k):p:=h
theorem ZGf(h:p:=by
 have oU:(y.id==x.id)=false:=by simpa using kg
 have HY:=aA kg;clear kg;go_wp2
 obtain k:=_;exact k):p:=h
theorem ZL5(h:p:=by have ny:=aA ((iw.out.below ((aF _ _).alloc (aD _) (aC #[bC aI x.id,aK x.code] 119))).grown ap et.out);obtain k:=_;exact k):p:=h
theorem ZOU(h:p:=by have bt:=(b1.block w.heap.size ZA).trans mz;have lJ:Below w.heap.size w w1:=GD.trans (b1.mono ZA);have aw:=b1.size;clear mz GD b1;obtain k:=_;exact k):p:=h
theorem ZMb(h:p:=by
 have P1:=aA p1;clear p1 fq;go_wp2
 go_roundw
 case rel=>exact⟨k'+1+1,_,ZA,ZJ,p4,by rw[fe.out];exact P1.out⟩
 case measure=>exact ZK):p:=h
theorem ZPZ(h:p:=by have vr:=aA (AgY net s (g+1) p k);obtain⟨zs,fx⟩:∃zs,AbI net s (g+1) p k=zs:=⟨_,rfl⟩;rw[fx]at ho vr;have HZ:=aA fx;clear fx;refine' zZ;obtain k:=_;exact k):p:=h
theorem ZGi(h:p:=by rw[bX ZA,bX ZA];obtain k:=_;exact k):p:=h
theorem ZEk(h:p:=by simp[List.intercalate,List.intersperse]):p:=h
theorem ZHj(h:p:=by have w2:aI.wrap (b.toNat:Int)=(b.toNat:Int):=bI _ ZA;obtain k:=_;exact k):p:=h
theorem ZDc(h:p:=by refine' ZC;rw[←HW.out];refine lH.out.mono ?_;obtain k:=_;exact k):p:=h
theorem ZNB(h:p:=by
 refine' ZC;rw[←bp.out];have ld:=Ag (aF wb.heap.size wb);have kW:wb.heap.size=w2.heap.size+1:=by rw[bp.out];simp
 have e0:=q0 _ ld;have e1:=q1 _ ld;obtain k:=_;exact k):p:=h
theorem ZBF(h:p:=by have HD:=aA (fun W=>I1 P W);obtain k:=_;exact k):p:=h
theorem ZLf(h:p:=by
 refine' ZCD;have HS:Hid ((xss.take (k+1)).flatten=(xss.take k).flatten++xss[k]):=by show _=_;rw[aH ab,bT];simp
 obtain k:=_;exact k):p:=h
theorem ZEZ(h:p:=by rw[aH h,jB];rfl):p:=h
theorem ZEG(h:p:=by rw[hd,fC]at ku;have HS:=aA ku;clear ku hd;obtain k:=_;exact k):p:=h
theorem ZFY(h:p:=by simpa [El.size]using hc 0 _ rfl):p:=h
theorem ZPD(h:p:=by
 go_wp2
 go_roundw
 case rel=>exact⟨m+1,ZA,ZJ,Cx li _,by rw[HE.out];exact ql.out.below (Ba (aF _ _) _)⟩
 case measure=>exact ZK):p:=h
theorem ZIb(h:p:=by refine' ZE3;go_wp2;go_ret2;exact⟨_,G9 HO.out,by rw[HR.out];exact pG.out,LA.out⟩):p:=h
theorem ZJa(h:p:=by
 refine' ZSw;have il:=aA na;have L1:=aA l1;clear bt na l1 lB b1 mz rg
 obtain k:=_;exact k):p:=h
theorem ZNY(h:p:=by have HB:Hid (Below w.heap.size w (w.alloc (aC #[.int .i64 p.area,.int .i64 p.walk,.int .i64 p.point] 147))):=(aF _ _).alloc (aD _) _;obtain k:=_;exact k):p:=h
theorem ZSl(h:p:=by
 go_enter Tryz.func96,Tryz.ntmps96
 go_wp2_with (first|(go_at_call 162;refine MF.out.mono ?_;refine' ZP)|(go_at_call 77;refine qA.out.mono ?_;refine' ZP))
 obtain k:=_;exact k):p:=h
theorem ZDF(h:p:=by
 have bc:(k:Int)<(xss.length:Int):=ZA
 obtain k:=_;exact k):p:=h
theorem ZS2(h:p:=by
 refine Bh (i:=7) (v:=?zv6) rfl rfl ZB ZB ZB ZB (fun _ _ _ h=>h) (aZ ⟨ZG,?zy6⟩) ZL ?zr6
 case zy6=> exact ZM
 obtain k:=_;exact k):p:=h
theorem ZA7(h:p:=by refine' ZAI;clear hr;obtain k:=_;exact k):p:=h
theorem ZEj(h:p:=by
 obtain⟨b,o,rfl,hb,⟨mc,me⟩,c1,c2⟩:=HR.out.fwdU k ab
 obtain k:=_;exact k):p:=h
theorem ZIc(h:p:=by
 refine' ZE4;have ob:sEq t ⟨#[45]⟩=false:=by rw[eY]at ci;exact ci
 obtain k:=_;exact k):p:=h
theorem ZA4(h:p:=by
 have gj:=aA oe;clear oe
 obtain k:=_;exact k):p:=h
theorem ZEU(h:p:=by obtain⟨AO,mO,cO,rfl,oT,_,_,_⟩:=hO.rd;subst oT;clear hO;obtain k:=_;exact k):p:=h
theorem ZAf(h:p:=by exact Ae (aF _ _) _):p:=h
theorem ZKN(h:p:=by refine' ZC;refine Rr rfl rfl (Rg E2.out) Tryz.underlying78 rfl Tryz.sizeRpt rfl ?_;obtain k:=_;exact k):p:=h
theorem ZSd(h:p:=by
 refine' ZAW;have fg:=aA (o3.base_ gi.out.size);have j7:=aA (Aa gi.out b3);obtain⟨A3,n3,c3,rfl, -, -, -, -⟩:=o3.rd;clear o3 b3
 refine' ZQ;obtain k:=_;exact k):p:=h
theorem ZAX(h:p:=by
 rintro e w4 ⟨rfl,b4⟩
 obtain k:=_;exact k):p:=h
theorem ZA8(h:p:=by show _≤_;omega):p:=h
theorem ZQG(h:p:=by
 go_wp2
 go_loop[3] (fun i=>∃k:Nat,k≤s.size∧i=.int .i64 k∧AaA (s.data.toList.take k)=true) (fun i=>s.size - (intOf i).toNat)
 case atStart=>exact ZCV
 obtain k:=_;exact k):p:=h
theorem ZEY(h:p:=by show _=_;rw[HQ.out,h2,Bool.and_false]):p:=h
theorem ZKU(h:p:=by
 go_wp2
 go_loop[3] (fun i=>∃k:Nat,k≤s.size∧i=.int .i64 k∧Ea (s.data.toList.take k)=true) (fun i=>s.size - (intOf i).toNat)
 case atStart=>exact ZCV
 obtain k:=_;exact k):p:=h
theorem ZVC(h:p:=by show _=_;rw[HS.out,HG.out,HP.out];rfl):p:=h
theorem ZP9(h:p:=by generalize net[i]=x at *;have HU:=aA hu;clear hu;obtain⟨N,hN⟩:∃N,Iv x.rules c=N:=⟨_,rfl⟩;obtain⟨S,hS⟩:∃S,Gw x.rules c=S:=⟨_,rfl⟩;obtain k:=_;exact k):p:=h
theorem ZSj(h:p:=by have l7:Below w.heap.size w w7:=(lr.alloc lr.size (aC #[.string s] 9)).grown dm ZH fun r e=>(HO.out.blk r e).1;have oq:=aA kz;obtain k:=_;exact k):p:=h
theorem ZMr(h:p:=by unfold Ee;rw[eH];exact .inr (List.all_eq_false.2 ⟨xs[k],aU _,by simp[h]⟩)):p:=h
theorem ZRe(h:p:=by refine' ZAo;obtain⟨wl,cz⟩:∃wl:World,wl=w3.alloc (aC #[.string x.src,.string x.dst] 128):=⟨_,rfl⟩;have y0:=Af cz 0 (.string x.src) rfl;obtain k:=_;exact k):p:=h
theorem ZR3(h:p:=by
 have ca:(Mf.toList==[108,101,116,116,101,114,115])=false:=ZD
 have cm:(Mf.toList==[115,111,114,116])=true:=ZD
 generalize Mf=wd at *;obtain k:=_;exact k):p:=h
theorem ZP0(h:p:=by refine' ZDr;refine' zR;clear l0;have BR:=Hm rs c k;obtain⟨q,hq⟩:∃q,Ie rs c k=q:=⟨_,rfl⟩;rw[hq]at BR;have HQ:=aA hq;rw[HQ.out];clear hq;obtain k:=_;exact k):p:=h
theorem ZAk(h:p:=by rw[bG];obtain k:=_;exact k):p:=h
theorem ZCK(h:p:=by rw[aR hk]):p:=h
theorem ZBR(h:p:=by simp only[aN]at h;obtain k:=_;exact k):p:=h
theorem ZH5(h:p:=by obtain⟨a0,a1,a2,e0,e1,e2⟩:=B7 k6;have kh:=aA k6;have lK:=aA wC;obtain k:=_;exact k):p:=h
theorem ZPG(h:p:=by
 rcases h1.form with⟨a,b⟩|⟨g,c,a,b⟩
 ·subst b
  exact .inl ⟨a,bQ h2.symm⟩
 ·rw[h2]at a b
  exact .inr ⟨g,c,a,b⟩):p:=h
theorem ZRY(h:p:=by
 have bw:Hid (∀h:Re f xs=false,Kw f xs=[]∧Ts f xs=[]):=fun h=>by unfold Kw Ts;rw[h];exact ZV
 have HQ:Hid (Re f xs=(okB xs&&Jr f)):=rfl;refine' zv;obtain k:=_;exact k):p:=h
theorem ZQV(h:p:=by
 unfold Ek at m
 rw[B6,B6,eC,eC]at m;rcases m with(m|m)|m
 ·have:=a1 _ m
  simp at this
 ·simp at m
 ·have:=a2 _ m
  simp at this):p:=h
theorem ZLN(h:p:=by show _=_;rw[HQ.out,show decide (k<p.passes)=decide (k≤p.passes - 1) by exact ZCX,h2,H1.out.1,H1.out.2];rfl):p:=h
theorem ZFg(h:p:=by first|exact jT.out|(have h:=jT.out;rw[xi]at h;exact h)):p:=h
theorem ZFq(h:p:=by have t22:P.underlying 27=some (TypeDesc.slice 119):=L.t22;obtain k:=_;exact k):p:=h
theorem ZJ9(h:p:=by refine' ZQ;exact⟨_,As5 (by rw[HF.out]),ZIV,Ae l0 _⟩):p:=h
theorem ZJJ(h:p:=by
 have cm:(Dk.toList==[115,105,122,101])=true:=ZD
 generalize Dk=wd at *;obtain k:=_;exact k):p:=h
theorem ZGx(h:p:=by ·refine' zS;refine' ZI;exact⟨Al (by rw[HQ.out,H1.out];rfl),Aa HT.out l1⟩):p:=h
theorem ZDy(h:p:=by
 have HE:=aA (show k=net.length by omega)
 obtain k:=_;exact k):p:=h
theorem ZHf(h:p:=by
 have cm:(He.toList==[99,111,100,101])=true:=ZD
 generalize He=wd at *;obtain k:=_;exact k):p:=h
theorem ZI9(h:p:=by
 have cm:(C4.toList==[115,116,97,121])=true:=ZD
 generalize C4=wd at *;obtain k:=_;exact k):p:=h
theorem ZJE(h:p:=by
 have cm:(C0.toList==[115,119,97,112])=true:=ZD
 generalize C0=wd at *;obtain k:=_;exact k):p:=h
theorem ZGC(h:p:=by show w.heap.size<wB.heap.size;omega):p:=h
theorem ZJv(h:p:=by
 have cm:(Fl.toList==[112,97,116,104])=true:=ZD
 generalize Fl=wd at *;obtain k:=_;exact k):p:=h
theorem ZU(h:p:=by
 try refine' ZUd
 obtain k:=_;exact k):p:=h
theorem ZFF(h:p:=by ·exact(oW _ ZA ZA).trans gc.out):p:=h
theorem ZDB(h:p:=by obtain⟨k,rfl⟩:=aQ mH;obtain k:=_;exact k):p:=h
theorem ZAG(h:p:=by rintro e w4 ⟨rfl,rfl⟩;obtain k:=_;exact k):p:=h
theorem ZCM(h:p:=by obtain⟨x,hx,rfl⟩:=List.mem_map.1 hp;obtain k:=_;exact k):p:=h
theorem ZAN(h:p:=by have ee:=aA ag;obtain k:=_;exact k):p:=h
theorem ZT3(h:p:=by
 have e1:=q1 _ kU;have e2:=q2 _ kU;have e3:=q3 _ kU;have f1:=kU.frozenS 1;have f2:=kU.frozenS 2;have f3:=kU.frozenS 3;obtain⟨d0,d1,d2,_,_,_⟩:=B7 kH
 obtain k:=_;exact k):p:=h
theorem ZFO(h:p:=by have k6:=(b3.block w.heap.size ZA).trans dj;obtain k:=_;exact k):p:=h
theorem ZDE(h:p:=by have mq:w0.heap.size≤w4.heap.size:=l4.size;obtain k:=_;exact k):p:=h
theorem ZDP(h:p:=by injection hv with e1 _ _;subst e1;refine' ZAr;obtain k:=_;exact k):p:=h
theorem ZNL(h:p:=by
 by_cases gx:k=0
 ·subst gx
  rw[Y9 h0];exact hp 0 h0
 ·rw[V7 ZA ZA,bG]
  have:=hp k ZA;omega):p:=h
theorem ZL2(h:p:=by
 refine' ZC;go_roundw
 case rel=>exact⟨j+1,ZA,ZJ,by first|(rw[HG.out])|trivial,by first|rfl|trivial⟩
 case measure=>exact ZK):p:=h
theorem ZFG(h:p:=by exact(oW _ ZA ZA).trans gd.out):p:=h
theorem ZHe(h:p:=by unfold Ap at hc;rw[aN]at hc;exact hc.2):p:=h
theorem ZFI(h:p:=by refine' ZE8;have c2:=hv.cell;clear cw bn ho hv y0 y1;obtain k:=_;exact k):p:=h
theorem ZSI(h:p:=by have:bs=45:=UInt8.toNat_inj.1 (by show bs.toNat=45;omega);rw[this]at qV;exact absurd qV ZF):p:=h
theorem ZSD(h:p:=by
 rw[bR];cases hb:a.data.toList==b.data.toList
 ·rfl
 ·exact absurd (Cv (eq_of_beq hb)) h):p:=h
theorem ZMR(h:p:=by obtain⟨z1,z2,z3,z4,z5⟩:=jy.out;exact⟨ZA,z3 d ZA ir,z5 d ZA⟩):p:=h
theorem ZHh(h:p:=by
 have cm:(Gn.toList==[98,97,114,115])=true:=ZD
 generalize Gn=wd at *;obtain k:=_;exact k):p:=h
theorem ZGe(h:p:=by
 have oU:(y.id==x.id)=true:=by simpa using kg
 have HY:=aA kg;clear kg;obtain k:=_;exact k):p:=h
theorem ZIm(h:p:=by have:=aT List.length e;rw[bH,cK]at this;omega):p:=h
theorem ZPT(h:p:=by
 have t6:¬(p.size:Int)<(x.src.size:Int):=ZA
 have HP:Hid (Iz p x=false):=by show _=_;rw[uR.out,aO bn];rfl
 refine' ZC;obtain k:=_;exact k):p:=h
theorem ZTx(h:p:=by
 have:=(Uf _ s.day.plan (Am a) (Am b) W (om.on hW)).mono fun e w' h=>h.out
 rw[xl,ho]at this;exact this):p:=h
theorem ZB0(h:p:=by subst uD;go_simp):p:=h
theorem ZDR(h:p:=by have mq:w.heap.size≤w4.heap.size:=l4.size;obtain k:=_;exact k):p:=h
theorem ZHi(h:p:=by
 ((with_reducible refine(H2.out _).mono ?_);refine' ZP)
 obtain k:=_;exact k):p:=h
theorem ZB3(h:p:=by
 go_enter Tryz.func89,Tryz.ntmps89
 obtain k:=_;exact k):p:=h
theorem ZSi(h:p:=by exact⟨_,_,Bf ZX,by rw[(bw.out HF.out).1];exact O1.out,by rw[(bw.out HF.out).2];simpa using O2.out,Aa HT.out (Ae (Ae l1 _) _)⟩):p:=h
theorem ZUA(h:p:=by
 have er:=k1.drew
 refine' ZUH;all_goals
  refine' ZC3;clear k1 er k3 hr e0 e1 e2 e3 e4 e5 e6 e7 f0 f1 f2 f3 f4 f5 f6 f7
  refine' ZED;exact ZB8):p:=h
theorem ZHx(h:p:=by exact Bd o5 ⟨w.heap.size+1+1,0,none⟩ _ (by show w.heap.size+1+1<_;omega)):p:=h
theorem ZHL(h:p:=by refine' ZO;exact⟨Al (am.out (by rw[hG.out,H1.out];rfl)).symm,Ba lo _⟩):p:=h
theorem ZJh(h:p:=by
 have cm:(Es.toList==[110,101,116])=true:=ZD
 generalize Es=wd at *;obtain k:=_;exact k):p:=h
theorem ZG4(h:p:=by show _=_;rw[HQ.out,h2,H1.out];rfl):p:=h
theorem ZL7(h:p:=by refine' zV;rw[HE.out,aY]at hA hB;exact⟨_,_,Bf ZX,by rw[HY.out.1];exact hA,by rw[HY.out.2];exact hB,et.out,lr⟩):p:=h
theorem ZCc(h:p:=by first|exact ld):p:=h
theorem ZT0(h:p:=by
 (go_at_call 93;first|((with_reducible refine(sP.out _).mono ?_);refine' ZP)|((with_reducible refine(AQ.out _).mono ?_);refine' ZP)|fail)
 obtain k:=_;exact k):p:=h
theorem ZJk(h:p:=by refine Ax rfl rfl (HF.out.fin rfl) gI rfl Tryz.sizeSt rfl ?_;obtain k:=_;exact k):p:=h
theorem ZRS(h:p:=by rw[e];exact⟨h2,Oh (Gc (p:=⟨g,k*2+1,none⟩) (Gc (p:=⟨g,k*2,none⟩) (cU w (some g)) (.inl rfl) _) (.inl rfl) _) h3⟩):p:=h
theorem ZIJ(h:p:=by unfold Ee at h;rw[aN,bB,dN]at h;obtain k:=_;exact k):p:=h
theorem ZUX(h:p:=by
 by_cases hk:k<xs.length
 ·rw[bN hk,bN ZA]
  exact Flat.free (he k hk ZA)
 obtain k:=_;exact k):p:=h
theorem ZGS(h:p:=by refine Bk (rs:=[9]) ZB ZE ?_;refine' ZA2;obtain k:=_;exact k):p:=h
theorem ZRZ(h:p:=by
 refine' zA;have HF:Hid (Re f xs=true):=ZEP
 have HY:Hid (Kw f xs=AaG f xs∧Ts f xs=Aa1 f xs):=by unfold Kw Ts;rw[HF.out];exact ZV
 clear HB
 obtain k:=_;exact k):p:=h
theorem ZSv(h:p:=by
 go_wp2_with (go_at_call 167;first|((with_reducible refine(dy.out _).mono ?_);refine' ZP)|((with_reducible refine(vI.out _).mono ?_);refine' ZP))
 obtain k:=_;exact k):p:=h
theorem ZK8(h:p:=by
 have uJ:(q:Int)<(ws.length:Int):=ZA
 obtain⟨tC,tD⟩:=FN.out x;obtain⟨r,aj⟩:∃r,Hid (f x=r):=⟨_,rfl⟩;rw[aj.out]at tC tD
 obtain k:=_;exact k):p:=h
theorem ZLx(h:p:=by refine(C6 _ xs _ (HB.out.on lz)).mono ?_;refine' zK;have l2:=Aa lz b2;replace OA:=aA (OA.out.below b2);replace OB:=aA (OB.out.below b2);obtain k:=_;exact k):p:=h
theorem ZLE(h:p:=by
 have KU:Hid (Ew p xs (k:Int) ms=Bm (fun x=>Ej ms x (Dm p x.code k)) p.bins.toNat (Cd p 0 k xs)):=by show _=_;unfold Ew fpF;rw[bE]
 obtain k:=_;exact k):p:=h
theorem YU(h:p:=by generalize fs[k]=x at *;obtain k:=_;exact k):p:=h
theorem ZQC(h:p:=by
 rw[Tl]at kE;have HE:Hid (Ht net c s=Fc net c f (p++[i]) j):=by show _=_;rw[HG.out,AoN xh.out e1]
 have uE:=aA (Py oO.out xh.out hj);obtain k:=_;exact k):p:=h
theorem ZGF(h:p:=by
 go_wp2_with (refine' ZGI)
 have K:=aA k1.lay;go_ret;obtain k:=_;exact k):p:=h
theorem ZNj(h:p:=by
 have g1:(3:Int)≤(c.size:Int):=ZA
 have g2:(5:Int)≤(c.size:Int):=ZA
 refine' ZFs;generalize G0 c=p at *;clear hc h7 ig hx;obtain k:=_;exact k):p:=h
theorem z7(h:p:=by have mJ:=aA be;obtain k:=_;exact k):p:=h
theorem ZKQ(h:p:=by
 have ah:w0.heap.size=w.heap.size+1:=by subst ac;simp
 obtain k:=_;exact k):p:=h
theorem ZPp(h:p:=by
 obtain⟨A2',n2',nU,e2,_,_,jr,kq⟩:=HU.out;injection e2 with UJ UK UL;subst UJ UK UL;have UM:=aA kq;clear kq
 refine' ZC;obtain k:=_;exact k):p:=h
theorem ZVD(h:p:=by show _=_;rw[←eu.out];exact hq):p:=h
theorem ZAq(h:p:=by rintro e w3 ⟨rfl,rfl⟩;obtain k:=_;exact k):p:=h
theorem ZHu(h:p:=by
 (refine' ZBs;have c2:=z2.cell;have o2:=ow.out.below hb;have iu:=hb.size)
 obtain k:=_;exact k):p:=h
theorem ZPF(h:p:=by
 ·go_wp2
  go_roundw
  case rel=>exact⟨k+1,ZA,ZJ,by rw[kS.out];congr 1;omega,li,kM.out⟩
  case measure=>exact ZK):p:=h
theorem ZGp(h:p:=by
 obtain⟨AO,mO,cO,rfl,oT,_,_,_⟩:=hB.1.rd
 subst oT;obtain k:=_;exact k):p:=h
theorem ZEm(h:p:=by have y1:=y1 w2 (Aa l1 au);have y2:=y2 w2 (Aa l1 au);obtain k:=_;exact k):p:=h
theorem ZOz(h:p:=by
 have EC:aI.wrap ((xs.length:Int) - 1)=(m:Int):=ZCU
 have tg:=aA c1;have kw:=aA c2;clear hr ag h0 c1 c2 sh;obtain k:=_;exact k):p:=h
theorem ZCw(h:p:=by have k1:=k0.below z1;have ah:=k0.lt;obtain k:=_;exact k):p:=h
theorem ZHJ(h:p:=by exact⟨0,aM _,rfl,l0,fun j hj=>absurd hj (aX j)⟩):p:=h
theorem ZIN(h:p:=by
 rw[fM ZA,fM ZA]
 obtain k:=_;exact k):p:=h
theorem ZGh(h:p:=by have hh:=h1;rw[aN]at hh;obtain⟨g1,g2,g3,g4,g5⟩:=Dz hh.1;obtain k:=_;exact k):p:=h
theorem ZN4(h:p:=by refine' ZFX;have nU:w1.cell? ⟨b,o+k*2+1,none⟩=some (.int .i64 x.bin):=(au.cell (p:=⟨b,o+k*2+1,none⟩) hb).trans c2;clear c1 c2;obtain k:=_;exact k):p:=h
theorem ZUP(h:p:=by obtain⟨FA,hO⟩:∃O,Qr ans 0 ⟨#[]⟩ ls=O:=⟨_,rfl⟩;have yQ:Hid (Qr ans 0 (Sv ans ls 0) (ls.drop 0)=FA):=hO;rw[hO];clear hO;obtain k:=_;exact k):p:=h
theorem ZDl(h:p:=by first|exact k1|exact ld):p:=h
theorem ZQQ(h:p:=by
 obtain⟨j,h1,rfl⟩:∃j:Nat,Lib.indexByte s c=(j:Int)∧i=j+1:=by
  split at h
  ·omega
  ·exact⟨i - 1,ZA,ZA⟩
 obtain k:=_;exact k):p:=h
theorem ZDx(h:p:=by rw[HF.out];exact HO.out):p:=h
theorem ZLy(h:p:=by refine' zV;exact⟨_,_,Bf ZX,by rw[(bw.out HF.out).1];exact OA.out,by rw[(bw.out HF.out).2];exact OB.out,km.out,l2⟩):p:=h
theorem ZDG(h:p:=by unfold maxLen;exact ZH):p:=h
theorem ZF8(h:p:=by
 go_at_call 167;refine(pX.out _).mono ?_;refine' ZP
 obtain k:=_;exact k):p:=h
theorem ZNz(h:p:=by
 obtain⟨p1,p2⟩:=Px h1 h2 (k+1) ZA
 have hp:Ky b (k+1)=m*b:=by rw[HM.out];rfl
 have HP:=aA hp;rw[hp]at p1 p2;clear hp;obtain k:=_;exact k):p:=h
theorem ZLM(h:p:=by show _=_;rw[HQ.out,show decide (k<p.passes)=decide (k≤p.passes - 1) by exact ZCX,h2];simp):p:=h
theorem ZNS(h:p:=by
 have HE:=aA (show k=rs.length by omega)
 have sI:Hid (Jb rs k=Jb rs rs.length):=by show _=_;rw[HE.out]
 generalize Jb rs k=P at *;obtain k:=_;exact k):p:=h
theorem ZUK(h:p:=by refine' ZUI;generalize Aj 32 r=ps at *;subst hn;have ef:decide ((ps.length:Int)<0)=false:=aO ZA;refine' ZBc;obtain k:=_;exact k):p:=h
theorem ZHQ(h:p:=by rw[HQ.out,H1.out,H2.out]<;>rfl):p:=h
theorem YP(h:p:=by
 go_wp2
 go_quiet (fail)
 obtain k:=_;exact k):p:=h
theorem ZRq(h:p:=by
 (go_at_call 144;(with_reducible refine(HC.out _ _ B1.out O1.out).mono ?_);rintro e w2 h2;have H2:=aA h2;obtain⟨rfl,_⟩:=h2)
 obtain k:=_;exact k):p:=h
theorem ZJH(h:p:=by
 have ca:(Bg.toList==[108,101,116,116,101,114,115])=false:=ZD
 obtain k:=_;exact k):p:=h
theorem ZGT(h:p:=by refine Bk (rs:=[4]) ZB ZE ?_;refine' ZA2;obtain k:=_;exact k):p:=h
theorem ZBj(h:p:=by obtain⟨k,hk,rfl,lr,ho⟩:=hrel;obtain k:=_;exact k):p:=h
theorem ZGP(h:p:=by have de:Hid (Em (⟨#[]⟩)=⟨#[110,111,10]⟩):=Jw;obtain k:=_;exact k):p:=h
theorem ZIR(h:p:=by refine' ZFd;refine' zw;have GH:=(D1.1 hk).1;refine' ZAd;clear hk;obtain k:=_;exact k):p:=h
theorem ZGA(h:p:=by
 have mn:wA.heap.size=w.heap.size+1:=by rw[ae];simp
 obtain k:=_;exact k):p:=h
theorem ZQc(h:p:=by
 have ib:=Yp rs;obtain⟨F,hF⟩:∃F,Jj rs=F:=⟨_,rfl⟩;have jY:Hid (Ia ⟨nm,rs⟩=nm++⟨#[32]⟩++F):=by show _=_;rw[←hF];rfl
 obtain k:=_;exact k):p:=h
theorem ZOO(h:p:=by obtain⟨bi,rfl⟩:=aQ (show 0≤bi by omega);obtain⟨pa,rfl⟩:=aQ (show 0≤pa by omega);obtain k:=_;exact k):p:=h
theorem ZTD(h:p:=by
 refine' YA;have a2:¬9223372036854775807<F.size+1+G.size:=ZA
 have a3:¬9223372036854775807<F.size+1+G.size+1:=ZA
 obtain k:=_;exact k):p:=h
theorem ZKX(h:p:=by
 obtain⟨b,o,rfl,hb,⟨⟨o1,o2⟩,o3⟩,c1,c2⟩:=HR.out.ltr k ab
 have hG:=aA (AaP ab);have am:=aA (fun h=>AtL ab h);obtain k:=_;exact k):p:=h
theorem ZP7(h:p:=by refine' zR;clear l1 l0;have nZ:=oO.out.2.2.1;have vw:p.length≤net.length:=Rz _ _ oO.out.1 oO.out.2.1;have jU:=oO.out.2.2.2;obtain k:=_;exact k):p:=h
theorem ZJg(h:p:=by
 have ca:(Es.toList==[108,101,116,116,101,114,115])=false:=ZD
 obtain k:=_;exact k):p:=h
theorem ZDf(h:p:=by refine' ZO;exact⟨Bo HE.out.symm,rfl⟩):p:=h
theorem ZI7(h:p:=by refine' zC;obtain⟨vL,_,_,_,_,⟨c0,_,_,_,_,_,_,_⟩,_,hL,_⟩:=Ca hD;obtain k:=_;exact k):p:=h
theorem ZOW(h:p:=by have z0:=sS.out _ (aU (show 0<ps.length by omega));have z1:=sS.out _ (aU (show 1<ps.length by omega));obtain k:=_;exact k):p:=h
theorem ZOk(h:p:=by
 have ca:(Gd.toList==[108,101,116,116,101,114,115])=false:=ZD
 have db:(Gd.toList==[115,111,114,116])=false:=ZD
 obtain k:=_;exact k):p:=h
theorem ZO0(h:p:=by
 have ca:(Db.toList==[108,101,116,116,101,114,115])=false:=ZD
 have db:(Db.toList==[115,111,114,116])=false:=ZD
 obtain k:=_;exact k):p:=h
theorem ZO4(h:p:=by
 have ca:(Dq.toList==[108,101,116,116,101,114,115])=false:=ZD
 have db:(Dq.toList==[115,111,114,116])=false:=ZD
 obtain k:=_;exact k):p:=h
theorem ZO6(h:p:=by
 have ca:(G3.toList==[108,101,116,116,101,114,115])=false:=ZD
 have db:(G3.toList==[115,111,114,116])=false:=ZD
 obtain k:=_;exact k):p:=h
theorem ZRj(h:p:=by
 have ca:(Dx.toList==[108,101,116,116,101,114,115])=false:=ZD
 have db:(Dx.toList==[115,111,114,116])=false:=ZD
 obtain k:=_;exact k):p:=h
theorem ZR9(h:p:=by
 have ca:(Fm.toList==[108,101,116,116,101,114,115])=false:=ZD
 have db:(Fm.toList==[115,111,114,116])=false:=ZD
 obtain k:=_;exact k):p:=h
theorem ZA1(h:p:=by refine' ZJw;clear hS hf x0;obtain k:=_;exact k):p:=h
theorem ZOt(h:p:=by have:=(h.blk k hk).2;show(w.heap++os)[k]? =w.heap[k]?;rw[iJ this]):p:=h
theorem ZEV(h:p:=by refine' ZBg;refine' ZGk;clear ac hv hb;refine' ZBh;obtain k:=_;exact k):p:=h
theorem ZFD(h:p:=by rw[h1]at hj;injection hj with hj;rw[←hj];exact h2):p:=h
theorem ZQU(h:p:=by obtain⟨k,hk,rfl⟩:=bO hr;obtain⟨h1,h2,_⟩:=(Ev.1 h).2 k hk;have a1:=Iw (AbX.1 h1).1;have a2:=AgS (Kb.1 h2).1;obtain k:=_;exact k):p:=h
theorem ZBk(h:p:=by subst hn;unfold maxLen at hm;obtain k:=_;exact k):p:=h
theorem ZLo(h:p:=by
 obtain⟨y,hy⟩:∃y:Ltr,y=⟨x.id,to⟩:=⟨_,rfl⟩;have mr:x.id=y.id:=by rw[hy]
 have sK:to=y.code:=by rw[hy]
 rw[←hy]at eu;obtain k:=_;exact k):p:=h
theorem ZUc(h:p:=by clear HC co hp;refine' ZJK;have l2:=Aa b1 b2;have y0:w2.cell? ⟨w1.heap.size,0,none⟩=some (.string f):=Bx o2 0 ZE;obtain k:=_;exact k):p:=h
theorem ZG8(h:p:=by rw[bL,aR ZA];obtain k:=_;exact k):p:=h
theorem ZHr(h:p:=by exact((aF _ w).alloc (aD _) _).alloc ZE _):p:=h
theorem ZSm(h:p:=by
 go_at_call 77;first|((with_reducible refine BE.out.mono ?_);refine' ZP)|((with_reducible refine rl.out.mono ?_);refine' ZP)
 obtain k:=_;exact k):p:=h
theorem ZRA(h:p:=by have T1:Aside (Tg n 20 d1):=(T0.out).perm 0 ZA ZA ZA ZF p1 (by rw[HN.out];omega);obtain k:=_;exact k):p:=h
theorem ZEN(h:p:=by refine' ZI;exact⟨Al HF.out.symm,Aa HT.out l1⟩):p:=h
theorem ZNG(h:p:=by rw[bR,Bool.eq_false_iff,Ne,List.isEmpty_iff_length_eq_zero];exact zG):p:=h
theorem ZJX(h:p:=by rw[ae];exact own.made0 w _ (aD _)):p:=h
theorem ZKw(h:p:=by
 have nC:(zs++rs).length≤60:=by refine' ZAY;exact YT
 generalize IX:zs++rs=zr at *;have xM:=aA IX;clear IX;obtain k:=_;exact k):p:=h
theorem ZUY(h:p:=by rw[h0]at hc;injection hc with hc;injection hc with _ hc _;rcases he with he|he<;>rw[←hc]at he<;>exact absurd he ZF):p:=h
theorem ZOI(h:p:=by refine⟨.tuple #[.slice none 0 0,.bool false],ZOJ,_,ZCZ,ZKS,mT⟩):p:=h
theorem ZQN(h:p:=by refine⟨.tuple #[.slice none 0 0,.bool false],ZQO,_,ZCZ,ZKS,mT⟩):p:=h
theorem ZLk(h:p:=by obtain⟨b,o,cs,hA,hb,⟨hi,rfl⟩,hc⟩:=h k hk;exact⟨b,o,hA,hb,hi,ZFY⟩):p:=h
theorem ZTq(h:p:=by
 refine' ZTt;have iz:Hid (∀W:World,Calls aB 94 #[.string f] W fun e w'=>e=.returned (.bool true)∧W=w'):=fun W=>by
  have:=Cm f W hz
  rwa [ho]at this
 obtain k:=_;exact k):p:=h
theorem ZAJ(h:p:=by refine' ZAu;refine' zw;obtain k:=_;exact k):p:=h
theorem ZOo(h:p:=by
 have ca:(F4.toList==[108,101,116,116,101,114,115])=false:=ZD
 have db:(F4.toList==[115,111,114,116])=false:=ZD
 obtain k:=_;exact k):p:=h
theorem ZOq(h:p:=by
 have ca:(Ef.toList==[108,101,116,116,101,114,115])=false:=ZD
 have db:(Ef.toList==[115,111,114,116])=false:=ZD
 obtain k:=_;exact k):p:=h
theorem ZFp(h:p:=by have mixed:=L.mixed;have t0:P.underlying 0=_:=L.t0;obtain k:=_;exact k):p:=h
theorem ZD0(h:p:=by obtain⟨A,n,c,rfl, -, -, -, -⟩:=o1.rd;obtain k:=_;exact k):p:=h
theorem ZCd(h:p:=by refine' za;omega):p:=h
theorem ZCQ(h:p:=by rw[cg.out];omega):p:=h
theorem ZQr(h:p:=by
 have UB:row≠some (w.heap.size+1):=fun e=>by have:=hr _ e;omega
 have UC:row≠some w.heap.size:=fun e=>by have:=hr _ e;omega
 obtain k:=_;exact k):p:=h
theorem ZH3(h:p:=by refine' ZT;have bt:=E3 fi.out b1;have cy:=aA (Aa j6.out b1);obtain k:=_;exact k):p:=h
theorem ZUo(h:p:=by
 have rG:=aA fx;rw[←fx]at da nC;clear fx;obtain⟨u,hu⟩:∃u,u=vs[d]:=⟨_,rfl⟩;have HU:=aA hu;refine' ZKJ
 obtain k:=_;exact k):p:=h
theorem ZRi(h:p:=by
 clear jU;go_enter Tryz.func145,Tryz.ntmps145
 refine' ZBv;refine' ZC;refine(HI.out _ b1).mono ?_;refine' zK;have l2:=Aa b1 b2
 obtain k:=_;exact k):p:=h
theorem ZOC(h:p:=by refine⟨.tuple #[.slice none 0 0,.bool false],ZOD,_,ZCZ,ZKS,mT⟩):p:=h
theorem ZTI(h:p:=by exact⟨_,_,Bf ZX,by rw[(bw.out HF.out).1];exact o1.out,by rw[(bw.out HF.out).2];exact o2.out,km.out,l1.out⟩):p:=h
theorem ZGU(h:p:=by injection e with e;simp at e):p:=h
theorem ZT6(h:p:=by
 refine' ZC3;have j7:=aA l3;clear k2 er k3 l2 l3 hr e0 e1 e2 e3 e4 e5 e6 e7 f0 f1 f2 f3 f4 f5 f6 f7 g0 g1 g2
 refine' ZED;obtain k:=_;exact k):p:=h
theorem ZHP(h:p:=by exact⟨Al (am.out (by rw[hG.out,xT.out,HD.out];simp)).symm,l3⟩):p:=h
theorem ZBp(h:p:=by obtain⟨k,hk,rfl,rfl⟩:=hrel;obtain k:=_;exact k):p:=h
theorem ZJO(h:p:=by refine Ax rfl rfl fi.out fA rfl Tryz.sizePlc rfl ?_;obtain k:=_;exact k):p:=h
theorem ZJ7(h:p:=by
 injection hv with e1 e2 e3
 injection e1 with e1;injection e1 with e1;obtain k:=_;exact k):p:=h
theorem ZRp(h:p:=by
 (with_reducible refine HR.out.mono ?_);refine' ZAj;have B1:=aA b1;have O1:=aA (o1.base_ hB);refine' ZBx;clear b1 o1
 obtain k:=_;exact k):p:=h
theorem ZP4(h:p:=by
 ·have HE:Hid (Iv rs c=q):=by show _=_;rw[←HQ.out,show k=rs.length by omega];rfl
  refine' ZI;exact⟨Bo HE.out.symm,lr⟩):p:=h
theorem ZFh(h:p:=by unfold low;exact ZH):p:=h
theorem ZSW(h:p:=by
 have pE:=aA hr;rw[hr]at iz
 go_wp2_with (go_at_call 184;refine' zz)
 go_ret2;exact⟨by rw[HT.out,pE.out]<;>rfl,lr⟩):p:=h
theorem ZQx(h:p:=by
 ·obtain⟨t,rfl⟩:∃t,x=m - i+t:=⟨x - (m - i),ZA⟩
  rw[s3 t ZA];exact(h5 t ZA).symm):p:=h
theorem ZUm(h:p:=by
 have z0:Boxed W2 _ _ _:=(hb.block _ gc.out.lt).trans gc.out;have z1:Boxed W2 _ _ _:=(hb.block _ gd.out.lt).trans gd.out
 obtain k:=_;exact k):p:=h
theorem ZGo(h:p:=by obtain⟨k,vs,hk,rfl,lr,hB⟩:=hrel;refine' zR;have HB:=aA hB;obtain k:=_;exact k):p:=h
theorem ZQg(h:p:=by refine' YH;gi_at_call 223;refine(CallsIn.inRound l (callsIn_wide.2 (US.out W2))).mono ?_;rintro e W3 ⟨vq,rfl,xg,k6⟩;obtain k:=_;exact k):p:=h
theorem ZOf(h:p:=by
 have QY:(dd:Int)<(x.code.size:Int):=ZA
 clear bt hd;have mt:w0.heap.size≤G:=eJ yM.out
 refine' ZC;obtain k:=_;exact k):p:=h
theorem ZPm(h:p:=by
 clear he;go_wp2
 go_roundw
 case rel=>exact⟨k+1,ZA,ZJ,Ae lr _,HX.out it.out⟩
 case measure=>exact ZK):p:=h
theorem ZCj(h:p:=by rw[HE.out]<;>rfl):p:=h
theorem ZCn(h:p:=by rw[HO.out]<;>rfl):p:=h
theorem ZHT(h:p:=by show _=_;rw[HF.out,←sI.out,aP hz]):p:=h
theorem ZHU(h:p:=by show _=_;rw[HF.out,←sI.out,aL hz]):p:=h
theorem ZDi(h:p:=by rw[HR.out];exact ze):p:=h
theorem YR(h:p:=by
 refine .inr fun e=>?_
 obtain k:=_;exact k):p:=h
theorem ZQ4(h:p:=by refine⟨ZA,ZA,ZA,ZA,ZA,fun c h1 h2=>⟨ZA,ZA⟩⟩):p:=h
theorem ZHk(h:p:=by
 refine⟨k+1,ZA,ZJ,fun j hj=>?_⟩;refine' ZBe
 obtain k:=_;exact k):p:=h
theorem ZRQ(h:p:=by have h:=hk x;rw[jA,List.getElem?_append_left ZA];rfl):p:=h
theorem ZSU(h:p:=by
 generalize G6 k=X at *;clear hq
 refine' ZC;refine HB.mono ?_;refine' ZAX;have l4:=lr.trans (b4.mono lr.size);clear HB b4
 obtain k:=_;exact k):p:=h
theorem ZQE(h:p:=by
 have l5:Below w.heap.size w w5:=(Ae lr (aC #[aK d] 9)).grown ap ZH fun q hq=>(HO.out.blk q hq).1
 obtain k:=_;exact k):p:=h
theorem ZSr(h:p:=by
 have lB:Below w.heap.size w wB:=by rw[ai];exact lA.alloc lA.size _
 refine' ZU4;refine' ZAx;have bp:=aA ai;obtain k:=_;exact k):p:=h
theorem ZHz(h:p:=by rintro D ys W hD rfl ⟨⟨v,hv,ho⟩,vV,cw,bn,y0,y1,hB⟩ hK;obtain k:=_;exact k):p:=h
theorem ZOM(h:p:=by
 have qU:Hid (∀W,Below w.heap.size w W→rd W W.heap.size (.slice A p.order.length c) p.order):=fun W hW=>ZSf
 obtain k:=_;exact k):p:=h
theorem ZFZ(h:p:=by rw[El.len kY,iL]):p:=h
theorem ZUf(h:p:=by
 have f0:=hf 0;have f1:=hf 1;have f2:=hf 2;have f3:=hf 3;have f4:=hf 4;have f5:=hf 5;have f6:=hf 6;have f7:=hf 7;clear hf
 obtain k:=_;exact k):p:=h
theorem ZDO(h:p:=by obtain⟨A,n',c',hv,_,_,_,pB⟩:=h.rd;obtain k:=_;exact k):p:=h
theorem ZEs(h:p:=by rw[bG,bG];obtain k:=_;exact k):p:=h
theorem ZKD(h:p:=by obtain⟨r0,r1,r2,r3⟩:=Hc z0 z1 (.slice none 0 0) (.bool false);obtain k:=_;exact k):p:=h
theorem ZEc(h:p:=by refine' ZU5;have iw:=aA (HA.out.below B4);obtain k:=_;exact k):p:=h
theorem ZAc(h:p:=by refine' zQ;refine' ZBy;obtain k:=_;exact k):p:=h
theorem ZOj(h:p:=by obtain⟨y,hy,rfl⟩:=List.mem_map.1 hp;exact Aq1 (AeF h y hy).2.2 (.inl rfl)):p:=h
theorem ZD8(h:p:=by have m0:=duo.madeR ae ai;refine' ZUz;obtain k:=_;exact k):p:=h
theorem ZOm(h:p:=by refine' zC;obtain⟨vL,vO,_,_,_,⟨c0,_,_,_,_,_,_,_⟩,_,hL,hO,_⟩:=Ca hD;obtain⟨AL,nL,cL,rfl, -, -, -, -⟩:=hL.rd;obtain k:=_;exact k):p:=h
theorem ZQw(h:p:=by
 rcases gE i L.size with h'|h'
 ·simp[h']at h0 h1
  rw[h0]at h1;cases h1
 ·simp[Array.getElem?_eq_none h']at h1):p:=h
theorem ZMm(h:p:=by refine' ZDW;subst hn;unfold maxLen at hm ax;refine' ZA7;refine' YF;have HF:Hid (Bc fs c=Gb fs (fs.length+1) c 0):=rfl;obtain k:=_;exact k):p:=h
theorem ZN8(h:p:=by refine' ZAr;have SS:wr.cell? ⟨b,o+m*2,none⟩=some (.int .i64 y.id):=(nf.cell (p:=⟨b,o+m*2,none⟩) hb).trans d1;obtain k:=_;exact k):p:=h
theorem ZUl(h:p:=by have:=((hB.trans (hb.mono hB.size)).trans (r3 _ (aD _))).size;omega):p:=h
theorem ZQX(h:p:=by show _=_;rw[dw.out,ma.out (by rw[rK.out];unfold K7;rw[nz.out];rfl)];rfl):p:=h
theorem ZLc(h:p:=by have oN:w0.heap.size≤w3.heap.size:=i6.size;have dz:=aA (HB.out.below B3);have fg:=aA (HO.out.below B3);obtain k:=_;exact k):p:=h
theorem ZLQ(h:p:=by have l4:=Aa ld b4;have B4:Below w3.heap.size w3 w4:=Aa ((aF _ _).drew) b4;have jq:=aA (ql.out.below B4);obtain k:=_;exact k):p:=h
theorem ZTd(h:p:=by refine' ZGE;have dy:=aA (fun W=>D4 (C5 xs) W ZA);have de:Hid (Em (C5 xs)=C5 xs++⟨#[10]⟩):=Fh hp;obtain k:=_;exact k):p:=h
theorem ZIH(h:p:=by rw[show k*El.size ByteArray=k from dZ k,jY.out]at this;obtain k:=_;exact k):p:=h
theorem ZIM(h:p:=by
 obtain⟨q,rfl⟩:=aQ (show 0≤r by omega)
 obtain k:=_;exact k):p:=h
theorem ZSp(h:p:=by
 (go_at_call 78;refine(pD.out _ lr).mono ?_;refine' zH;have l3:=lr.trans (b3.mono lr.size);have o3:=HO.out.below b3)
 obtain k:=_;exact k):p:=h
theorem ZLe(h:p:=by go_ret;exact⟨_,rfl,iy,Pd (Z9 (World.grownBy_alloc w _ _) QA) (aD _) (fun k hk=>by injection hk;omega)⟩):p:=h
theorem ZHN(h:p:=by refine' ZO;exact⟨Al (am.out ZVB).symm,Ba lo _⟩):p:=h
theorem ZEX(h:p:=by rw[HQ.out,H1.out,H2.out];rfl):p:=h
theorem ZFR(h:p:=by rw[eT];omega):p:=h
theorem ZPt(h:p:=by
 have H6:Hid (I0 net y=false):=by show _=_;unfold I0;rw[H5.out,CT.out,aO ZA];rfl
 refine' ZI;obtain k:=_;exact k):p:=h
theorem ZJ0(h:p:=by refine Bk (rs:=[0]) ZB ZE ?_;refine' ZA2;obtain k:=_;exact k):p:=h
theorem ZLG(h:p:=by
 go_roundw
 case rel=>exact⟨k+1,_,ZA,ZJ,l3,by rw[HS.out];exact dz.out⟩
 case measure=>exact ZK):p:=h
theorem ZS5(h:p:=by
 show Bu _ _ _ _ _ _ _ _ (Act.put _ (some 53) _) _
 refine' ZU;refine Bk (rs:=[0,10]) ZB ZE ?_;obtain k:=_;exact k):p:=h
theorem ZCf(h:p:=by simp only[iD];obtain k:=_;exact k):p:=h
theorem ZFe(h:p:=by
 have bc:(k:Int)<(rs.length:Int):=ZA
 obtain k:=_;exact k):p:=h
theorem ZRv(h:p:=by
 have cg:Hid ((L.map fun n:Nat=>(n:Int)).length=bins.length):=by show _=_;rw[bF,HE.out,bF]
 obtain k:=_;exact k):p:=h
theorem ZF0(h:p:=by simp only[if_true,if_false,iW];obtain k:=_;exact k):p:=h
theorem ZTH(h:p:=by
 have hs:F8 (dtx (ds0 b) 8).data.toList=N1 b 8:=by rw[AeJ 8 (aD _) fun k _=>AmW b k,Am1 b 8 (aD _)]
 obtain k:=_;exact k):p:=h
theorem ZFQ(h:p:=by refine' ZI;exact Bb.of_read HD.out rfl K2.out):p:=h
theorem ZQB(h:p:=by
 have HE:Hid (Ht net c s=(p++[i],0)):=by show _=_;rw[HG.out,AeW xh.out (HH.out ZA kE)]
 rw[Tl]at kE
 obtain k:=_;exact k):p:=h
theorem ZJU(h:p:=by obtain⟨wA,ae⟩:∃u,u=w.alloc (aC #[] 9):=⟨_,rfl⟩;obtain k:=_;exact k):p:=h
theorem ZCg(h:p:=by obtain⟨gg,jL,hl,he⟩:=fc;obtain k:=_;exact k):p:=h
theorem ZJP(h:p:=by show w.heap.size≤w0.heap.size;omega):p:=h
theorem ZC1(h:p:=by refine' ZAy;clear hS;clear hz ho;obtain k:=_;exact k):p:=h
theorem ZDq(h:p:=by exact⟨0,aM _,rfl,rfl,l0⟩):p:=h
theorem ZSS(h:p:=by
 ·rw[ho]at HN HF
  clear ho;go_enter Tryz.func93,Tryz.ntmps93
  refine' ZDh;refine' ZI;exact⟨Bo HF.out.symm,rfl⟩):p:=h
theorem ZOP(h:p:=by
 have a1:¬9223372036854775807<B1.size+1:=ZA
 have a2:¬9223372036854775807<B1.size+1+B2.size:=ZA
 obtain k:=_;exact k):p:=h
theorem ZPu(h:p:=by
 have H6:Hid (I0 net y=true):=by show _=_;unfold I0;rw[H5.out,CT.out,aJ ZA];rfl
 refine' ZC;obtain k:=_;exact k):p:=h
theorem ZJS(h:p:=by refine' zZ;obtain⟨Ad,md,cd,rfl,FY,_,_,_⟩:=ho.rd;subst FY;obtain k:=_;exact k):p:=h
theorem ZMc(h:p:=by
 have E1:=aA (HEM.out w1)
 refine' ZQ;exact⟨_,Bf ZX,by rw[bw.out HF.out];exact E1.out,Ae b1 _⟩):p:=h
theorem ZSQ(h:p:=by
 have HE:Hid (d.data.toList.take k=d.data.toList):=bA ZH
 rw[HE.out]at lg;rw[HE.out];obtain k:=_;exact k):p:=h
theorem ZMs(h:p:=by
 ·refine' ZC;go_round
  case rel=>exact⟨k+1,ZA,ZJ,HX.out aj.out⟩
  case measure=>exact ZK):p:=h
theorem ZEf(h:p:=by rw[vu.out];exact HS.out):p:=h
theorem ZGZ(h:p:=by show _+1≤_;omega):p:=h
theorem ZST(h:p:=by
 have qC:¬9223372036854775807<P.size+1:=ZA
 have oI:¬9223372036854775807<P.size+1+x.size:=ZA
 obtain k:=_;exact k):p:=h
theorem ZLL(h:p:=by show _=_;rw[HQ.out];rcases Bool.and_eq_false_iff.1 h1 with h|h<;>simp[h]):p:=h
theorem ZRt(h:p:=by
 go_enter Tryz.func227,Tryz.ntmps227
 refine' zD;refine HP.out.mono ?_;rintro e w1 ⟨vB,vO,vs,rfl,qO,tP, -,b1⟩;obtain k:=_;exact k):p:=h
theorem ZEb(h:p:=by
 obtain⟨k,hk,rfl⟩:=bO j3
 obtain k:=_;exact k):p:=h
theorem ZFK(h:p:=by rintro D pre W hD kL ⟨am,y0,y1,hB⟩ hK;obtain k:=_;exact k):p:=h
theorem ZIG(h:p:=by have bq:Below w.heap.size w (w.drewN q):=Cx (aF _ _) q;obtain k:=_;exact k):p:=h
theorem ZIg(h:p:=by exact⟨0,aM _,ZA,rfl,rfl,iy,hp,pK,uh⟩):p:=h
theorem ZCP(h:p:=by show _<_*1;omega):p:=h
theorem ZGb(h:p:=by
 go_enter Tryz.func47,Tryz.ntmps47
 refine' ZBU;obtain k:=_;exact k):p:=h
theorem ZCG(h:p:=by simpa using h2):p:=h
theorem ZOR(h:p:=by have pd:Hid (I8 t=⟨Hp ((Aj 32 t).getD 0 ⟨#[]⟩),Hp ((Aj 32 t).getD 1 ⟨#[]⟩),(Aj 32 t).drop 2⟩):=rfl;obtain k:=_;exact k):p:=h
theorem ZGy(h:p:=by rw[HQ.out,H1.out,H2.out,H3.out];rfl):p:=h
theorem ZH6(h:p:=by show w.heap.size<w1.heap.size;omega):p:=h
theorem ZJR(h:p:=by show w.heap.size<wA.heap.size;omega):p:=h
theorem ZRJ(h:p:=by
 rw[fQ]
 go_wp2_with (go_at_call 314;refine H3.out.mono ?_;rintro e w3 ⟨rfl,d3,p3,s3,S3⟩)
 refine' ZRD;obtain k:=_;exact k):p:=h
theorem ZKV(h:p:=by
 ·go_round
  case rel=>exact⟨k+1,ZA,ZJ,by rw[HS.out];exact ZAg⟩
  case measure=>exact ZK):p:=h
theorem zT(h:p:=by simpa using this):p:=h
theorem ZBL(h:p:=by refine' ZC;rw[←ar.out];obtain k:=_;exact k):p:=h
theorem ZHZ(h:p:=by have hb:=Iw h _ (aU (show k<l.length by omega));obtain k:=_;exact k):p:=h
theorem ZQH(h:p:=by
 ·go_round
  case rel=>exact⟨k+1,ZA,ZJ,by rw[HS.out];exact ZFh⟩
  case measure=>exact ZK):p:=h
theorem ZEe(h:p:=by have:=jy.out.2.1;omega):p:=h
theorem ZEr(h:p:=by unfold maxLen;exact ZDa):p:=h
theorem ZDd(h:p:=by refine(HA.out _).mono ?_;refine' ZP;obtain k:=_;exact k):p:=h
theorem ZPf(h:p:=by
 have l7:Below w.heap.size w w7:=l6.grown dm tr fun q hq=>(pP.out.blk q hq).1
 have oq:=aA kz;clear kz;obtain k:=_;exact k):p:=h
theorem ZSO(h:p:=by
 refine' ZAM;have mf:¬(b.toNat:Int)<48:=ZA
 have pf:(57:Int)<(b.toNat:Int):=ZA
 exact ZB4):p:=h
theorem ZAY(h:p:=by rw[aS];obtain k:=_;exact k):p:=h
theorem ZEa(h:p:=by obtain⟨i,hi,rfl⟩:=bO hx;obtain k:=_;exact k):p:=h
theorem ZFP(h:p:=by have wC:=uT.trans (b3.mono ZA);obtain k:=_;exact k):p:=h
theorem ZFy(h:p:=by obtain⟨A2,n2,c2,rfl, -, -, -, -⟩:=tP.rd;obtain k:=_;exact k):p:=h
theorem ZKj(h:p:=by rw[bN vd,bX ZA];simp only[e1,dL];obtain k:=_;exact k):p:=h
theorem ZKk(h:p:=by
 rw[bX ZA,bN kv]
 simp only[e1,dL];obtain k:=_;exact k):p:=h
theorem ZLr(h:p:=by
 have HY:Hid (Jf hs xs=Kq hs xs∧Je hs xs=Ng hs xs):=by unfold Jf Je;rw[HF.out];exact ZV
 clear HB
 refine' ZC;obtain k:=_;exact k):p:=h
theorem ZFj(h:p:=by refine' ZAl;obtain⟨ha,he⟩:=h;rw[Ec]at he;obtain k:=_;exact k):p:=h
theorem ZJL(h:p:=by
 have e:(Aj 10 t).getD k ⟨#[]⟩=(Aj 10 t)[k]:=ZR1
 obtain k:=_;exact k):p:=h
theorem ZEB(h:p:=by (with_reducible exact k1)):p:=h
theorem ZKf(h:p:=by simp;exact aG (aG bf l1.size) (fG _)):p:=h
theorem ZHI(h:p:=by refine' ZI;exact⟨Al (am.out ZVB).symm,rfl⟩):p:=h
theorem ZMF(h:p:=by
 refine bodyPost_ret ?_ hf hR;have xJ:a.tmps[p]?.getD undef=.pointer (some ⟨g,0,none⟩):=by simpa using hp
 obtain k:=_;exact k):p:=h
theorem ZIs(h:p:=by obtain⟨h1,h2,h3,h4,h5,h6⟩:=h;obtain⟨s1,s2,s3,s4⟩:=hs;obtain k:=_;exact k):p:=h
theorem ZMe(h:p:=by
 have HF:Hid (Tw d xs=false):=zu
 have HE:Hid (Eu d xs=[]):=by show _=_;unfold Eu;rw[h1];rfl
 clear h1
 obtain k:=_;exact k):p:=h
theorem ZJq(h:p:=by
 refine(HC.out _ k0).mono ?_;refine' YW;have k1:=k0.below z1
 obtain k:=_;exact k):p:=h
theorem ZKP(h:p:=by rw[eT];exact mD.out):p:=h
theorem ZUG(h:p:=by rw[ki];exact bD u1 _):p:=h
theorem ZIL(h:p:=by show _=_;rw[HS.out,←HM.out];rfl):p:=h
theorem ZU7(h:p:=by have dz:=aA (kw.out _ b3);have j7:=aA (Aa FR.out b3);obtain⟨d0,d1,d2,f0,f1,f2⟩:=B7 dz.out;obtain k:=_;exact k):p:=h
theorem ZDv(h:p:=by have lb:=aF wo.heap.size wo;obtain k:=_;exact k):p:=h
theorem ZDI(h:p:=by rw[dD,M6];exact ky.out):p:=h
theorem ZMh(h:p:=by
 unfold Vt;cases hx:fs[(Gg fs c).toNat]? with
 |none=>exact ZZ
 |some x=>exact hf x (List.mem_of_getElem? hx)):p:=h
theorem ZMv(h:p:=by obtain⟨r,aj⟩:∃r,Hid (Gg (fs.take k) x.src=r):=⟨_,rfl⟩;have xT:=aA (AtD fs k x.src aj.out);obtain k:=_;exact k):p:=h
theorem ZNF(h:p:=by rw[bR,List.isEmpty_iff_length_eq_zero];exact zG):p:=h
theorem ZM1(h:p:=by
 refine' zd;cases h1:Mi d
 ·refine' zS;refine' ZQ;exact⟨Bf (by rw[HQ.out,H1.out]<;>rfl),Aa HT.out l1⟩
 obtain k:=_;exact k):p:=h
theorem ZKL(h:p:=by have P1:=aA p1;have P2:=aA p2;have P3:=aA p3;obtain k:=_;exact k):p:=h
theorem ZHR(h:p:=by have HP:=aA hp;have HF:=aA hf;have HH:=aA hh;obtain k:=_;exact k):p:=h
theorem ZDJ(h:p:=by rintro e w4 ⟨v4,rfl,o4,b4⟩;obtain k:=_;exact k):p:=h
theorem ZH4(h:p:=by first|exact k2|exact k1|exact ld):p:=h
theorem ZCt(h:p:=by rintro e u1 ⟨v5,rfl,o5,z1⟩;obtain k:=_;exact k):p:=h
theorem ZRw(h:p:=by rw[HE.out];exact List.mem_map.2 ⟨_,aU ab,rfl⟩):p:=h
theorem ZMI(h:p:=by
 have HF:Hid (Oj s xs=true):=ZG4
 have HY:Hid (Iq s xs=Gr s xs):=by show _=_;unfold Iq;rw[aP HF.out]
 obtain k:=_;exact k):p:=h
theorem ZMY(h:p:=by refine' ZKI;have jK:G<wn.heap.size:=(qy.out.1.blk G rfl).2;have mt:w.heap.size≤G:=(qy.out.1.blk G rfl).1;obtain k:=_;exact k):p:=h
theorem ZOH(h:p:=by
 have HY:Hid (Fwd.ok ⟨p,q⟩):=⟨by show p.size≤_;omega,by show q.size≤_;omega⟩;clear qv hm bv qM
 obtain k:=_;exact k):p:=h
theorem ZBn(h:p:=by have HT:=aA (Aw ac).1;obtain k:=_;exact k):p:=h
theorem ZB6(h:p:=by go_ret;exact⟨rfl,K.out⟩):p:=h
theorem ZA0(h:p:=by refine' ZCv;refine' ZEF;obtain k:=_;exact k):p:=h
theorem ZCT(h:p:=by have HW:=aA ac;clear ac;obtain k:=_;exact k):p:=h
theorem ZQs(h:p:=by
 refine' ZU9
 ·have:=ready_mono hj ko
  rw[H.1]at this;cases this):p:=h
theorem ZJQ(h:p:=by rw[ac];exact bD w _):p:=h
theorem ZIq(h:p:=by show _=_;rw[rK.out,qz.out];rfl):p:=h
theorem ZJt(h:p:=by refine' YY;show _+1+4≤_;omega):p:=h
theorem ZTG(h:p:=by refine(HC.out _ k0.lay).mono ?_;rintro e u1 ⟨vR,rfl,oR,z1⟩;have k1:=k0.below z1;have RR:=aA oR.rd;obtain k:=_;exact k):p:=h
theorem ZHm(h:p:=by
 obtain⟨b,o,rfl,hb,⟨o1,o2⟩,c1,c2⟩:=HR.out.mis k ab
 obtain k:=_;exact k):p:=h
theorem ZFc(h:p:=by rw[aj.out];exact f9):p:=h
theorem ZGc(h:p:=by rw[aj.out];exact og):p:=h
theorem ZNO(h:p:=by
 have ti:Hid (k=0→Jb rs 1=Ek rs[k]):=fun h=>by subst h;exact Y9 ab
 have oJ:=aA (fun h=>V7 ab h);obtain k:=_;exact k):p:=h
theorem ZRP(h:p:=by
 gi_wp2_with (refine' YH;gi_at_call 114;refine(callsIn_wide.2 jt).mono ?_;refine' zN)
 refine hR.mono ?_;obtain k:=_;exact k):p:=h
theorem ZF1(h:p:=by rw[HR.out,HQ.out];rfl):p:=h
theorem ZJi(h:p:=by
 obtain⟨r0,r1,r2,r3,r4,r5,r6,r7,hr⟩:=k2.res;refine' ZCu
 obtain k:=_;exact k):p:=h
theorem ZNC(h:p:=by unfold Ap at z4;rw[aN,dE]at z4;exact z4.1):p:=h
theorem ZR2(h:p:=by have BX:J6.findIdx (fun x=>sEq x g)<J6.length:=hl;have h1:=List.findIdx_getElem (w:=BX);rw[Sn BX]at h1;obtain k:=_;exact k):p:=h
theorem ZM2(h:p:=by
 refine' zo;cases h2:Ap s
 ·refine' zA;refine' ZQ;exact⟨Bf ZHQ,Aa HT.out l1⟩
 refine' zA;obtain k:=_;exact k):p:=h
theorem ZRl(h:p:=by obtain⟨_,_,_,_,_,⟨_,c1,c2,c3,_,_,_,_⟩,hf,_⟩:=Ca jR.out;have f1:=hf 1;have f2:=hf 2;have f3:=hf 3;obtain k:=_;exact k):p:=h
theorem ZKp(h:p:=by have ez:=Ed (P:=aB) 82 27 i0 _ eQ hi lQ xss.length zf ZA;obtain k:=_;exact k):p:=h
theorem ZLD(h:p:=by
 ·have HF:=aA h1;clear h1
  refine' ZQ;exact⟨_,Bf ZX,bw.out HF.out _,Aa HT.out l1⟩):p:=h
theorem ZLb(h:p:=by obtain⟨wl,cz⟩:∃wl:World,wl=w1.alloc (aC #[.int .i64 x.id,.string x.code] 119):=⟨_,rfl⟩;obtain k:=_;exact k):p:=h
theorem ZBS(h:p:=by simpa using h1):p:=h
theorem ZI5(h:p:=by rw[HQ.out.2.1 HO.out];exact ze):p:=h
theorem ZTc(h:p:=by have:=Tm _ s.day.fwds a b W (hS.f.rd.on hW) hk z0 z1;exact ZAT):p:=h
theorem ZKt(h:p:=by generalize Gv f j (ys.take m)=rs at *;generalize D8 f j (ys.take m)=qs at *;obtain⟨ir,DW⟩:=SE.out;obtain k:=_;exact k):p:=h
theorem ZQ6(h:p:=by obtain⟨xA,mZ⟩:∃z,z=d[pc]! :=⟨_,rfl⟩;obtain⟨xB,m6⟩:∃z,z=d[c]! :=⟨_,rfl⟩;refine' ZKK;obtain k:=_;exact k):p:=h
theorem ZSJ(h:p:=by
 have uv:¬(17:Int)<(d.size:Int):=ZA
 have r9:0<d.size:=ZA
 have ah:=AgG (d:=d) r9;obtain k:=_;exact k):p:=h
theorem ZQb(h:p:=by
 cases ag:Di net
 ·have HF:=aA (AeI ag)
  clear ag
  exact ZBC
 refine' ZAN;have kl:=(D1.1 ag).1.2;obtain k:=_;exact k):p:=h
theorem ZG6(h:p:=by rw[aH h,gU];obtain k:=_;exact k):p:=h
theorem ZQZ(h:p:=by have kB:Below w.heap.size w2 w4:=(fq.mono aq).trans (Ay ((j8.out.alloc _).drew) ep ZH);obtain k:=_;exact k):p:=h
theorem ZR8(h:p:=by rw[bN ZH,jC]):p:=h
theorem ZC8(h:p:=by rw[bW]at this;exact this):p:=h
theorem ZK0(h:p:=by refine' ZUy;obtain⟨p1,p2,p3⟩:=Eh br.out jq.out fk.out fq ey ir mV.out DW.symm bz ap cn;obtain k:=_;exact k):p:=h
theorem ZT8(h:p:=by obtain⟨W2,be⟩:∃u,u=u1.setCell ⟨w.heap.size,4,none⟩ (.slice AX nX cX):=⟨_,rfl⟩;rw[←be];obtain k:=_;exact k):p:=h
theorem ZGj(h:p:=by refine' zD;refine(Ox _ p k _ HP.out).mono ?_;refine' zd;obtain k:=_;exact k):p:=h
theorem ZIP(h:p:=by refine' ZQ;rw[HF.out];exact⟨_,rfl,own.nil_ _ _ _,l2⟩):p:=h
theorem ZQ1(h:p:=by obtain⟨xA,mZ⟩:∃z,z=d[h]! :=⟨_,rfl⟩;obtain⟨xB,m6⟩:∃z,z=d[a]! :=⟨_,rfl⟩;refine' ZKK;obtain k:=_;exact k):p:=h
theorem ZQ3(h:p:=by obtain⟨xA,mZ⟩:∃z,z=d[m]! :=⟨_,rfl⟩;obtain⟨xB,m6⟩:∃z,z=d[h]! :=⟨_,rfl⟩;refine' ZKK;obtain k:=_;exact k):p:=h
theorem ZU8(h:p:=by
 clear b3 c0 c1 c2
 refine' ZC;refine Ax rfl rfl (Bp dz.out) fA rfl Tryz.sizePlc rfl ?_;obtain k:=_;exact k):p:=h
theorem ZQp(h:p:=by refine' zO;obtain⟨A',n',c',qi,_,_,_,uj⟩:=hop.rd;obtain⟨b,o,pZ,hb,oa,y1⟩:=rdA.strU uj k fy;obtain k:=_;exact k):p:=h
theorem ZC9(h:p:=by obtain⟨g1,g2,g3,g4,g5⟩:=Dz lD;obtain k:=_;exact k):p:=h
theorem ZM8(h:p:=by
 have ez:=Ed (P:=aB) 28 9 i0 _ aW hi ah xs.length zf ZA
 obtain k:=_;exact k):p:=h
theorem ZA5(h:p:=by
 rw[gj.out];refine' zN
 obtain k:=_;exact k):p:=h
theorem ZBI(h:p:=by rw[hc]at this;exact this):p:=h
theorem ZQ8(h:p:=by
 have T3:Aside (SortedIn lt a mid d3):=q3;have S3:Aside (SWK enc k w0 blk av d3 w3):=s3;clear p3 q3 s3
 obtain k:=_;exact k):p:=h
theorem ZUs(h:p:=by
 have jd:some G≠(Value.slice Au qs.length cu).ownBlock:=ZU1
 have gu:=aA jd;clear jd
 obtain k:=_;exact k):p:=h
theorem ZM7(h:p:=by
 cases ag:okB xs
 ·have HF:=aA (AeH ag)
  clear ag
  exact ZBC
 refine' ZAN;have kl:=(Ep.1 ag).1;obtain k:=_;exact k):p:=h
theorem ZRx(h:p:=by
 go_enter Tryz.func156,Tryz.ntmps156
 refine' ZC;refine HR.out.mono ?_;refine' ZAj;have lu:=aA o1;obtain k:=_;exact k):p:=h
theorem ZHG(h:p:=by rw[aN,bB,dN];obtain k:=_;exact k):p:=h
theorem ZEt(h:p:=by rw[Ys ZA ZA]at h1;obtain k:=_;exact k):p:=h
theorem ZBr(h:p:=by rw[gT];obtain k:=_;exact k):p:=h
theorem ZFH(h:p:=by obtain⟨A,m,cp,rfl, -, -, -, -⟩:=ho.rd;obtain k:=_;exact k):p:=h
theorem ZIB(h:p:=by (with_reducible refine(HM.out _ ZCc).mono ?_);obtain k:=_;exact k):p:=h
theorem ZFb(h:p:=by
 have yX:(0:Int)≤(j:Int):=ZA
 obtain k:=_;exact k):p:=h
theorem ZJZ(h:p:=by
 (go_at_call 77;refine(qA.out _ lr).mono ?_;refine' ZP)
 obtain k:=_;exact k):p:=h
theorem ZAR(h:p:=by (exact duo.set8f k3)):p:=h
theorem ZCh(h:p:=by have aj:=aA hr;clear hr;obtain k:=_;exact k):p:=h
theorem ZUS(h:p:=by rw[←HQ.out,tJ.out];exact(Wj uK.out ZA).symm):p:=h
theorem ZLz(h:p:=by refine' ZAX;have l4:=Aa lr b4;have iw:=aA (HA.out.below b4);have br:=aA (HB.out.below b4);obtain k:=_;exact k):p:=h
theorem ZOK(h:p:=by
 cases ag:Be rs
 ·have HF:=aA (Ag2 ag)
  clear ag
  exact ZBC
 refine' ZAN;have kl:=(Ch.1 ag).1;obtain k:=_;exact k):p:=h
theorem ZSC(h:p:=by
 refine' ZJK;have L2:=aA (Aa b1 b2);clear o2 b1 b2
 refine' ZI;exact Bb.of_read HD.out rfl L2.out):p:=h
theorem ZLq(h:p:=by
 have bw:Hid (∀h:Qt hs xs=false,Jf hs xs=[]∧Je hs xs=[]):=fun h=>by unfold Jf Je;rw[h];exact ZV
 obtain k:=_;exact k):p:=h
theorem ZQl(h:p:=by rw[aH hk,V9,h,fC]):p:=h
theorem ZOB(h:p:=by
 rintro l pre x W ⟨⟨v,hv,ho⟩,vV,cw,bn,y0,y1,hB⟩ _ hx;have hd:1≤9 - 1 - 1:=ZA
 obtain k:=_;exact k):p:=h
theorem ZRG(h:p:=by
 rw[fQ]
 go_wp2_with (go_at_call 315;refine H5.out.mono ?_;rintro e w5 ⟨rfl,d5,p5,s5,S5⟩)
 obtain k:=_;exact k):p:=h
theorem ZPR(h:p:=by
 go_roundw
 case rel=>exact⟨k+1,ZA,ZJ,lo,ZVC⟩
 case measure=>exact ZK):p:=h
theorem ZPV(h:p:=by
 go_roundw
 case rel=>exact⟨k+1,ZA,ZJ,lr,ZVC⟩
 case measure=>exact ZK):p:=h
theorem ZPS(h:p:=by
 have HP:Hid (Iz p x=true):=by show _=_;rw[uR.out,wD,aJ bn];rfl
 clear wD
 refine' ZI;obtain k:=_;exact k):p:=h
theorem ZNM(h:p:=by
 cases ag:C7 rs
 ·have HF:=aA (Vi ag)
  clear ag
  exact ZBC
 refine' ZAN;have kl:=(Ev.1 ag).1;obtain k:=_;exact k):p:=h
theorem ZM5(h:p:=by rw[aH h,dD,bV,cD,gC,Kp]):p:=h
theorem ZNK(h:p:=by exact⟨k+1,ZA,ZJ,dz.out.trans (I6 [.string _] w3 k _ (aD _)),this⟩):p:=h
theorem YV(h:p:=by exact aD _):p:=h
theorem ZLl(h:p:=by
 have bw:Hid (∀h:Ve fs xs=false,E6 fs xs=[]∧Gu fs xs=[]):=fun h=>by unfold E6 Gu;rw[h];exact ZV
 obtain k:=_;exact k):p:=h
theorem ZHW(h:p:=by obtain⟨i0,hi,ah,aw,aq⟩:=eA Tryz.infoByte;obtain k:=_;exact k):p:=h
theorem ZIt(h:p:=by ·rw[s2 x ZA ZA];exact h4 x oV):p:=h
theorem ZGr(h:p:=by obtain⟨k,vs,hk,rfl,lr,hB,hO,fh⟩:=hrel;refine' zR;obtain k:=_;exact k):p:=h
theorem ZIZ(h:p:=by refine' YS;exact bA ZA):p:=h
theorem ZPI(h:p:=by obtain⟨⟨_,q⟩,rfl⟩:=he;exact⟨⟨hy.1,q⟩,rfl⟩):p:=h
theorem ZGw(h:p:=by refine' zD;refine(Fq _ p _ HP.out).mono ?_;refine' zd;obtain k:=_;exact k):p:=h
theorem ZId(h:p:=by
 rw[aL ci]
 split
 ·rename_i h;rw[kj.out.2 h]
 ·rfl):p:=h
theorem ZRr(h:p:=by unfold Qm Ku at h;rw[aN,aN]at h;have h1:=(De.1 h.1.1).1;have h2:=Cq h.2;obtain k:=_;exact k):p:=h
theorem ZGv(h:p:=by generalize hG:w.heap.size+1=G at *;have yM:=aA hG;obtain k:=_;exact k):p:=h
theorem ZFM(h:p:=by have ld:=Ag (aF w1.heap.size w1);obtain k:=_;exact k):p:=h
theorem ZBP(h:p:=by simp[hl]):p:=h
theorem ZKT(h:p:=by rw[List.all_eq_false];exact⟨s[k],by simp[ByteArray.getElem_eq_getElem_data],by simpa using hd⟩):p:=h
theorem ZUR(h:p:=by show _=_;rw[vQ.out HE.out,←HQ.out,tJ.out,AkC HE.out]):p:=h
theorem ZHl(h:p:=by rw[E0.out,H1.out,H2.out];rfl):p:=h
theorem ZEz(h:p:=by rw[bne,h3];rfl):p:=h
theorem ZFx(h:p:=by
 refine' ZT;have B1:=aA b1;clear b1
 obtain k:=_;exact k):p:=h
theorem ZRu(h:p:=by have:=pw.1;rw[HE.out,bF]at this;exact this):p:=h
theorem ZRd(h:p:=by obtain⟨AA,mA,cA,rfl,qH,_,_,_⟩:=hA.rd;subst qH;have HA:=aA hA;clear hA;have yv:=cy.out;obtain k:=_;exact k):p:=h
theorem ZDA(h:p:=by simp at hj;omega):p:=h
theorem ZMQ(h:p:=by
 have hkp:(k':Int)<(xs.length:Int):=ZA
 have jK:G<wl.heap.size:=(br.out.1.blk G rfl).2;obtain k:=_;exact k):p:=h
theorem ZM3(h:p:=by
 obtain⟨to,JQ,ok,de⟩:∃to JQ ok,Hid (Bc d.fwds s=(to,JQ,ok)):=⟨_,_,_,rfl⟩
 refine' ZC;obtain k:=_;exact k):p:=h
theorem ZTo(h:p:=by have:=Xa _ s.letters (Am f) W (hS.l.rd.on hW);exact ZAT):p:=h
theorem ZQL(h:p:=by
 obtain⟨gg,⟨h1,h2⟩,_⟩:=h;rcases h2 with⟨rfl,_⟩|⟨g,cap,bu,rfl,hg,hh,_⟩
 ·cases hk
 obtain k:=_;exact k):p:=h
theorem ZIa(h:p:=by have LA:=aA lA;have pG:=aA rL;clear lA rL;obtain k:=_;exact k):p:=h
theorem ZLZ(h:p:=by have lz:Below w0.heap.size w0 (w0.alloc (aC (madeCells #[.slice none 0 0] N) 27)):=Ae l0 _;obtain k:=_;exact k):p:=h
theorem ZN5(h:p:=by
 clear h3;go_wp2
 go_quiet (first|(go_at_call 167;exact ZHM)|(go_at_call 344;refine Da (C3.out _)))
 obtain k:=_;exact k):p:=h
theorem ZP2(h:p:=by rw[HT.out HP.out (.inl (by rw[HQ.out];exact SN.out))]):p:=h
theorem ZRK(h:p:=by rw[p3.2.1 i (gQ hi)];exact K2.out i ZA):p:=h
theorem ZTi(h:p:=by have:=Pr _ s.day.fwds a W (hS.f.rd.on hW) hk;exact ZAT):p:=h
theorem ZUj(h:p:=by rw[p2.2.1 i (gQ hi)];exact K1.out i ZA):p:=h
theorem ZK6(h:p:=by obtain⟨q,gw,hq,rfl,li,pi,mh,IZ,fk,qm,rm⟩:=hrel;refine' zj;have qk:=aA pi;obtain k:=_;exact k):p:=h
theorem ZSY(h:p:=by
 have qL:((Pm p).toList==t.toList)=false:=hq
 have vT:Hid (Fk t=false):=ZVD
 refine' ZVA;obtain k:=_;exact k):p:=h
theorem ZPr(h:p:=by show _=true;rw[hT.out,HA.out];unfold I0;rw[H5.out];rfl):p:=h
theorem ZGd(h:p:=by simp only[aN,bB]at this;obtain k:=_;exact k):p:=h
theorem ZHF(h:p:=by exact List.all_eq_true.2 fun k hk=>h k zM):p:=h
theorem ZEp(h:p:=by
 have vl:(0:Int)<(k:Int):=ZA
 obtain k:=_;exact k):p:=h
theorem ZFE(h:p:=by ·have:=ap.size;simp at this;exact ZH):p:=h
theorem ZFi(h:p:=by
 have hb:b≠c:=fun e=>h (by rw[e];simp)
 obtain k:=_;exact k):p:=h
theorem ZIy(h:p:=by
 have R0:Aside (Jq s m en d d):=QQ.out ZA
 obtain k:=_;exact k):p:=h
theorem ZF7(h:p:=by obtain⟨Av,m,cp,rfl,hm,_,_,_⟩:=ho.rd;obtain k:=_;exact k):p:=h
theorem ZA3(h:p:=by refine' ZAh;refine' zk;obtain k:=_;exact k):p:=h
theorem ZBo(h:p:=by rw[jB];rfl):p:=h
theorem ZHX(h:p:=by have lz:Below w.heap.size w wz:=(Aw kW).1;rw[←kW];obtain k:=_;exact k):p:=h
theorem ZHd(h:p:=by
 (with_reducible refine(HP.out _).mono ?_);refine' ZT
 obtain k:=_;exact k):p:=h
theorem ZOr(h:p:=by
 have cm:(Ef.toList==[115,101,113,117,101,110,99,101])=true:=ZD
 generalize Ef=wd at *;obtain k:=_;exact k):p:=h
theorem ZQP(h:p:=by
 go_enter Tryz.func116,Tryz.ntmps116
 go_wp2_with (go_at_call 193;refine jt.mono ?_;refine' zN)
 obtain k:=_;exact k):p:=h
theorem ZSe(h:p:=by rw[ac];exact(aF _ _).alloc (aD _) _):p:=h
theorem ZDZ(h:p:=by refine' ZDr;refine' zl;clear l1;obtain k:=_;exact k):p:=h
theorem ZIY(h:p:=by unfold hop;rw[aR hi];dsimp only;obtain k:=_;exact k):p:=h
theorem ZNc(h:p:=by
 have K3:=aA (Aa HT.out k3);clear k1 k2 k3 z1 z2 z3 ld b1
 refine' ZQ;exact⟨rfl,K3.out⟩):p:=h
theorem ZTC(h:p:=by go_at_call 28;(with_reducible refine(HD.out _ k1.lay).mono ?_);refine' YX;have k2:=k1.below z2;obtain k:=_;exact k):p:=h
theorem ZKl(h:p:=by refine' ZBg;have HM:=aA (hm.on HT.out);subst e0;refine' zX;clear ac hv hb hm;refine' ZBh;obtain k:=_;exact k):p:=h
theorem ZMg(h:p:=by rw[run_convert_bytes_string _ _ _ 5 _ _ _ eG eF dC];obtain k:=_;exact k):p:=h
theorem ZDN(h:p:=by show _=_;simp):p:=h
theorem ZKu(h:p:=by
 have uJ:(m:Int)<(ys.length:Int):=ZA
 obtain⟨r,aj⟩:∃r,Hid (f x=r):=⟨_,rfl⟩
 obtain k:=_;exact k):p:=h
theorem ZLg(h:p:=by refine' ZES;have hu:rd w w.heap.size (.slice A2 m2 c2) ys:=⟨A2,m2,c2,rfl,nI,kC,jr,kq⟩;obtain k:=_;exact k):p:=h
theorem ZIo(h:p:=by show w.heap.size+1<_;omega):p:=h
theorem ZQR(h:p:=by
 conv=>rhs;rw[←List.map_id ps]
 refine List.map_congr_left fun p _=>?_
 exact Cv ZE):p:=h
theorem ZSa(h:p:=by
 have qL:((Pm p).toList==t.toList)=true:=hq
 have vT:Hid (Fk t=true):=ZVD
 refine' ZVA;obtain k:=_;exact k):p:=h
theorem ZLY(h:p:=by
 refine' ZKQ;have bf:w.heap.size<w0.heap.size:=ZA
 have jP:=aA ah;refine' zX;obtain k:=_;exact k):p:=h
theorem ZN7(h:p:=by rintro e w0 ⟨rfl,b0⟩;have B0:Below w.heap.size w w0:=fi.out.trans (b0.mono fi.out.size);obtain k:=_;exact k):p:=h
theorem ZOw(h:p:=by
 conv=>rhs;rw[←dW (k+1) xss,bT,aS]
 omega):p:=h
theorem ZRN(h:p:=by have m1:x∈y::l2:=hp.mem_iff.1 ZE;have m2:y∈x::l1:=hp.mem_iff.2 ZE;obtain k:=_;exact k):p:=h
theorem ZJT(h:p:=by
 obtain⟨Ad,md,cd,rfl, -, -, -, -⟩:=ho.rd;clear ho
 obtain k:=_;exact k):p:=h
theorem ZII(h:p:=by
 refine' zK;have B2:=aA (Aa B1.out b2);clear b2
 obtain k:=_;exact k):p:=h
theorem ZHC(h:p:=by have sj:=aA lZ;rw[←lZ]at da kI;clear lZ;obtain k:=_;exact k):p:=h
theorem ZMj(h:p:=by simp only[aN];refine⟨⟨h1,h2⟩,List.all_eq_true.2 fun y hy=>?_⟩;exact ZQK):p:=h
theorem ZNA(h:p:=by have lb:=(Aw lx).1;refine' ZEq;have xz:=aA (hf.below lb);have lF:=aA (Aa au lb);obtain k:=_;exact k):p:=h
theorem ZNw(h:p:=by obtain⟨cc,f8⟩:∃cc,AiY ds=cc:=⟨_,rfl⟩;rw[f8]at wF;have jz:=aA f8;clear f8;obtain k:=_;exact k):p:=h
theorem ZEM(h:p:=by simp only[this,dL];obtain k:=_;exact k):p:=h
theorem ZN0(h:p:=by
 ·have HE:=aA (show k=n by omega)
  refine' ZO;exact⟨Bo (by rw[HM.out,HE.out]),rfl⟩):p:=h
theorem ZAe(h:p:=by have ik:=aA b1;obtain k:=_;exact k):p:=h
theorem ZPx(h:p:=by
 ·have HF:=aA (AjA (net:=net) ZA)
  refine' ZO;exact⟨Al HF.out.symm,l0⟩):p:=h
theorem ZGg(h:p:=by show some _≠some _;simp):p:=h
theorem ZK4(h:p:=by rw[iv.out,←bY,xM.out];exact bz):p:=h
theorem ZMH(h:p:=by refine' ZQ;exact⟨_,Bf ZX,by rw[bw.out HF.out];exact⟨[],Md _ _ _ _⟩,l1⟩):p:=h
theorem ZO1(h:p:=by
 have cm:(Db.toList==[101,110,100,108,101,115,115])=true:=ZD
 generalize Db=wd at *;obtain k:=_;exact k):p:=h
theorem ZSA(h:p:=by
 have cm:(Cc.toList==[114,101,115,111,108,118,101])=true:=ZD
 generalize Cc=wd at *;obtain k:=_;exact k):p:=h
theorem ZGD(h:p:=by refine' ZC;refine' ZJ5;rw[←de.out];obtain k:=_;exact k):p:=h
theorem ZTR(h:p:=by
 refine' ZCv;have bv:=(hf.blk g rfl).2;have bd:c≤maxLen∧3≤c:=ZKF
 refine' ZKG;obtain k:=_;exact k):p:=h
theorem ZRm(h:p:=by
 go_enter Tryz.func147,Tryz.ntmps147
 refine' ZC;refine iz.out.mono ?_;refine' ZP;exact ZCb):p:=h
theorem ZUt(h:p:=by
 refine' ZB5;rintro e u1 ⟨vX,rfl,oX,z1⟩;have k1:=ao.below z1;have ah:=k0.lt;refine' ZJm
 obtain k:=_;exact k):p:=h
theorem ZAI(h:p:=by have HR:=aA hr;obtain k:=_;exact k):p:=h
theorem ZPU(h:p:=by
 ·have HE:Hid (rs.any (Iz p)=false):=ZPh
  refine' ZO;exact⟨Al HE.out.symm,lr⟩):p:=h
theorem ZAx(h:p:=by have ar:=aA ae;obtain k:=_;exact k):p:=h
theorem ZC0(h:p:=by intro G8 c8 w8 o8 ii _ xS;obtain k:=_;exact k):p:=h
theorem ZAp(h:p:=by
 go_wp2;rw[←lR.out]
 obtain k:=_;exact k):p:=h
theorem ZG5(h:p:=by rw[beq_eq_false_iff_ne];omega):p:=h
theorem ZPH(h:p:=by
 have hw:Region.wanted o (yielded ops a.tmps)=true:=by simp[Region.wanted,mw]
 rw[aP hw];obtain k:=_;exact k):p:=h
theorem ZQt(h:p:=by refine' ZU9;have h1:=H.2 j (ready_mono hj ko);obtain⟨uy,oj,vc,cw⟩:=mem_ready.1 hj;obtain k:=_;exact k):p:=h
theorem ZON(h:p:=by
 have cy:=aA (Aa j6.out b1);clear hp b1
 refine' ZI;exact⟨B8 HF.out.symm,cy.out⟩):p:=h
theorem ZLX(h:p:=by ·refine' ZDH;refine' ZO;exact⟨_,rfl,by rw[HE.out,aY]at ho;exact ho,lr⟩):p:=h
theorem ZNk(h:p:=by
 first|((with_reducible refine(H0.out _).mono ?_);refine' ZP)|refine' ZEx|refine' ZHi|fail
 obtain k:=_;exact k):p:=h
theorem ZIV(h:p:=by rw[HF.out];exact ky.out):p:=h
theorem ZLu(h:p:=by have eu:=aA (iq.out ZA);have ff:=aA (gm.out ZA);obtain k:=_;exact k):p:=h
theorem ZHE(h:p:=by refine' ZEh;exact h j hj):p:=h
theorem ZOA(h:p:=by
 have hO:Mv t=true:=by unfold Mv;rw[ci];rfl
 have hR:pbL t=[]:=by unfold pbL;rw[aP ci]
 obtain k:=_;exact k):p:=h
theorem ZOE(h:p:=by
 have hO:Tf t=true:=by unfold Tf;rw[ci];rfl
 have hR:pfF t=[]:=by unfold pfF;rw[aP ci]
 obtain k:=_;exact k):p:=h
theorem ZO9(h:p:=by have ce:=Sc p.order x.code;obtain⟨r,pE⟩:∃r,Hid (rkI p.order x.code=r):=⟨_,rfl⟩;obtain k:=_;exact k):p:=h
theorem ZQM(h:p:=by
 have hO:Qu t=true:=by unfold Qu;rw[ci];rfl
 have hR:prR t=[]:=by unfold prR;rw[aP ci]
 obtain k:=_;exact k):p:=h
theorem ZU2(h:p:=by rw[aH d7,Il];rfl):p:=h
theorem ZKe(h:p:=by show _=true;rw[hT.out,HA.out];simpa using HY.out):p:=h
theorem ZSL(h:p:=by show _=_;rw[ah];exact beq_eq_false_iff_ne.2 bg):p:=h
theorem ZUn(h:p:=by rw[Gj];have:=E4 (fun x=>f x==(d:Int)) xs k;omega):p:=h
theorem ZQm(h:p:=by rw[ug]at LA pG⊢;clear ug;refine(HC wA).mono ?_;rintro e w1 ⟨v,rfl,hp,b1⟩;clear HC;obtain k:=_;exact k):p:=h
theorem ZDU(h:p:=by simpa using hj):p:=h
theorem ZBq(h:p:=by
 refine(HC.out _).mono ?_
 obtain k:=_;exact k):p:=h
theorem ZOn(h:p:=by
 have q0:=fun W (hW:Below w.heap.size w W)=>(hW.cell (p:=⟨d,0,none⟩) (Az c0)).trans c0
 obtain k:=_;exact k):p:=h
theorem ZIE(h:p:=by obtain⟨vL,vO,vF,vN,os,h0,h1,h2,h3,h4,h5,h6⟩:=h;obtain k:=_;exact k):p:=h
theorem ZDt(h:p:=by simpa using hi):p:=h
theorem ZU6(h:p:=by
 ·have HB:=aA (AaI h hb)
  unfold sEq at hb;refine' ZO;exact⟨Al HB.out.symm,rfl⟩):p:=h
theorem ZMy(h:p:=by
 refine' ZAq;obtain⟨r,aj⟩:∃r,Hid (Fp d.size=r):=⟨_,rfl⟩;rw[aj.out]
 refine' ZI;obtain k:=_;exact k):p:=h
theorem ZO8(h:p:=by refine' ZIK;obtain⟨q1,q2⟩:=Aq9 i1 i2;have HS:=aA (Wd Aa2 0 xs k ab);refine' zp;obtain k:=_;exact k):p:=h
theorem ZNH(h:p:=by rw[qG]at oJ;rw[hP]at oJ d9⊢;have pN:=aA qG;have EJ:=aA hP;clear qG hP;obtain k:=_;exact k):p:=h
theorem ZTs(h:p:=by have lS:=lb.drew;have mY:=lc.drew;have oC:=lt.drew;have qf:=eb.drew;have qg:=ec.drew;obtain k:=_;exact k):p:=h
theorem ZKi(h:p:=by ·rw[bN vd,bN kv];exact h4 j k vd kv bj):p:=h
theorem ZJN(h:p:=by rw[HO.out,HV.out]<;>rfl):p:=h
theorem ZQi(h:p:=by obtain⟨r0,r1,r2,r3⟩:=Hc z0 z1 (.slice A m cp) (.bool true);have o2:=ow.out.below hb;obtain k:=_;exact k):p:=h
theorem ZNX(h:p:=by subst kW;unfold E8;rw[bD w _,AbE]):p:=h
theorem ZPs(h:p:=by
 have H5:=aA h5;rw[Tl]at h5;obtain⟨q,CT⟩:∃q,Hid (Gq net y.dst=q):=⟨_,rfl⟩
 obtain k:=_;exact k):p:=h
theorem ZAb(h:p:=by rw[h]):p:=h
theorem ZIC(h:p:=by obtain⟨b,o,cs,hA,hb,⟨ag,rfl⟩,hc⟩:=h k hk;obtain k:=_;exact k):p:=h
theorem ZIT(h:p:=by obtain⟨w4,rfl⟩:∃w4:World,w4=wr:=⟨_,rfl⟩;obtain k:=_;exact k):p:=h
theorem ZI3(h:p:=by
 have hl:t.data.toList.length=9:=by simpa using hz
 obtain k:=_;exact k):p:=h
theorem ZJe(h:p:=by
 show Bu _ _ _ _ _ _ _ _ (Act.put _ (some 51) _) _
 obtain k:=_;exact k):p:=h
theorem ZGH(h:p:=by first|exact ao):p:=h
theorem ZJ3(h:p:=by
 (go_at_call 46;refine(kZ _).mono ?_;refine' ZP)
 obtain k:=_;exact k):p:=h
theorem ZC6(h:p:=by refine' zR;have ct:=au.size;obtain k:=_;exact k):p:=h
theorem ZQA(h:p:=by show _=_;rw[HG.out,Af1 xh.out (HL.out az)]):p:=h
theorem ZLw(h:p:=by refine' ZC;generalize((w.alloc (aC #[] 119)).alloc (aC #[] 119))=wz at *;obtain k:=_;exact k):p:=h
theorem ZI1(h:p:=by rw[dG];intro i j hi hj pU;obtain k:=_;exact k):p:=h
theorem ZRI(h:p:=by rw[K2.out i i1];exact HT.out i ZA):p:=h
theorem ZRV(h:p:=by rw[Ra _ (fun _=>rfl),Sort.size_flatK,hl];simp):p:=h
theorem ZRk(h:p:=by
 have cm:(Dx.toList==[100,105,114,101,99,116])=true:=ZD
 generalize Dx=wd at *;obtain k:=_;exact k):p:=h
theorem ZUO(h:p:=by
 have cm:(B5.toList==[102,97,117,108,116,115])=true:=ZD
 generalize B5=wd at *;obtain k:=_;exact k):p:=h
theorem ZUh(h:p:=by rw[K1.out i i1];exact HT.out i ZA):p:=h
theorem ZRn(h:p:=by refine' ZAl;have h1:=Cq h.1;have h2:=bJ (fun x:Ltr=>pre x.code f) xs;obtain k:=_;exact k):p:=h
theorem ZEQ(h:p:=by have br:=aA (qk.out.below B4);obtain k:=_;exact k):p:=h
theorem ZCk(h:p:=by obtain⟨h1,h2,h3,h4⟩:=h;obtain k:=_;exact k):p:=h
theorem ZI2(h:p:=by simp[Lib.compareBytes]):p:=h
theorem ZFz(h:p:=by
 have:=Wa (b.extract (1+5*k) (6+5*k))
 obtain k:=_;exact k):p:=h
theorem ZGX(h:p:=by have hx:=h x (fU ..);obtain k:=_;exact k):p:=h
theorem ZGY(h:p:=by obtain⟨gg,⟨h1,h2⟩,h3,h4⟩:=h;obtain k:=_;exact k):p:=h
theorem ZDM(h:p:=by rw[h.2];rfl):p:=h
theorem ZJW(h:p:=by simp[Bool.toNat];omega):p:=h
theorem ZRh(h:p:=by refine' zQ;obtain⟨A,n,cc,rfl, -, -, -, -⟩:=hv;have HF:=aA (Dj _ fs w HV.out);obtain k:=_;exact k):p:=h
theorem ZRf(h:p:=by have:=HT.out;rw[aP he]at this;exact this):p:=h
theorem ZRg(h:p:=by have:=HT.out;rw[aL he]at this;exact this):p:=h
theorem ZKW(h:p:=by exact⟨0,aM _,rfl,aF _ _,fun j hj=>absurd hj (aX j)⟩):p:=h
theorem ZJf(h:p:=by
 show Bu _ _ _ _ _ _ _ _ (Act.put _ (some 52) _) _
 obtain k:=_;exact k):p:=h
theorem ZHK(h:p:=by have lo:Below w.heap.size w wo:=Aa lr (Aw ie).1;obtain k:=_;exact k):p:=h
theorem ZIv(h:p:=by exact Fs hw h.l a1 ZA ZA):p:=h
theorem ZJY(h:p:=by
 have bc:¬(k:Int)<(fs.length:Int):=ZA
 obtain k:=_;exact k):p:=h
theorem ZUV(h:p:=by simp[World.setCell,Array.getElem?_modify,h]):p:=h
theorem ZNd(h:p:=by rw[bQ hl];decide):p:=h
theorem ZQT(h:p:=by rw[cD,dV,h1,List.all_cons,h1,i2];exact⟨by rw[i1],rfl⟩):p:=h
theorem ZT4(h:p:=by rw[be];exact((kU.put 1 _).put 2 _).put 3 _):p:=h
theorem ZSq(h:p:=by rw[ai,←mn];exact own.made0 wA _ lA.size):p:=h
theorem ZSH(h:p:=by
 split
 ·exact h1 ‹_›
 ·exact h2 ‹_›):p:=h
theorem ZMK(h:p:=by
 refine' ZGp;have qw:vs.length=L.length:=hB.2.1;have PQ:vs.length≤60:=ZA
 obtain k:=_;exact k):p:=h
theorem ZQa(h:p:=by
 unfold Ib at h;obtain⟨⟨a,b⟩,hc,h⟩:=Option.bind_eq_some_iff.1 h;simp only at h
 obtain k:=_;exact k):p:=h
theorem ZTl(h:p:=by have HI:=aA (fun W=>Gh f W hz);have HZ:=aA (fun W=>Nm (Am f) W);rw[ho]at HZ;obtain k:=_;exact k):p:=h
theorem ZKq(h:p:=by refine⟨0,ov,aM _,rfl,lz,?_,own.nil_ _ _ _,.inl rfl,fun k hk=>.inl rfl⟩;obtain k:=_;exact k):p:=h
theorem ZOJ(h:p:=by simp[results,Tryz.results137,go_sem,k0,k1]):p:=h
theorem ZQO(h:p:=by simp[results,Tryz.results223,go_sem,k0,k1]):p:=h
theorem ZQk(h:p:=by simp[results,Tryz.results138,go_sem,k0,k1]):p:=h
theorem ZSx(h:p:=by refine Hs (S:=fun W=>Below w1.heap.size w1 W) 12 ZB js (fun aa=>?_);obtain k:=_;exact k):p:=h
theorem ZOl(h:p:=by
 have cm:(Gd.toList==[109,111,118,101,100])=true:=ZD
 generalize Gd=wd at *;obtain k:=_;exact k):p:=h
theorem ZTX(h:p:=by rw[bF,bH];omega):p:=h
theorem ZUp(h:p:=by rw[HR.out,dw.out,aP rfl];exact o3.out):p:=h
theorem ZPW(h:p:=by
 have hp7:p.size≤7:=ZA
 have xt:p.size≤maxLen:=ZN
 refine' zh;obtain k:=_;exact k):p:=h
theorem ZPo(h:p:=by
 have H3:=aA h3;have sO:(r != (k:Int))=false:=ZEz
 clear h3
 refine' ZC;obtain k:=_;exact k):p:=h
theorem ZUu(h:p:=by
 have ql:=aA mh
 obtain⟨AI,mI,cI,rfl,BH,_,_,_⟩:=mh.rd;subst BH;clear mh;obtain k:=_;exact k):p:=h
theorem ZC5(h:p:=by obtain⟨k,hk,rfl,hd⟩:=hrel;obtain k:=_;exact k):p:=h
theorem ZAU(h:p:=by rw[iU];obtain k:=_;exact k):p:=h
theorem YC(h:p:=by have l3:=Aa l2 b3;obtain k:=_;exact k):p:=h
theorem ZG7(h:p:=by rw[aL ZA,aP ZA];obtain k:=_;exact k):p:=h
theorem ZBB(h:p:=by refine Da (C1.out _)):p:=h
theorem ZAa(h:p:=by have HB:=aA hb;obtain k:=_;exact k):p:=h
theorem ZOD(h:p:=by simp[results,Tryz.results54,go_sem,k0,k1]):p:=h
theorem ZAd(h:p:=by have HK:=aA hk;obtain k:=_;exact k):p:=h
theorem ZOp(h:p:=by first|exact k3|exact k2|exact k1|exact ld):p:=h
theorem ZIu(h:p:=by rw[aL ZA,aL ZA];obtain k:=_;exact k):p:=h
theorem ZUM(h:p:=by refine' ZC;refine Ax rfl rfl (Cj aj.out) gI rfl Tryz.sizeSt rfl ?_;obtain k:=_;exact k):p:=h
theorem ZO5(h:p:=by
 have cm:(Dq.toList==[116,114,97,121,115])=true:=ZD
 generalize Dq=wd at *;obtain k:=_;exact k):p:=h
theorem ZRB(h:p:=by
 have y2:¬(40:Int)≤(n:Int):=ZA
 have y3:¬(40:Int)<(n:Int):=ZA
 obtain k:=_;exact k):p:=h
theorem ZRo(h:p:=by
 have cm:(Eo.toList==[99,111,117,110,116])=true:=ZD
 generalize Eo=wd at *;obtain k:=_;exact k):p:=h
theorem ZSB(h:p:=by
 have cm:(Ds.toList==[108,111,97,100,115])=true:=ZD
 generalize Ds=wd at *;obtain k:=_;exact k):p:=h
theorem ZJM(h:p:=by
 refine Ob (fun _=>?_) fun _=>?_
 ·exact AfD _ _
 obtain k:=_;exact k):p:=h
theorem ZTU(h:p:=by
 have cm:(Cz.toList==[102,97,117,108,116])=true:=ZD
 generalize Cz=wd at *;obtain k:=_;exact k):p:=h
theorem ZCA(h:p:=by
 refine' ZB7;refine' ZP
 obtain k:=_;exact k):p:=h
theorem ZNv(h:p:=by show _=_;rw[eT];exact HL.out):p:=h
theorem ZKn(h:p:=by
 clear h1 kX lD;have mK:=aA (Cq pF);have SD:xss.length≤16:=ZA
 obtain k:=_;exact k):p:=h
theorem ZEl(h:p:=by refine' ZT;have l1:=b1;clear b1 l0;obtain k:=_;exact k):p:=h
theorem ZQI(h:p:=by unfold Gi;rw[am.out ZFh];rfl):p:=h
theorem ZJd(h:p:=by have kD:=la.drew;have mC:=ea.drew;refine' zh;obtain k:=_;exact k):p:=h
theorem ZKh(h:p:=by refine' ZC;refine(CJ.out _ (aF _ _)).mono ?_;refine' ZDJ;have l4:=Aa lr b4;obtain k:=_;exact k):p:=h
theorem ZL1(h:p:=by first|rfl|(simp[qh];done)|(simp;omega)):p:=h
theorem ZPN(h:p:=by
 have cg:Hid ((R.1.map (Bw net)).length=z):=by show _=_;rw[bF,HZ.out]
 obtain k:=_;exact k):p:=h
theorem ZKd(h:p:=by rw[hG.out,hI.out (by simp[HY.out])];simp):p:=h
theorem ZIS(h:p:=by rw[HF.out];exact ze):p:=h
theorem ZG9(h:p:=by rw[Qe]at hk;exact hk):p:=h
theorem ZH9(h:p:=by refine' za;exact h0):p:=h
theorem ZDY(h:p:=by rw[h0];rfl):p:=h
theorem ZPv(h:p:=by show _=true;rw[hT.out,HA.out,H6.out];rfl):p:=h
theorem ZPQ(h:p:=by
 have HP:Hid (Iz p x=false):=by show _=_;rw[uR.out,wD];simp
 clear wD
 refine' ZC;obtain k:=_;exact k):p:=h
theorem ZLj(h:p:=by rw[h.2];intro u hu;simp at hu;rw[hu];rfl):p:=h
theorem ZNg(h:p:=by have w3:aI.wrap (10*(n:Int))=10*(n:Int):=bI _ ZA;obtain k:=_;exact k):p:=h
theorem ZOS(h:p:=by
 have sS:Hid (∀p∈Aj 32 t,p.size≤maxLen):=fun p hp=>by have:=Hi hp;exact ZN
 obtain k:=_;exact k):p:=h
theorem ZBQ(h:p:=by have jT:=aA bz;obtain k:=_;exact k):p:=h
theorem ZIX(h:p:=by
 have GU:(u:Int)<(rs.length:Int):=ZA
 obtain k:=_;exact k):p:=h
theorem ZRO(h:p:=by rw[insOuter_stop _ _ _ _ _ ZA,insOuter_stop _ _ _ _ _ ZA]):p:=h
theorem ZTy(h:p:=by have s7:=aA (fun(v:Value) (W:World) (h:rdP W W.heap.size v mp)=>Lc v mp W h);obtain k:=_;exact k):p:=h
theorem ZBM(h:p:=by refine HC.out.mono ?_;obtain k:=_;exact k):p:=h
theorem ZME(h:p:=by obtain⟨x,hx,rfl⟩:=List.mem_map.1 hy;obtain⟨oV,AZ⟩:=List.mem_filter.1 hx;obtain k:=_;exact k):p:=h
theorem ZMG(h:p:=by obtain⟨_,rfl⟩:=he;exact⟨hy,rfl⟩):p:=h
theorem ZS9(h:p:=by
 subst hA hB;have hz:(w.alloc (.cells cs T)).heap.size=w.heap.size+1:=ZE
 obtain k:=_;exact k):p:=h
theorem ZPe(h:p:=by show _=_;rw[nz.out,DN.out,HM.out];rfl):p:=h
theorem ZLT(h:p:=by have h:=C2.out w;rw[HQ.out]at h;exact h):p:=h
theorem ZSc(h:p:=by refine' ZCl;obtain⟨F,hF⟩:∃F,Co (Gl Hk (ps.take k))=F:=⟨_,rfl⟩;exact ZDz):p:=h
theorem ZIi(h:p:=by refine' ZQq;clear ge;generalize ps[k]=x at *;obtain k:=_;exact k):p:=h
theorem ZUq(h:p:=by obtain⟨a0,a1,a2,e0,e1,e2⟩:=B7 bt;have kh:=aA bt;have lK:=aA lJ;obtain k:=_;exact k):p:=h
theorem ZRy(h:p:=by
 go_enter Tryz.func150,Tryz.ntmps150
 refine' ZC;refine HO.out.mono ?_;refine' ZT;obtain k:=_;exact k):p:=h
theorem ZPO(h:p:=by refine' ZAu;refine' ZBk;have oy:=hp;unfold maxLen at oy;refine' ZA7;refine' YF;obtain k:=_;exact k):p:=h
end Go.Proofs.YtfadhdacjpmmeaaGreatDoor
