/- KB KC KD KE KF FD FE FG KJ -/
import Derived.Test.YtpinkbodbedajaaGreatDoorQ24
import Derived.Test.YtpinkbodbedajaaGreatDoorQ20
import Derived.Test.YtpinkbodbedajaaGreatDoorQ21
import Derived.Test.YtpinkbodbedajaaGreatDoorQ3
import Derived.Test.YtpinkbodbedajaaGreatDoorQ23
import Derived.Test.YtpinkbodbedajaaGreatDoorQ2
import Derived.Deep.RegionHeld3
import Derived.Test.YtpinkbodbedajaaGreatDoorQ13
import Derived.Test.YtpinkbodbedajaaGreatDoorQ11
import Derived.Test.YtpinkbodbedajaaGreatDoorQ15
namespace Go.Proofs.YtpinkbodbedajaaGreatDoor
open Go.RowKit Go.Shelf
attribute [local go_sem] Oper.semAt_some

theorem Tryz.infoLt : (Tryz.prog.info? 89).map (fun i => (i.zero, i.size, i.bytes)) = some (some (.agg #[.int .i64 0, .string ⟨#[]⟩]), 2, 24) := by kernel_rfl

/-! ### What is parsed -/
def partLt (x : ByteArray) : Option Ltr := match cutAt 58 x with
  | some (p, q) => if numOk p then some ⟨numV p, q⟩ else none
  | none => none
def allLt (ps : List ByteArray) : Bool := ps.all fun x => (partLt x).isSome
def gotLt (ps : List ByteArray) : List Ltr := ps.filterMap partLt
def pbParts (t : ByteArray) : Bool := allLt (partsB 32 t) && decide ((partsB 32 t).length ≤ 60)
def pbSome (t : ByteArray) : Bool := pbParts t && sEq (fmtB (gotLt (partsB 32 t))) t
def pbOk (t : ByteArray) : Bool := sEq t ⟨#[45]⟩ || pbSome t
def pbL (t : ByteArray) : List Ltr := if sEq t ⟨#[45]⟩ then [] else if pbSome t then gotLt (partsB 32 t) else []
theorem partLt_none {x : ByteArray} (h : cutAt 58 x = none) : partLt x = none := by unfold partLt; rw [h]
theorem partLt_no {x p q : ByteArray} (h : cutAt 58 x = some (p, q)) (hn : numOk p = false) : partLt x = none := by unfold partLt; rw [h]; simp [hn]
theorem partLt_yes {x p q : ByteArray} (h : cutAt 58 x = some (p, q)) (hn : numOk p = true) : partLt x = some ⟨numV p, q⟩ := by unfold partLt; rw [h]; simp [hn]
theorem gotLt_len : ∀ ps : List ByteArray, allLt ps = true → (gotLt ps).length = ps.length
  | [], _ => rfl
  | x :: ps, h => by
    unfold allLt at h
    rw [List.all_cons, Bool.and_eq_true] at h
    obtain ⟨y, hy⟩ := Option.isSome_iff_exists.1 h.1
    unfold gotLt
    rw [List.filterMap_cons, hy]
    show (gotLt ps).length + 1 = _
    rw [gotLt_len ps h.2]
    rfl
theorem gotLt_snoc {ps : List ByteArray} {x : ByteArray} {y : Ltr} (h : partLt x = some y) : gotLt (ps ++ [x]) = gotLt ps ++ [y] := by
  unfold gotLt
  rw [List.filterMap_append]
  simp [h]
theorem allLt_snoc (ps : List ByteArray) (x : ByteArray) : allLt (ps ++ [x]) = (allLt ps && (partLt x).isSome) := by
  unfold allLt
  rw [List.all_append]
  simp
theorem allLt_bad (ps : List ByteArray) {x : ByteArray} (h : partLt x = none) : allLt (ps ++ [x]) = false := by
  rw [allLt_snoc, h]; simp
theorem allLt_prefix {ps qs : List ByteArray} (h : ps <+: qs) (hf : allLt ps = false) : allLt qs = false := by
  obtain ⟨r, rfl⟩ := h
  unfold allLt at *
  rw [List.all_append, hf]
  rfl

/-- What lies between two rounds. -/
def pbI (h : Nat) (w0 : World) (B : Nat) (pre : List ByteArray) (W : World) : Prop :=
  (∃ v, Boxed W (h + 1 + 1) 29 v ∧ own 89 B W v (gotLt pre)) ∧ B ≤ W.heap.size ∧ allLt pre = true ∧ pre.length ≤ 60 ∧ Boxed W h 29 (.slice none 0 0) ∧ Boxed W (h + 1) 4 (.bool false) ∧ Below h w0 W
/-- .. where a round has returned. -/
def pbX (h : Nat) (w0 : World) (pre : List ByteArray) (W : World) : Prop :=
  (allLt pre = false ∨ 60 < pre.length) ∧ Boxed W h 29 (.slice none 0 0) ∧ Boxed W (h + 1) 4 (.bool false) ∧ Below h w0 W
theorem pbI_bears {h B z : Nat} {w0 : World} (hz : h + 1 + 1 < z) (hzB : z < B) (hs : h ≤ w0.heap.size) : Bears B z (pbI h w0 B) := by
  rintro pre A C row ⟨⟨v, hv, ho⟩, h0, h1, h2, h3, h4, h5⟩ hg hr
  have ne : ∀ k, k < z → some k ≠ row := fun k hk e => by
    rcases hr k e.symm with h | ⟨h, _⟩ <;> omega
  refine ⟨⟨v, hv.kept hg (ne _ (by omega)), ho.grown hg ?_⟩, Nat.le_trans h0 hg.size, h1, h2, h3.kept hg (ne _ (by omega)), h4.kept hg (ne _ (by omega)), h5.grown hg (Nat.le_trans hs h5.size) fun k e => ?_⟩
  · cases hb : v.ownBlock with
    | none => exact .inl rfl
    | some k =>
      refine .inr fun e => ?_
      have hk := (ho.blk k hb).1
      rcases hr k e.symm with h | ⟨_, o, ho1, ho2⟩
      · omega
      · obtain ⟨o', ho3, ho4⟩ := own_isCells ho hb
        rw [ho3] at ho1
        injection ho1 with ho1
        rw [ho1, ho2] at ho4
        cases ho4
  · rcases hr k e with h | ⟨h, _⟩ <;> omega
theorem pbX_bears {h B z : Nat} {w0 : World} (hz : h + 1 + 1 < z) (hzB : z < B) (hs : h ≤ w0.heap.size) : Bears B z (pbX h w0) := by
  rintro pre A C row ⟨h1, h3, h4, h5⟩ hg hr
  have ne : ∀ k, k < z → some k ≠ row := fun k hk e => by
    rcases hr k e.symm with h | ⟨h, _⟩ <;> omega
  refine ⟨h1, h3.kept hg (ne _ (by omega)), h4.kept hg (ne _ (by omega)), h5.grown hg (Nat.le_trans hs h5.size) fun k e => ?_⟩
  rcases hr k e with h | ⟨h, _⟩ <;> omega

set_option maxRecDepth 100000 in
set_option maxHeartbeats 3200000 in
theorem impl_ParseBatch (t : ByteArray) (w : World) (ht : t.size ≤ maxLen) (hX : TabW w) :
    Calls Tryz.prog 133 #[.string t] w fun e w' => ∃ v', e = .returned (.tuple #[v', .bool (pbOk t)]) ∧ own 89 w.heap.size w' v' (pbL t) ∧ Below w.heap.size w w' := by
  have HTB := Lib.hid hX; clear hX
  refine (callsIn_wide (n := 9)).1 ?_
  have hn9 : 1 ≤ 9 := by omega
  refine callsIn_of_wp_marks Tryz.func133 rfl trivial ?_ rfl
  simp only [Tryz.ntmps133, List.size_toArray, List.length_cons, List.length_nil, Nat.reduceAdd, Nat.reduceSub, Array.replicate_succ, Array.replicate_zero, List.push_toArray, List.append_toArray, List.nil_append, List.cons_append]
  by_cases h45 : sEq t ⟨#[45]⟩ = true
  · have hO : pbOk t = true := by unfold pbOk; rw [h45]; rfl
    have hR : pbL t = [] := by unfold pbL; rw [if_pos h45]
    have HO := Lib.hid hO; have HR := Lib.hid hR
    clear hO hR
    have h46 : (t.toList == [45]) = true := by unfold sEq at h45; rw [ByteArray.toList_eq ⟨#[45]⟩] at h45; exact h45
    clear h45
    gi_wp2
    refine ⟨.tuple #[.slice none 0 0, .bool true], by simp [results, Tryz.results133, go_sem], _, by rw [HO.out], by rw [HR.out]; exact own.nil_ _ _ _, ?_⟩
    exact ((Below.refl _ w).alloc (Nat.le_refl _) _).alloc (by simp) _
  · have h46 : (t.toList == [45]) = false := by rw [Bool.not_eq_true] at h45; unfold sEq at h45; rw [ByteArray.toList_eq ⟨#[45]⟩] at h45; exact h45
    have HO : Hid (pbOk t = pbSome t) := by show _ = _; unfold pbOk; rw [Bool.not_eq_true] at h45; rw [h45]; rfl
    have HR : Hid (pbL t = if pbSome t then gotLt (partsB 32 t) else []) := by show _ = _; unfold pbL; rw [if_neg h45]
    clear h45
    have HS := fun W => strings_SplitSeq t 32 W
    have b0 := ((Boxed.new w 29 (.slice none 0 0)).alloc (Obj.cells #[.bool false] 4)).alloc (Obj.cells #[.slice none 0 0] 29)
    have b1 := (Boxed.new (w.alloc (Obj.cells #[.slice none 0 0] 29)) 4 (.bool false)).alloc (Obj.cells #[.slice none 0 0] 29)
    have b2 := Boxed.new ((w.alloc (Obj.cells #[.slice none 0 0] 29)).alloc (Obj.cells #[.bool false] 4)) 29 (.slice none 0 0)
    have l3 : Below w.heap.size w (((w.alloc (Obj.cells #[.slice none 0 0] 29)).alloc (Obj.cells #[.bool false] 4)).alloc (Obj.cells #[.slice none 0 0] 29)) := (((Below.refl _ w).alloc (Nat.le_refl _) _).alloc (by simp) _).alloc (by simp; omega) _
    rw [World.size_alloc] at b1 b2
    rw [World.size_alloc] at b2
    have B0 := Lib.hid b0; have B1 := Lib.hid b1; have B2 := Lib.hid b2; have L3 := Lib.hid l3
    clear b0 b1 b2 l3
    gi_wp2_with (refine ⟨trivial, ?_⟩; gi_at_call 196; refine (callsIn_wide.2 (HS _)).mono ?_; rintro e w6 ⟨rfl, hcap, hb6, hz6⟩)
    have hz3 : (((w.alloc (Obj.cells #[.slice none 0 0] 29)).alloc (Obj.cells #[.bool false] 4)).alloc (Obj.cells #[.slice none 0 0] 29)).heap.size = w.heap.size + 1 + 1 + 1 := by simp
    generalize (((w.alloc (Obj.cells #[.slice none 0 0] 29)).alloc (Obj.cells #[.bool false] 4)).alloc (Obj.cells #[.slice none 0 0] 29)) = w3 at *
    rw [hz3] at hcap hz6
    have x0 : Boxed w6 (w.heap.size) 29 (.slice none 0 0) := (hb6.block _ (by omega)).trans B0.out
    have x1 : Boxed w6 (w.heap.size + 1) 4 (.bool false) := (hb6.block _ (by omega)).trans B1.out
    have x2 : Boxed w6 (w.heap.size + 1 + 1) 29 (.slice none 0 0) := (hb6.block _ (by omega)).trans B2.out
    have l6 : Below w.heap.size w w6 := L3.out.trans (hb6.mono (by omega))
    clear B0 B1 B2 L3 hb6 HS hz3
    obtain ⟨i0, hi, hi0, hi1, hi2⟩ := info_parts Tryz.infoLt
    refine range_iterZ (F := Fence.wide) (n := 9) rfl (by omega) (gf := 278) (lb := #[.pointer (some ⟨w.heap.size + 1 + 1 + 1 + 1, 0, none⟩), .pointer (some ⟨w.heap.size + 1 + 1 + 1, 0, none⟩), .pointer (some ⟨w.heap.size + 1 + 1 + 1 + 2, 0, none⟩)]) rfl trivial (enters_of Tryz.func278 (by kernel_rfl) rfl)
      (split_iter 8 (w.heap.size + 1 + 1 + 1) (by omega) 32 t w6 hcap ht) (fun k hk => by simp at hk; omega) (by omega) (fun _ => rfl)
      (pbI w.heap.size w w6.heap.size) (pbX w.heap.size w) (pbI_bears (by omega) (by omega) (Nat.le_refl _)) (pbX_bears (by omega) (by omega) (Nat.le_refl _))
      ⟨⟨_, x2, own.nil_ _ _ _⟩, Nat.le_refl _, rfl, Nat.zero_le _, x0, x1, l6⟩
      (fun x => { tmps := #[.string t, undef, .pointer (some ⟨w.heap.size, 0, none⟩), .pointer (some ⟨w.heap.size + 1, 0, none⟩), .pointer (some ⟨w.heap.size + 1 + 1, 0, none⟩), .string x, undef, undef, undef, undef, undef, .string t, .bool false, .string t, .func (.func 278) #[] #[.pointer (some ⟨w.heap.size + 1 + 1 + 1 + 1, 0, none⟩), .pointer (some ⟨w.heap.size + 1 + 1 + 1, 0, none⟩), .pointer (some ⟨w.heap.size + 1 + 1 + 1 + 2, 0, none⟩)], .string x, undef, undef, undef, undef, undef, undef, undef, undef, undef, undef, undef, undef, undef, undef, undef, undef, undef, undef, undef, undef, undef, undef, undef, undef, undef, undef, undef, undef, undef, undef, undef, undef, undef], defers := [] }) ?assign ?body ?done ?stop
    case assign =>
      intro l x W K hK
      gi_wp2
      exact hK
    case body =>
      rintro l pre x W ⟨⟨v, hv, ho⟩, hBW, hall, hlen, y0, y1, hB⟩ _ hx
      have hd : 1 ≤ 9 - 1 - 1 := by omega
      have HC := strings_Cut1 x 58 W hx
      have y0c := Lib.hid y0; have y1c := Lib.hid y1; have hvc := Lib.hid hv; have hoc := Lib.hid ho
      rcases hcx : cutAt 58 x with _ | ⟨p, q⟩
      · have HCn : Calls Tryz.prog 130 #[.string x, .string ⟨#[58]⟩] W fun e w' => Below W.heap.size W w' ∧ e = .returned (.tuple #[.string x, .string ⟨#[]⟩, .bool false]) := HC.mono fun e w' h => by
          obtain ⟨hb, ⟨_, he⟩ | ⟨p, q, h, _⟩⟩ := h
          · exact ⟨hb, he⟩
          · rw [hcx] at h; cases h
        have HP : Hid (allLt (pre ++ [x]) = false) := allLt_bad pre (partLt_none hcx)
        have HN := Lib.hid (fun V => impl_parseNumber x V hx)
        generalize numOk x = nok at *
        generalize numV x = nv at *
        clear HC hcx y0 y1 hv ho
        gi_wp2_with (first | (refine ⟨trivial, ?_⟩; gi_at_call 130; refine (CallsIn.inRound l (callsIn_wide.2 HCn)).mono ?_; rintro e W2 ⟨hb, rfl⟩; have z0 : Boxed W2 _ _ _ := (hb.block _ y0c.out.lt).trans y0c.out; have z1 : Boxed W2 _ _ _ := (hb.block _ y1c.out.lt).trans y1c.out; have c0 := z0.cell; have c1 := z1.cell; have f0 := z0.frozen; have f1 := z1.frozen) | (refine ⟨trivial, ?_⟩; gi_at_call 197; refine (CallsIn.inRound l (callsIn_wide.2 (HN.out _))).mono ?_; rintro e _ ⟨rfl, rfl⟩))
        obtain ⟨r0, r1, r2, r3⟩ := set_two z0 z1 (.slice none 0 0) (.bool false)
        exact ⟨(keeps_below hb).trans r2, .inl HP.out, r0, r1, (hB.trans (hb.mono hB.size)).trans (r3 _ (Nat.le_refl _))⟩
      · have HCn : Calls Tryz.prog 130 #[.string x, .string ⟨#[58]⟩] W fun e w' => Below W.heap.size W w' ∧ e = .returned (.tuple #[.string p, .string q, .bool true]) := HC.mono fun e w' h => by
          obtain ⟨hb, ⟨h, _⟩ | ⟨p', q', h, he⟩⟩ := h
          · rw [hcx] at h; cases h
          · rw [hcx] at h; cases h; exact ⟨hb, he⟩
        have hpq := cut_sizes hcx
        have HN := Lib.hid (fun V => impl_parseNumber p V (by omega))
        cases hno : numOk p
        · have HP : Hid (allLt (pre ++ [x]) = false) := allLt_bad pre (partLt_no hcx hno)
          rw [hno] at HN
          generalize numV p = nv at *
          clear HC hcx y0 y1 hv ho hno
          gi_wp2_with (first | (refine ⟨trivial, ?_⟩; gi_at_call 130; refine (CallsIn.inRound l (callsIn_wide.2 HCn)).mono ?_; rintro e W2 ⟨hb, rfl⟩; have z0 : Boxed W2 _ _ _ := (hb.block _ y0c.out.lt).trans y0c.out; have z1 : Boxed W2 _ _ _ := (hb.block _ y1c.out.lt).trans y1c.out; have c0 := z0.cell; have c1 := z1.cell; have f0 := z0.frozen; have f1 := z1.frozen) | (refine ⟨trivial, ?_⟩; gi_at_call 197; refine (CallsIn.inRound l (callsIn_wide.2 (HN.out _))).mono ?_; rintro e _ ⟨rfl, rfl⟩))
          obtain ⟨r0, r1, r2, r3⟩ := set_two z0 z1 (.slice none 0 0) (.bool false)
          exact ⟨(keeps_below hb).trans r2, .inl HP.out, r0, r1, (hB.trans (hb.mono hB.size)).trans (r3 _ (Nat.le_refl _))⟩
        · have hpx := partLt_yes hcx hno
          have hnb := nVal_bound (d := absB p) (ng := negB p)
          rw [show nVal (absB p) (negB p) = numV p from rfl] at hnb
          rw [hno] at HN
          generalize numV p = nv at *
          have HP := Lib.hid hpx
          have hgl := gotLt_len pre hall
          obtain ⟨A, m, cp, rfl, hm, _, _, _⟩ := ho.rd
          clear HC hcx hpx y0 y1 hv ho hno
          by_cases h20 : m = 60
          · have hm20 : ((m : Int) == 60) = true := by simp [h20]
            have HL : Hid (60 < (pre ++ [x]).length) := by show _ < _; rw [List.length_append]; show 60 < pre.length + 1; omega
            clear h20 hm hgl hpq
            gi_wp2_with (first | (refine ⟨trivial, ?_⟩; gi_at_call 130; refine (CallsIn.inRound l (callsIn_wide.2 HCn)).mono ?_; rintro e W2 ⟨hb, rfl⟩; have z0 : Boxed W2 _ _ _ := (hb.block _ y0c.out.lt).trans y0c.out; have z1 : Boxed W2 _ _ _ := (hb.block _ y1c.out.lt).trans y1c.out; have z2 : Boxed W2 _ _ _ := (hb.block _ hvc.out.lt).trans hvc.out; have c0 := z0.cell; have c1 := z1.cell; have c2 := z2.cell; have f0 := z0.frozen; have f1 := z1.frozen) | (refine ⟨trivial, ?_⟩; gi_at_call 197; refine (CallsIn.inRound l (callsIn_wide.2 (HN.out _))).mono ?_; rintro e _ ⟨rfl, rfl⟩))
            obtain ⟨r0, r1, r2, r3⟩ := set_two z0 z1 (.slice none 0 0) (.bool false)
            exact ⟨(keeps_below hb).trans r2, .inr HL.out, r0, r1, (hB.trans (hb.mono hB.size)).trans (r3 _ (Nat.le_refl _))⟩
          · have hm20 : ((m : Int) == 60) = false := beq_eq_false_iff_ne.2 (by omega)
            have hg19 : (gotLt pre).length ≤ 59 := by omega
            have HPL : Hid (pre.length ≤ 59) := by show _ ≤ _; omega
            have HY : Hid (Ltr.ok ⟨nv, q⟩) := ⟨by show isI64 nv; unfold isI64; omega, by show q.size ≤ _; omega⟩
            clear h20 hm hgl hpq hnb
            gi_wp2_with (first | (refine ⟨trivial, ?_⟩; gi_at_call 130; refine (CallsIn.inRound l (callsIn_wide.2 HCn)).mono ?_; rintro e W2 ⟨hb, rfl⟩; have z0 : Boxed W2 _ _ _ := (hb.block _ y0c.out.lt).trans y0c.out; have z1 : Boxed W2 _ _ _ := (hb.block _ y1c.out.lt).trans y1c.out; have z2 : Boxed W2 _ _ _ := (hb.block _ hvc.out.lt).trans hvc.out; have c2 := z2.cell; have o2 := hoc.out.below hb; have hs2 := hb.size) | (refine ⟨trivial, ?_⟩; gi_at_call 197; refine (CallsIn.inRound l (callsIn_wide.2 (HN.out _))).mono ?_; rintro e _ ⟨rfl, rfl⟩) | (gi_at_builtin; refine wpListIn_append1 (α := Ltr) rfl (.tmp 38) (.tmp 42) 29 rfl w6.heap.size 89 i0 _ 24 Tryz.underlying29 hi hi0 hi1 hi2 rfl (by decide) (.slice A m cp) (gotLt pre) ⟨nv, q⟩ rfl (o2.alloc _) ⟨W2.heap.size, 0, none⟩ 1 (Ltr.cells ⟨nv, q⟩) rfl ⟨HY.out, rfl⟩ (news_at W2 _ (Ltr.cells ⟨nv, q⟩)) (by unfold maxLen; omega) (by omega) (by simp; omega) ?_; intro v5 w5 o5 hg5; have u2 : Boxed w5 _ _ _ := (z2.alloc _).kept hg5 (fun e => by have := (o2.blk _ e.symm).1; omega); have e2 := u2.cell; have g2 := u2.frozen; obtain ⟨A5, n5, c5, rfl, -, -, -, -⟩ := o5.rd))
            have hk5 : ∀ k, k < w6.heap.size → k ≠ w.heap.size + 1 + 1 → (w5.setCell ⟨w.heap.size + 1 + 1, 0, none⟩ (.slice A5 n5 c5)).heap[k]? = W.heap[k]? := fun k h1 h2 => by
              have a1 := (grownBy_setCell' w5 (w.heap.size + 1 + 1) (.slice A5 n5 c5)).block k (by have := hg5.size; simp at this; omega) (fun e => h2 (by injection e))
              have a2 := hg5.block k (by simp; omega) (fun e => by have := (o2.blk _ e.symm).1; omega)
              exact a1.trans (a2.trans ((Below.heap_alloc W2 _ k (by omega)).trans (hb.block k (by omega))))
            have hko : KeepsOthers W (w5.setCell ⟨w.heap.size + 1 + 1, 0, none⟩ (.slice A5 n5 c5)) := (((keeps_below hb).trans (KeepsOthers.alloc W2 _)).trans (KeepsOthers.of_grownBy hg5 fun j o ej hj => by
              obtain ⟨o', h1, h2⟩ := own_isCells (o2.alloc (Obj.cells #[.int .i64 nv, .string q] 89)) ej
              rw [h1] at hj; injection hj with hj; rw [← hj]; exact h2)).trans (KeepsOthers.setCell _ _ _)
            refine ⟨hko, fun k hk => hk5 k (by simp at hk; omega) (by simp at hk; omega), ⟨_, u2.set _, ?_⟩, ?_, ?_, ?_, ?_, ?_, ?_⟩
            · rw [gotLt_snoc HP.out]
              exact own_out o5 ⟨w.heap.size + 1 + 1, 0, none⟩ _ (by show w.heap.size + 1 + 1 < _; omega)
            · have := hg5.size; simp at this; simp; omega
            · rw [allLt_snoc, hall, HP.out]; rfl
            · have := HPL.out; rw [List.length_append]; show pre.length + 1 ≤ 60; omega
            · exact (hk5 _ (by omega) (by omega)).trans y0c.out
            · exact (hk5 _ (by omega) (by omega)).trans y1c.out
            · refine hB.trans ⟨?_, ?_, ?_, ?_, fun k h1 => hk5 k (by omega) (by omega)⟩
              · exact hg5.os.trans hb.os
              · exact hg5.tape.trans hb.tape
              · exact hg5.output.trans hb.output
              · exact hko.1
    case done =>
      rintro D ys W hD rfl ⟨⟨v, hv, ho⟩, hBW, hall, hlen, y0, y1, hB⟩ hK
      have hPS : pbSome t = sEq (fmtB (gotLt (partsB 32 t))) t := by unfold pbSome pbParts; rw [hall, decide_eq_true hlen]; rfl
      obtain ⟨A, m, cp, rfl, -, -, -, -⟩ := ho.rd
      have HV := impl_FormatBatch (.slice A m cp) (gotLt (partsB 32 t)) W ho.rd (HTB.out.on hB)
      have hfz := fmtB_size (gotLt (partsB 32 t))
      have y0c := Lib.hid y0; have y1c := Lib.hid y1; have hvc := Lib.hid hv; have hoc := Lib.hid ho
      have c2 := hv.cell
      clear hall hlen ho hv y0 y1
      obtain ⟨F, hFe⟩ : ∃ F, fmtB (gotLt (partsB 32 t)) = F := ⟨_, rfl⟩
      rw [hFe] at HV hPS hfz
      clear hFe
      cases hro : sEq F t
      · rw [hro] at hPS
        have HPS := Lib.hid hPS
        have hq : (F.toList == t.toList) = false := by unfold sEq at hro; exact hro
        clear hPS hro
        dsimp only
        gi_wp2_with (refine ⟨trivial, ?_⟩; gi_at_call 12; refine (callsIn_wide.2 HV).mono ?_; rintro e W2 ⟨rfl, hb⟩; have z0 : Boxed W2 _ _ _ := (hb.block _ y0c.out.lt).trans y0c.out; have z1 : Boxed W2 _ _ _ := (hb.block _ y1c.out.lt).trans y1c.out; have z2 : Boxed W2 _ _ _ := (hb.block _ hvc.out.lt).trans hvc.out; have c0 := z0.cell; have c1 := z1.cell; have c2 := z2.cell; have f0 := z0.frozen; have f1 := z1.frozen)
        obtain ⟨r0, r1, r2, r3⟩ := set_two z0 z1 (.slice none 0 0) (.bool false)
        have hD2 : ((W2.setCell ⟨w.heap.size, 0, none⟩ (.slice none 0 0)).setCell ⟨w.heap.size + 1, 0, none⟩ (.bool false)).heap[D]? = some (.deferred (some [])) := r2.same _ _ ((keeps_below hb).same _ _ hK rfl) rfl
        have k0 := (r0.kept (grownBy_putObj' ((W2.setCell ⟨w.heap.size, 0, none⟩ (.slice none 0 0)).setCell ⟨w.heap.size + 1, 0, none⟩ (.bool false)) D (.deferred none)) (fun e => by injection e; omega)).cell
        have k1 := (r1.kept (grownBy_putObj' ((W2.setCell ⟨w.heap.size, 0, none⟩ (.slice none 0 0)).setCell ⟨w.heap.size + 1, 0, none⟩ (.bool false)) D (.deferred none)) (fun e => by injection e; omega)).cell
        have hBz : Below w.heap.size w (((W2.setCell ⟨w.heap.size, 0, none⟩ (.slice none 0 0)).setCell ⟨w.heap.size + 1, 0, none⟩ (.bool false)).putObj D (.deferred none)) := ((hB.trans (hb.mono hB.size)).trans (r3 _ (Nat.le_refl _))).grown (grownBy_putObj' _ _ _) (by have := ((hB.trans (hb.mono hB.size)).trans (r3 _ (Nat.le_refl _))).size; omega) (fun r e => by injection e; omega)
        refine ⟨by simp, .inl ⟨_, _, rfl, run_takeDeferred hD2, ?_⟩⟩
        refine ⟨.tuple #[.slice none 0 0, .bool false], by simp [results, Tryz.results133, go_sem, k0, k1], _, by rw [HO.out, HPS.out], by rw [HR.out, HPS.out]; exact own.nil_ _ _ _, hBz⟩
      · rw [hro] at hPS
        have HPS := Lib.hid hPS
        have hq : (F.toList == t.toList) = true := by unfold sEq at hro; exact hro
        clear hPS hro
        dsimp only
        gi_wp2_with (refine ⟨trivial, ?_⟩; gi_at_call 12; refine (callsIn_wide.2 HV).mono ?_; rintro e W2 ⟨rfl, hb⟩; have z0 : Boxed W2 _ _ _ := (hb.block _ y0c.out.lt).trans y0c.out; have z1 : Boxed W2 _ _ _ := (hb.block _ y1c.out.lt).trans y1c.out; have z2 : Boxed W2 _ _ _ := (hb.block _ hvc.out.lt).trans hvc.out; have c0 := z0.cell; have c1 := z1.cell; have c2 := z2.cell; have f0 := z0.frozen; have f1 := z1.frozen)
        obtain ⟨r0, r1, r2, r3⟩ := set_two z0 z1 (.slice A m cp) (.bool true)
        have o2 := hoc.out.below hb
        have oz := own_out (own_out o2 ⟨w.heap.size, 0, none⟩ (.slice A m cp) (by show w.heap.size < _; omega)) ⟨w.heap.size + 1, 0, none⟩ (.bool true) (by show w.heap.size + 1 < _; omega)
        have hD2 : ((W2.setCell ⟨w.heap.size, 0, none⟩ (.slice A m cp)).setCell ⟨w.heap.size + 1, 0, none⟩ (.bool true)).heap[D]? = some (.deferred (some [])) := r2.same _ _ ((keeps_below hb).same _ _ hK rfl) rfl
        have k0 := (r0.kept (grownBy_putObj' ((W2.setCell ⟨w.heap.size, 0, none⟩ (.slice A m cp)).setCell ⟨w.heap.size + 1, 0, none⟩ (.bool true)) D (.deferred none)) (fun e => by injection e; omega)).cell
        have k1 := (r1.kept (grownBy_putObj' ((W2.setCell ⟨w.heap.size, 0, none⟩ (.slice A m cp)).setCell ⟨w.heap.size + 1, 0, none⟩ (.bool true)) D (.deferred none)) (fun e => by injection e; omega)).cell
        have hBz : Below w.heap.size w (((W2.setCell ⟨w.heap.size, 0, none⟩ (.slice A m cp)).setCell ⟨w.heap.size + 1, 0, none⟩ (.bool true)).putObj D (.deferred none)) := ((hB.trans (hb.mono hB.size)).trans (r3 _ (Nat.le_refl _))).grown (grownBy_putObj' _ _ _) (by have := ((hB.trans (hb.mono hB.size)).trans (r3 _ (Nat.le_refl _))).size; omega) (fun r e => by injection e; omega)
        refine ⟨by simp, .inl ⟨_, _, rfl, run_takeDeferred hD2, ?_⟩⟩
        refine ⟨.tuple #[.slice A m cp, .bool true], by simp [results, Tryz.results133, go_sem, k0, k1], _, by rw [HO.out, HPS.out], by rw [HR.out, HPS.out, if_pos rfl]; exact (oz.grown (grownBy_putObj' _ D _) (own_notD oz hD2)).base_ (by omega), hBz⟩
    case stop =>
      rintro D pre W hD hpre ⟨hbad, y0, y1, hB⟩ hK
      have hPS : pbSome t = false := by
        unfold pbSome pbParts
        rcases hbad with h | h
        · rw [allLt_prefix hpre h]; rfl
        · have := hpre.length_le
          rw [decide_eq_false (by omega)]
          simp
      have HPS := Lib.hid hPS
      have k0 := (y0.kept (grownBy_putObj' W D (.deferred none)) (fun e => by injection e; omega)).cell
      have k1 := (y1.kept (grownBy_putObj' W D (.deferred none)) (fun e => by injection e; omega)).cell
      have hBz : Below w.heap.size w (W.putObj D (.deferred none)) := hB.grown (grownBy_putObj' _ _ _) hB.size (fun r e => by injection e; omega)
      clear hPS hbad hpre
      dsimp only
      gi_wp2
      refine ⟨by simp, .inl ⟨_, _, rfl, run_takeDeferred hK, ?_⟩⟩
      refine ⟨.tuple #[.slice none 0 0, .bool false], by simp [results, Tryz.results133, go_sem, k0, k1], _, by rw [HO.out, HPS.out], by rw [HR.out, HPS.out]; exact own.nil_ _ _ _, hBz⟩

end Go.Proofs.YtpinkbodbedajaaGreatDoor

namespace Go.Proofs.YtpinkbodbedajaaGreatDoor
open Go.RowKit Go.Shelf
attribute [local go_sem] Oper.semAt_some

end Go.Proofs.YtpinkbodbedajaaGreatDoor

namespace Go.Proofs.YtpinkbodbedajaaGreatDoor
open Go.RowKit

end Go.Proofs.YtpinkbodbedajaaGreatDoor

namespace Go.Proofs.YtpinkbodbedajaaGreatDoor
open Go.RowKit

/-- A plan as a text; nothing if it is not valid. -/
def fmtPl (p : Pln) : ByteArray := if planOk p = true then decB p.bins.toNat ++ ⟨#[32]⟩ ++ decB p.passes.toNat ++ ⟨#[32]⟩ ++ joinT p.order spT else ⟨#[]⟩
theorem fmtPl_no {p : Pln} (h : planOk p = false) : fmtPl p = ⟨#[]⟩ := by unfold fmtPl; rw [h]; rfl
theorem fmtPl_yes {p : Pln} (h : planOk p = true) : fmtPl p = decB p.bins.toNat ++ ⟨#[32]⟩ ++ decB p.passes.toNat ++ ⟨#[32]⟩ ++ joinT p.order spT := by unfold fmtPl; rw [if_pos h]
theorem plan_codes {p : Pln} (h : planOk p = true) : ∀ c ∈ p.order, isCode c = true := fun c hc => by
  obtain ⟨k, hk, rfl⟩ := List.getElem_of_mem hc
  have h1 := List.all_eq_true.1 (show (List.range p.order.length).all (goodC p.order) = true from (planOk_iff.1 h).2.2.2) k (by simpa using hk)
  rw [goodC_of hk, Bool.and_eq_true] at h1
  exact h1.1
theorem order_size {p : Pln} (h : planOk p = true) : (joinT p.order spT).size ≤ 480 := by
  have h1 := joinT_size p.order spT 7 fun c hc => Nat.le_of_eq (code_mem (plan_codes h c hc)).1
  have h2 := (planOk_iff.1 h).2.1.2
  have h3 : p.order.length * (7 + spT.size) ≤ 60 * 8 := Nat.mul_le_mul h2 (Nat.le_refl _)
  omega

set_option maxRecDepth 100000 in
set_option maxHeartbeats 1600000 in
theorem impl_FormatPlan (v : Value) (p : Pln) (w : World) (hv : rdP w w.heap.size v p) (ht : TabW w) :
    Calls Tryz.prog 13 #[v] w fun e w' => e = .returned (.string (fmtPl p)) ∧ Below w.heap.size w w' := by
  obtain ⟨A, c, rfl⟩ := openP hv
  obtain ⟨w0, hw0⟩ : ∃ u, u = w.alloc (Obj.cells #[.int .i64 p.bins, .int .i64 p.passes, .slice A p.order.length c] 25) := ⟨_, rfl⟩
  have hb0 : w0.heap[w.heap.size]? = some (.cells #[.int .i64 p.bins, .int .i64 p.passes, .slice A p.order.length c] 25 (0, 0)) := by rw [hw0]; exact heap_alloc_new w _
  have hl0 : Below w.heap.size w w0 := by rw [hw0]; exact (Below.refl _ _).alloc (Nat.le_refl _) _
  have HPV := Lib.hid (impl_PlanValid _ p w0 (hv.on hl0))
  have HRD : Hid (∀ W, Below w.heap.size w W → rd W W.heap.size (.slice A p.order.length c) p.order) := fun W hW => by
    obtain ⟨vo, e, _, _, h⟩ := hv
    injection e with e
    injection e with e
    injection e with _ e
    injection e with _ e
    injection e with e _
    rw [e]
    exact h.on hW
  have HTB := Lib.hid ht
  have HW := Lib.hid hw0; clear hw0
  obtain ⟨q0, q1, q2, _, _, _⟩ := threeF hb0
  have HL0 := Lib.hid hl0; have HB0 := Lib.hid hb0
  clear hl0 hb0 hv ht
  go_enter Tryz.func13, Tryz.ntmps13
  go_wp2_with fail
  rw [← HW.out]
  refine HPV.out.mono ?_
  cases hp : planOk p
  · rintro e w1 ⟨rfl, b1⟩
    have HF := Lib.hid (fmtPl_no hp)
    have HL1 := Lib.hid (later_trans HL0.out b1)
    clear hp b1
    go_wp2_with fail
    go_ret
    exact ⟨ret_str HF.out.symm, HL1.out⟩
  · rintro e w1 ⟨rfl, b1⟩
    have hb1 := blk_below HB0.out b1
    have HL1 := Lib.hid (later_trans HL0.out b1)
    have HF := Lib.hid (fmtPl_yes hp)
    obtain ⟨⟨x1, x2, x3, x4⟩, ⟨x5, x6⟩, _⟩ := planOk_iff.1 hp
    have hjz := order_size hp
    have HJ : Hid (∀ W, Below w1.heap.size w1 W → Calls Tryz.prog 57 #[.slice A p.order.length c, .string ⟨#[32]⟩] W fun e w' => e = .returned (.string (joinT p.order spT)) ∧ Below W.heap.size W w') := fun W hW => join_rd (sep := spT) (HRD.out W (later_trans HL1.out hW)) (by omega) (by omega) (by omega)
    obtain ⟨bi, pa, od⟩ := p
    simp only at x1 x2 x3 x4 hjz HJ q0 q1 q2 hb1 HB0 HF ⊢
    obtain ⟨bi, rfl⟩ := Int.eq_ofNat_of_zero_le (show 0 ≤ bi by omega)
    obtain ⟨pa, rfl⟩ := Int.eq_ofNat_of_zero_le (show 0 ≤ pa by omega)
    have HI1 : Hid (∀ W, Below w1.heap.size w1 W → Calls Tryz.prog 56 #[.int .i64 (bi : Int)] W fun e w' => e = .returned (.string (decB bi)) ∧ Below W.heap.size W w') := fun W hW => strconv_ItoaN bi W (by omega) (HTB.out.on (later_trans HL1.out hW))
    have HI2 : Hid (∀ W, Below w1.heap.size w1 W → Calls Tryz.prog 56 #[.int .i64 (pa : Int)] W fun e w' => e = .returned (.string (decB pa)) ∧ Below W.heap.size W w') := fun W hW => strconv_ItoaN pa W (by omega) (HTB.out.on (later_trans HL1.out hW))
    have s1 := (dec10_size (n := bi) (by omega)).1
    have s2 := (dec10_size (n := pa) (by omega)).1
    have HF2 : Hid (fmtPl ⟨(bi : Int), (pa : Int), od⟩ = decB bi ++ ⟨#[32]⟩ ++ decB pa ++ ⟨#[32]⟩ ++ joinT od spT) := HF.out
    clear HF
    generalize decB bi = B1 at *
    generalize decB pa = B2 at *
    generalize joinT od spT = J at *
    have a1 : ¬ 9223372036854775807 < B1.size + 1 := by omega
    have a2 : ¬ 9223372036854775807 < B1.size + 1 + B2.size := by omega
    have a3 : ¬ 9223372036854775807 < B1.size + 1 + B2.size + 1 := by omega
    have a4 : ¬ 9223372036854775807 < B1.size + 1 + B2.size + 1 + J.size := by omega
    have ld := later_drew (Below.refl w1.heap.size w1)
    clear hp b1 q0 q1 q2 x1 x2 x3 x4 x5 x6
    obtain ⟨c0, c1, c2, _, _, _⟩ := threeF hb1
    have q0 := fun W (hW : Below w1.heap.size w1 W) => (hW.cell (p := ⟨w.heap.size, 0, none⟩) (block_of_cell c0)).trans c0
    have q1 := fun W (hW : Below w1.heap.size w1 W) => (hW.cell (p := ⟨w.heap.size, 1, none⟩) (block_of_cell c1)).trans c1
    have q2 := fun W (hW : Below w1.heap.size w1 W) => (hW.cell (p := ⟨w.heap.size, 2, none⟩) (block_of_cell c2)).trans c2
    clear hb1 c0 c1 c2
    go_wp2_with fail
    go_region_held3 (fun W => Below w1.heap.size w1 W) (first | exact ld | exact k3 | exact k2 | exact k1 | fail) (first | (go_at_call 56; first | ((with_reducible refine (HI1.out _ (by first | exact ld | exact k1 | exact k2)).mono ?_); rintro e u1 ⟨rfl, z1⟩; have k1 := later_trans ld z1) | ((with_reducible refine (HI2.out _ (by first | exact k1 | exact ld)).mono ?_); rintro e u2 ⟨rfl, z2⟩; have k2 := later_trans k1 z2) | fail) | (go_at_call 57; first | ((with_reducible refine (HJ.out _ (by first | exact k2 | exact k1 | exact ld)).mono ?_); rintro e u3 ⟨rfl, z3⟩; have k3 := later_trans k2 z3) | fail) | fail)
    all_goals
      have K3 := Lib.hid (later_trans HL1.out k3)
      clear k1 k2 k3 z1 z2 z3 ld
      go_wp2_with fail
      go_ret
      exact ⟨ret_str HF2.out.symm, K3.out⟩

end Go.Proofs.YtpinkbodbedajaaGreatDoor

namespace Go.Proofs.YtpinkbodbedajaaGreatDoor
open Go.RowKit

theorem Tryz.sizePlK : (Tryz.prog.info? 25).map (·.size) = some 3 := by kernel_rfl
def plaGot (t : ByteArray) : Pln := ⟨numV ((partsB 32 t).getD 0 ⟨#[]⟩), numV ((partsB 32 t).getD 1 ⟨#[]⟩), (partsB 32 t).drop 2⟩
def plaOk (t : ByteArray) : Bool := (decide (3 ≤ (partsB 32 t).length) && decide ((partsB 32 t).length ≤ 62)) && ((numOk ((partsB 32 t).getD 0 ⟨#[]⟩) && numOk ((partsB 32 t).getD 1 ⟨#[]⟩)) && planOk (plaGot t))
def plaP (t : ByteArray) : Pln := if plaOk t then plaGot t else ⟨0, 0, []⟩
theorem plaP_no {t : ByteArray} (h : plaOk t = false) : plaP t = ⟨0, 0, []⟩ := by unfold plaP; rw [h]; rfl
theorem plaP_yes {t : ByteArray} (h : plaOk t = true) : plaP t = plaGot t := by unfold plaP; rw [if_pos h]

set_option maxRecDepth 100000 in
set_option maxHeartbeats 800000 in
theorem impl_copyTexts (v : Value) (xs : List ByteArray) (w : World) (hv : rd w w.heap.size v xs) (hl : xs.length ≤ 1048576) :
    Calls Tryz.prog 249 #[v] w fun e w' => ∃ v', e = .returned v' ∧ own 9 w.heap.size w' v' xs ∧ Below w.heap.size w w' := by
  have hv0 := Lib.hid hv
  obtain ⟨A, n, c, rfl, hn, hc, hm, hr⟩ := hv
  subst hn
  clear hr
  obtain ⟨i0, hi, hz0, hz1, hz2⟩ := info_parts Tryz.infoStr
  have hmk := make_row (P := Tryz.prog) 23 9 i0 _ Tryz.underlying23 hi hz0 xs.length (by rw [hz2]; omega) (by omega)
  go_enter Tryz.func249, Tryz.ntmps249
  go_wp2_with (refine wpList_copyAll (α := ByteArray) (o := ⟨some 9, _, _, _, _, _⟩) rfl (.tmp 7) (.tmp 8) 23 23 rfl w.heap.size w.heap.size 9 i0 Tryz.underlying23 hi hz1 (by decide) (madeCells #[Value.string ⟨#[]⟩] xs.length) (.slice A xs.length c) xs _ (hv0.out.on ((Below.refl _ _).alloc (Nat.le_refl _) _)) rfl rfl (heap_alloc_new w _) (by rw [size_madeCells]; exact (Nat.mul_one _).symm) (Nat.le_refl _) (by unfold maxLen; omega) ?_; intro w1 ho1 hg1)
  go_wp2
  go_ret
  exact ⟨_, rfl, ho1, below_of_grown (grown_trans' (World.grownBy_alloc w _ _) hg1) (Nat.le_refl _) (fun k hk => by injection hk; omega)⟩

set_option maxRecDepth 100000 in
set_option maxHeartbeats 3200000 in
theorem impl_ParsePlan (t : ByteArray) (w : World) (ht : t.size ≤ 1000000) :
    Calls Tryz.prog 198 #[.string t] w fun e w' => ∃ vo, e = .returned (.tuple #[.agg #[.int .i64 (plaP t).bins, .int .i64 (plaP t).passes, vo], .bool (plaOk t)]) ∧ own 9 w.heap.size w' vo (plaP t).order ∧ Below w.heap.size w w' := by
  have HNO : Hid (¬ (3 ≤ (partsB 32 t).length ∧ (partsB 32 t).length ≤ 62) ∨ numOk ((partsB 32 t).getD 0 ⟨#[]⟩) = false ∨ numOk ((partsB 32 t).getD 1 ⟨#[]⟩) = false ∨ planOk (plaGot t) = false → plaOk t = false) := fun h => by
    unfold plaOk
    rcases h with h | h | h | h
    · by_cases h1 : 3 ≤ (partsB 32 t).length
      · rw [decide_eq_false (show ¬ (partsB 32 t).length ≤ 62 by omega)]; simp
      · rw [decide_eq_false h1]; simp
    · rw [h]; simp
    · rw [h]; simp
    · rw [h]; simp
  have HYES : Hid (3 ≤ (partsB 32 t).length → (partsB 32 t).length ≤ 62 → numOk ((partsB 32 t).getD 0 ⟨#[]⟩) = true → numOk ((partsB 32 t).getD 1 ⟨#[]⟩) = true → planOk (plaGot t) = true → plaOk t = true) := fun h1 h2 h3 h4 h5 => by
    unfold plaOk
    rw [decide_eq_true h1, decide_eq_true h2, h3, h4, h5]; rfl
  have HGOT : Hid (plaGot t = ⟨numV ((partsB 32 t).getD 0 ⟨#[]⟩), numV ((partsB 32 t).getD 1 ⟨#[]⟩), (partsB 32 t).drop 2⟩) := rfl
  have HSP : Hid (∀ W : World, Calls Tryz.prog 65 #[.string t, .string ⟨#[32]⟩] W fun e w' => e = .returned (.slice (some ⟨W.heap.size, 0, none⟩) (partsB 32 t).length (partsB 32 t).length) ∧ own 9 W.heap.size w' (.slice (some ⟨W.heap.size, 0, none⟩) (partsB 32 t).length (partsB 32 t).length) (partsB 32 t) ∧ Below W.heap.size W w') := fun W => (strings_Split1 t 32 W (by omega)).mono fun e w' h => ⟨h.1, h.2.1, h.2.2.1⟩
  have HPZ : Hid (∀ p ∈ partsB 32 t, p.size ≤ maxLen) := fun p hp => by have := parts_sizeZ hp; unfold maxLen; omega
  have hlen := parts_lenZ 32 t
  generalize partsB 32 t = ps at *
  obtain ⟨wA, hwA⟩ : ∃ u, u = w.alloc (Obj.cells #[.int .i64 0, .int .i64 0, .slice none 0 0] 25) := ⟨_, rfl⟩
  have hBA : Below w.heap.size w wA := by rw [hwA]; exact (Below.refl _ _).alloc (Nat.le_refl _) _
  have hzA : wA.heap.size = w.heap.size + 1 := by rw [hwA]; simp
  have hbA : wA.heap[w.heap.size]? = some (.cells #[.int .i64 0, .int .i64 0, .slice none 0 0] 25 (0, 0)) := by rw [hwA]; exact heap_alloc_new w _
  have HWA := Lib.hid hwA; clear hwA
  go_enter Tryz.func198, Tryz.ntmps198
  go_wp2_with fail
  rw [← HWA.out]
  have HSPW := HSP.out wA
  rw [hzA] at HSPW
  refine HSPW.mono ?_
  clear HSPW
  rintro e w1 ⟨rfl, o1, b1⟩
  rw [← hzA] at b1
  have hb1 := (b1.block w.heap.size (by omega)).trans hbA
  have hB1 : Below w.heap.size w w1 := hBA.trans (b1.mono (by omega))
  have hz1 := b1.size
  clear hbA hBA b1
  by_cases h3 : 3 ≤ ps.length
  case neg =>
    have h3i : (ps.length : Int) < 3 := by omega
    have HQ : Hid (plaOk t = false) := HNO.out (.inl fun h => h3 h.1)
    have HR : Hid (plaP t = ⟨0, 0, []⟩) := plaP_no HQ.out
    obtain ⟨a0, a1, a2, e0, e1, e2⟩ := threeF hb1
    have HBX := Lib.hid hb1; have HLX := Lib.hid hB1
    clear o1
    go_wp2_with fail
    refine ret_box1 rfl rfl (three_set HBX.out) Tryz.underlying25 rfl Tryz.sizePlK rfl ?_
    exact ⟨.slice none 0 0, by rw [HR.out, HQ.out]; rfl, by rw [HR.out]; exact own.nil_ _ _ _, later_set (later_set (later_set HLX.out (Nat.le_refl _) _) (Nat.le_refl _) _) (Nat.le_refl _) _⟩
  by_cases h62 : ps.length ≤ 62
  case neg =>
    have h3i : ¬ (ps.length : Int) < 3 := by omega
    have h62i : (62 : Int) < (ps.length : Int) := by omega
    have HQ : Hid (plaOk t = false) := HNO.out (.inl fun h => h62 h.2)
    have HR : Hid (plaP t = ⟨0, 0, []⟩) := plaP_no HQ.out
    obtain ⟨a0, a1, a2, e0, e1, e2⟩ := threeF hb1
    have HBX := Lib.hid hb1; have HLX := Lib.hid hB1
    clear o1
    go_wp2_with fail
    refine ret_box1 rfl rfl (three_set HBX.out) Tryz.underlying25 rfl Tryz.sizePlK rfl ?_
    exact ⟨.slice none 0 0, by rw [HR.out, HQ.out]; rfl, by rw [HR.out]; exact own.nil_ _ _ _, later_set (later_set (later_set HLX.out (Nat.le_refl _) _) (Nat.le_refl _) _) (Nat.le_refl _) _⟩
  have h3i : ¬ (ps.length : Int) < 3 := by omega
  have h62i : ¬ (62 : Int) < (ps.length : Int) := by omega
  have y0 := own_str1 o1 0 (by omega)
  have y1 := own_str1 o1 1 (by omega)
  have g0 : ps.getD 0 ⟨#[]⟩ = ps[0] := by rw [List.getD_eq_getElem?_getD, List.getElem?_eq_getElem (by omega)]; rfl
  have g1 : ps.getD 1 ⟨#[]⟩ = ps[1] := by rw [List.getD_eq_getElem?_getD, List.getElem?_eq_getElem (by omega)]; rfl
  rw [g0, g1] at HNO HYES HGOT
  have z0 := HPZ.out _ (List.getElem_mem (show 0 < ps.length by omega))
  have z1 := HPZ.out _ (List.getElem_mem (show 1 < ps.length by omega))
  have HRD := Lib.hid (o1.rd.drop (k := 2) (by omega))
  have HO1 := Lib.hid o1
  generalize ps[0] = p0 at *
  generalize ps[1] = p1 at *
  have HN0 := Lib.hid (fun W => impl_parseNumber p0 W z0)
  have HN1 := Lib.hid (fun W => impl_parseNumber p1 W z1)
  have hn0 := nVal_bound (d := absB p0) (ng := negB p0)
  have hn1 := nVal_bound (d := absB p1) (ng := negB p1)
  rw [show nVal (absB p0) (negB p0) = numV p0 from rfl] at hn0
  rw [show nVal (absB p1) (negB p1) = numV p1 from rfl] at hn1
  generalize numV p0 = v0 at *
  generalize numV p1 = v1 at *
  clear g0 g1 z0 z1 HPZ o1
  have hli : (0 : Int) < (ps.length : Int) := by omega
  have hli1 : (1 : Int) < (ps.length : Int) := by omega
  cases hk0 : numOk p0
  · rw [hk0] at HN0
    go_wp2_with fail
    refine (HN0.out _).mono ?_
    rintro e _ ⟨rfl, rfl⟩
    go_wp2_with fail
    refine (HN1.out _).mono ?_
    rintro e _ ⟨rfl, rfl⟩
    have HQ : Hid (plaOk t = false) := HNO.out (.inr (.inl hk0))
    have HR : Hid (plaP t = ⟨0, 0, []⟩) := plaP_no HQ.out
    obtain ⟨a0, a1, a2, e0, e1, e2⟩ := threeF hb1
    have HBX := Lib.hid hb1; have HLX := Lib.hid hB1
    clear hk0
    go_wp2_with fail
    refine ret_box1 rfl rfl (three_set HBX.out) Tryz.underlying25 rfl Tryz.sizePlK rfl ?_
    exact ⟨.slice none 0 0, by rw [HR.out, HQ.out]; rfl, by rw [HR.out]; exact own.nil_ _ _ _, later_set (later_set (later_set HLX.out (Nat.le_refl _) _) (Nat.le_refl _) _) (Nat.le_refl _) _⟩
  cases hk1 : numOk p1
  · rw [hk1] at HN1; rw [hk0] at HN0
    go_wp2_with fail
    refine (HN0.out _).mono ?_
    rintro e _ ⟨rfl, rfl⟩
    go_wp2_with fail
    refine (HN1.out _).mono ?_
    rintro e _ ⟨rfl, rfl⟩
    have HQ : Hid (plaOk t = false) := HNO.out (.inr (.inr (.inl hk1)))
    have HR : Hid (plaP t = ⟨0, 0, []⟩) := plaP_no HQ.out
    obtain ⟨a0, a1, a2, e0, e1, e2⟩ := threeF hb1
    have HBX := Lib.hid hb1; have HLX := Lib.hid hB1
    clear hk0 hk1
    go_wp2_with fail
    refine ret_box1 rfl rfl (three_set HBX.out) Tryz.underlying25 rfl Tryz.sizePlK rfl ?_
    exact ⟨.slice none 0 0, by rw [HR.out, HQ.out]; rfl, by rw [HR.out]; exact own.nil_ _ _ _, later_set (later_set (later_set HLX.out (Nat.le_refl _) _) (Nat.le_refl _) _) (Nat.le_refl _) _⟩
  rw [hk0] at HN0; rw [hk1] at HN1
  have HY2 : Hid (planOk (plaGot t) = true → plaOk t = true) := HYES.out h3 h62 hk0 hk1
  clear HYES hk0 hk1
  go_wp2_with fail
  refine (HN0.out _).mono ?_
  rintro e _ ⟨rfl, rfl⟩
  go_wp2_with fail
  refine (HN1.out _).mono ?_
  rintro e _ ⟨rfl, rfl⟩
  have ld := later_drew (Below.refl w1.heap.size w1)
  have h2l : 2 ≤ ps.length := by omega
  have h2c : ¬ ps.length = 2 := by omega
  rw [if_neg (by omega)] at HRD
  have HCT : Hid (∀ W, Below w1.heap.size w1 W → Calls Tryz.prog 249 #[.slice (some ⟨w.heap.size + 1, 2, none⟩) (ps.length - 2) (ps.length - 2)] W fun e w' => ∃ v', e = .returned v' ∧ own 9 W.heap.size w' v' (ps.drop 2) ∧ Below W.heap.size W w') := fun W hW => impl_copyTexts _ (ps.drop 2) W (HRD.out.on hW) (by rw [List.length_drop]; omega)
  go_wp2_with fail
  refine (HCT.out _ (by first | exact Below.refl _ _ | exact ld)).mono ?_
  rintro e u1 ⟨v2, rfl, o2, z2⟩
  have k1 : Below w1.heap.size w1 u1 := later_trans (by first | exact Below.refl _ _ | exact ld) z2
  have hbu := (k1.block w.heap.size (by omega)).trans hb1
  have hBu := hB1.trans (k1.mono (by omega))
  have hzu := k1.size
  have hou : own 9 w1.heap.size u1 v2 (ps.drop 2) := o2
  obtain ⟨A2, n2, c2, rfl, hn2, -, -, -⟩ := o2.rd
  rw [List.length_drop] at hn2
  subst hn2
  have HP : Hid (rdP (u1.alloc (Obj.cells #[.int .i64 v0, .int .i64 v1, .slice A2 (ps.length - 2) c2] 25)) (u1.alloc (Obj.cells #[.int .i64 v0, .int .i64 v1, .slice A2 (ps.length - 2) c2] 25)).heap.size (.agg #[.int .i64 v0, .int .i64 v1, .slice A2 (ps.length - 2) c2]) (plaGot t)) := by
    show rdP _ _ _ _
    rw [HGOT.out]
    exact ⟨_, rfl, (show isI64 v0 by unfold isI64; omega), (show isI64 v1 by unfold isI64; omega), (hou.alloc _).rd⟩
  obtain ⟨u2, hu2⟩ : ∃ u, u = u1.alloc (Obj.cells #[.int .i64 v0, .int .i64 v1, .slice A2 (ps.length - 2) c2] 25) := ⟨_, rfl⟩
  have hq2 : u2.heap[u1.heap.size]? = some (.cells #[.int .i64 v0, .int .i64 v1, .slice A2 (ps.length - 2) c2] 25 (0, 0)) := by rw [hu2]; exact heap_alloc_new u1 _
  have hb2 : u2.heap[w.heap.size]? = some (.cells #[.int .i64 0, .int .i64 0, .slice none 0 0] 25 (0, 0)) := by rw [hu2]; exact (Below.heap_alloc _ _ _ (by omega)).trans hbu
  have hB2 : Below w.heap.size w u2 := by rw [hu2]; exact hBu.alloc hBu.size _
  have hz2 : u2.heap.size = u1.heap.size + 1 := by rw [hu2]; simp
  have ho2 : own 9 w1.heap.size u2 (.slice A2 (ps.length - 2) c2) (ps.drop 2) := by rw [hu2]; exact hou.alloc _
  rw [← hu2] at HP
  have HU2 := Lib.hid hu2; clear hu2
  have HPV := Lib.hid (impl_PlanValid _ _ u2 HP.out)
  have HO2 := Lib.hid ho2
  clear o2 hou hbu hBu k1 z2 ho2 hb1 hB1 ld HRD
  obtain ⟨c0, c1, c2', f0, f1, f2⟩ := threeF hq2
  go_wp2_with fail
  rw [← HU2.out]
  refine HPV.out.mono ?_
  cases hk2 : planOk (plaGot t)
  · rintro e w3 ⟨rfl, b3⟩
    have hb3 := (b3.block w.heap.size (by omega)).trans hb2
    have hB3 := hB2.trans (b3.mono (by omega))
    clear c0 c1 c2' f0 f1 f2
    have HQ : Hid (plaOk t = false) := HNO.out (.inr (.inr (.inr hk2)))
    have HR : Hid (plaP t = ⟨0, 0, []⟩) := plaP_no HQ.out
    obtain ⟨a0, a1, a2, e0, e1, e2⟩ := threeF hb3
    have HBX := Lib.hid hb3; have HLX := Lib.hid hB3
    clear hk2
    go_wp2_with fail
    refine ret_box1 rfl rfl (three_set HBX.out) Tryz.underlying25 rfl Tryz.sizePlK rfl ?_
    exact ⟨.slice none 0 0, by rw [HR.out, HQ.out]; rfl, by rw [HR.out]; exact own.nil_ _ _ _, later_set (later_set (later_set HLX.out (Nat.le_refl _) _) (Nat.le_refl _) _) (Nat.le_refl _) _⟩
  · rintro e w3 ⟨rfl, b3⟩
    have hb3 := (b3.block w.heap.size (by omega)).trans hb2
    have hq3 := (b3.block u1.heap.size (by omega)).trans hq2
    have hB3 := hB2.trans (b3.mono (by omega))
    have HQ := Lib.hid (HY2.out hk2)
    have HR := Lib.hid (plaP_yes HQ.out)
    have HO3 := Lib.hid (HO2.out.below b3)
    have hne : u1.heap.size ≠ w.heap.size := by omega
    clear c0 c1 c2' f0 f1 f2 hk2
    obtain ⟨c0, c1, c2', f0, f1, f2⟩ := threeF hq3
    obtain ⟨a0, a1, a2, e0, e1, e2⟩ := threeF hb3
    have HBX := Lib.hid hb3; have HLX := Lib.hid hB3
    clear hb3 hq3 hB3 hb2 hB2 hq2 b3
    go_wp2_with fail
    refine ret_box1 rfl rfl (three_set HBX.out) Tryz.underlying25 rfl Tryz.sizePlK rfl ?_
    refine ⟨.slice A2 (ps.length - 2) c2, by rw [HR.out, HQ.out, HGOT.out]; rfl, ?_, later_set (later_set (later_set HLX.out (Nat.le_refl _) _) (Nat.le_refl _) _) (Nat.le_refl _) _⟩
    rw [HR.out, HGOT.out]
    exact (own_out (own_out (own_out HO3.out ⟨w.heap.size, 0, none⟩ _ (by show w.heap.size < w1.heap.size; omega)) ⟨w.heap.size, 1, none⟩ _ (by show w.heap.size < w1.heap.size; omega)) ⟨w.heap.size, 2, none⟩ _ (by show w.heap.size < w1.heap.size; omega)).base_ (by omega)

end Go.Proofs.YtpinkbodbedajaaGreatDoor

namespace Go.Proofs.YtpinkbodbedajaaGreatDoor
open Go.RowKit



end Go.Proofs.YtpinkbodbedajaaGreatDoor

namespace Go.Proofs.YtpinkbodbedajaaGreatDoor
open Go.RowKit


end Go.Proofs.YtpinkbodbedajaaGreatDoor

namespace Go.Proofs.YtpinkbodbedajaaGreatDoor
open Go.RowKit

theorem ofNat_dig (k : Nat) (h : k < 10) : (UInt8.ofNat (48 + k)).toNat = 48 + k := by
  rw [UInt8.toNat_ofNat']; omega
theorem dec10_dig : ∀ n, ∀ b ∈ dec10 n, 48 ≤ b.toNat ∧ b.toNat ≤ 57 := by
  intro n
  induction n using Nat.strongRecOn with
  | _ n ih =>
    intro b hb
    by_cases h0 : n = 0
    · subst h0; rw [dec10] at hb; exact absurd hb (by simp)
    · rw [dec10_step (by omega), List.mem_append, List.mem_singleton] at hb
      rcases hb with hb | rfl
      · exact ih (n / 10) (by omega) b hb
      · rw [ofNat_dig _ (by omega)]; omega
theorem decL_dig (n : Nat) : ∀ b ∈ decL n, 48 ≤ b.toNat ∧ b.toNat ≤ 57 := by
  unfold decL
  split
  · intro b hb
    rw [List.mem_singleton] at hb
    subst hb
    exact ⟨by decide, by decide⟩
  · exact dec10_dig n
def vL (x : Ltr) : Prop := 1 ≤ x.id ∧ x.id ≤ 9999 ∧ isCode x.code = true
end Go.Proofs.YtpinkbodbedajaaGreatDoor

namespace Go.Proofs.YtpinkbodbedajaaGreatDoor
open Go.RowKit

theorem dec10_zero : dec10 0 = [] := by rw [dec10]
theorem dec10_head : ∀ n, 0 < n → ∃ (b : UInt8) (l : List UInt8), dec10 n = b :: l ∧ 49 ≤ b.toNat := fun n => by
  induction n using Nat.strongRecOn with
  | _ n ih =>
    intro h
    rw [dec10_step h]
    by_cases h0 : n / 10 = 0
    · refine ⟨_, [], by rw [h0, dec10_zero]; rfl, ?_⟩
      have : n < 10 := by omega
      rw [UInt8.toNat_ofNat']
      omega
    · obtain ⟨b, l, e, hb⟩ := ih (n / 10) (by omega) (by omega)
      exact ⟨b, l ++ [_], by rw [e]; rfl, hb⟩
theorem numL_dec10 : ∀ n, numL (dec10 n) = n := fun n => by
  induction n using Nat.strongRecOn with
  | _ n ih =>
    by_cases h : n = 0
    · subst h; rw [dec10_zero]; rfl
    · rw [dec10_step (by omega), numL_snoc, ih (n / 10) (by omega), UInt8.toNat_ofNat']
      omega
theorem digs_of {l : List UInt8} (h : ∀ b ∈ l, 48 ≤ b.toNat ∧ b.toNat ≤ 57) : digs l = true := by
  unfold digs
  refine List.all_eq_true.2 fun b hb => ?_
  have := h b hb
  unfold dig
  simp
  omega
theorem decB_num {n : Nat} (h : n ≤ 9999) : numOk (decB n) = true ∧ numV (decB n) = (n : Int) := by
  have hz := dec10_size h
  have hd : digs (decB n).data.toList = true := digs_of (decL_dig n)
  have hN : numL (decB n).data.toList = n := by
    show numL (decL n) = n
    unfold decL
    split
    · rename_i h0; subst h0; rfl
    · exact numL_dec10 n
  have hh : ∃ (b : UInt8) (l : List UInt8), (decB n).data.toList = b :: l ∧ 48 ≤ b.toNat ∧ (b.toNat = 48 → l = []) := by
    show ∃ (b : UInt8) (l : List UInt8), decL n = b :: l ∧ 48 ≤ b.toNat ∧ (b.toNat = 48 → l = [])
    unfold decL
    split
    · exact ⟨48, [], rfl, by decide, fun _ => rfl⟩
    · obtain ⟨b, l, e, hb⟩ := dec10_head n (by omega)
      exact ⟨b, l, e, by omega, fun h => by omega⟩
  obtain ⟨b, l, e, hb, hb2⟩ := hh
  have hng : negB (decB n) = false := by
    unfold negB Lib.hasPrefix
    rw [e]
    have : (45 == b) = false := beq_eq_false_iff_ne.2 fun h => by rw [← h] at hb; exact absurd hb (by decide)
    simp [List.isPrefixOf, this]
  have hab : absB (decB n) = decB n := by
    unfold absB Lib.trimPrefix
    have h2 : Lib.hasPrefix (decB n).data.toList [45] = false := hng
    rw [if_neg (by rw [h2]; simp)]
  have hok : nOk (decB n) false = true := by
    unfold nOk
    rw [decide_eq_true (show (decB n).size ≠ 0 by omega), decide_eq_true (show (decB n).size ≤ 17 by omega), hd]
    have h1 : (zeroB (decB n) && (decide (1 < (decB n).size) || false)) = false := by
      unfold zeroB
      rw [e]
      by_cases hb48 : b = 48
      · have hl := hb2 (by rw [hb48]; rfl)
        have hs : (decB n).size = 1 := by
          have : (decB n).data.toList.length = (decB n).size := by simp
          rw [e, hl] at this
          exact this.symm
        rw [decide_eq_false (by omega)]
        simp
      · have : ((b :: l).head? == some 48) = false := by simpa using hb48
        rw [this]
        rfl
    rw [h1]
    rfl
  unfold numOk numV nVal
  rw [hab, hng, hok]
  refine ⟨rfl, ?_⟩
  rw [if_pos rfl, if_neg (by simp), hN]
theorem decB_not {n : Nat} {c : UInt8} (h : c.toNat < 48 ∨ 57 < c.toNat) : c ∉ (decB n).data.toList := fun m => by
  have := decL_dig n c m
  omega
theorem isCode_not {s : ByteArray} {c : UInt8} (hs : isCode s = true) (h : c.toNat < 48 ∨ 57 < c.toNat) : c ∉ s.data.toList := fun m => by
  have := (code_mem hs).2 c m
  omega

/-! ### Batches -/
theorem fmtL_part {x : Ltr} (h1 : 1 ≤ x.id) (h2 : x.id ≤ 9999) : partLt (fmtL x) = some x := by
  obtain ⟨n1, n2⟩ := decB_num (n := x.id.toNat) (by omega)
  have hc : cutAt 58 (fmtL x) = some (decB x.id.toNat, x.code) := cut_app (decB_not (by decide))
  rw [partLt_yes hc n1, n2]
  obtain ⟨i, c⟩ := x
  simp only at h1 ⊢
  rw [Int.toNat_of_nonneg (by omega)]
theorem fmtL_not {x : Ltr} (h : isCode x.code = true) {c : UInt8} (hc : c = 32 ∨ c = 10) : c ∉ (fmtL x).data.toList := by
  unfold fmtL
  rw [ba_append, ba_append, List.mem_append, List.mem_append]
  rintro ((m | m) | m)
  · exact decB_not (by rcases hc with rfl | rfl <;> decide) m
  · rcases hc with rfl | rfl <;> exact absurd m (by decide)
  · exact isCode_not h (by rcases hc with rfl | rfl <;> decide) m
theorem okB_mem {xs : List Ltr} (h : okB xs = true) : ∀ x ∈ xs, 1 ≤ x.id ∧ x.id ≤ 9999 ∧ isCode x.code = true := fun x hx => by
  obtain ⟨k, hk, rfl⟩ := List.getElem_of_mem hx
  have := (okB_iff.1 h).2 k hk
  exact ⟨this.1, this.2.1, this.2.2.1⟩
theorem map_part {xs : List Ltr} (h : okB xs = true) : gotLt (xs.map fmtL) = xs ∧ allLt (xs.map fmtL) = true := by
  have key : ∀ l : List Ltr, (∀ x ∈ l, 1 ≤ x.id ∧ x.id ≤ 9999 ∧ isCode x.code = true) → gotLt (l.map fmtL) = l ∧ allLt (l.map fmtL) = true := fun l => by
    induction l with
    | nil => intro _; exact ⟨rfl, rfl⟩
    | cons x l ih =>
      intro hl
      obtain ⟨i1, i2⟩ := ih fun y hy => hl y (List.mem_cons_of_mem _ hy)
      have hx := hl x (by simp)
      have hp := fmtL_part hx.1 hx.2.1
      refine ⟨?_, ?_⟩
      · unfold gotLt at *
        rw [List.map_cons, List.filterMap_cons, hp, i1]
      · unfold allLt at *
        rw [List.map_cons, List.all_cons, hp, i2]
        rfl
  exact key xs (okB_mem h)
theorem fmtB_ne {xs : List Ltr} (h : okB xs = true) (h0 : xs.length ≠ 0) : sEq (fmtB xs) ⟨#[45]⟩ = false := by
  cases hq : sEq (fmtB xs) ⟨#[45]⟩
  · rfl
  · exfalso
    rw [sEq_iff] at hq
    obtain ⟨x, l, hx⟩ : ∃ x l, xs = x :: l := by
      cases xs with
      | nil => exact absurd rfl h0
      | cons x l => exact ⟨x, l, rfl⟩
    have hp := parts_join (ps := xs.map fmtL) (by rw [hx]; simp) fun p hp => by
      obtain ⟨y, hy, rfl⟩ := List.mem_map.1 hp
      exact fmtL_not (okB_mem h y hy).2.2 (.inl rfl)
    rw [← fmtB_some h h0, hq] at hp
    have h1 : partsB 32 (⟨#[45]⟩ : ByteArray) = [⟨#[45]⟩] := parts_one (by decide)
    rw [h1, hx] at hp
    simp only [List.map_cons, List.cons.injEq] at hp
    have := congrArg ByteArray.size hp.1
    have h9 := (okB_mem h x (by rw [hx]; simp)).2.2
    have h7 := (code_mem h9).1
    unfold fmtL at this
    simp only [ByteArray.size_append] at this
    have e1 : (⟨#[45]⟩ : ByteArray).size = 1 := rfl
    omega
theorem pb_fmt {xs : List Ltr} (h : okB xs = true) : pbOk (fmtB xs) = true ∧ pbL (fmtB xs) = xs := by
  by_cases h0 : xs.length = 0
  · have hx : xs = [] := List.eq_nil_of_length_eq_zero h0
    rw [fmtB_empty h h0]
    unfold pbOk pbL
    have : sEq (⟨#[45]⟩ : ByteArray) ⟨#[45]⟩ = true := sEq_iff.2 rfl
    rw [this, if_pos rfl, hx]
    exact ⟨rfl, rfl⟩
  · have hn := fmtB_ne h h0
    have hne : xs.map fmtL ≠ [] := fun e => h0 (by have := congrArg List.length e; simpa using this)
    have hp : partsB 32 (fmtB xs) = xs.map fmtL := by
      rw [fmtB_some h h0]
      exact parts_join hne fun p hp => by
        obtain ⟨y, hy, rfl⟩ := List.mem_map.1 hp
        exact fmtL_not (okB_mem h y hy).2.2 (.inl rfl)
    obtain ⟨m1, m2⟩ := map_part h
    have hs : pbSome (fmtB xs) = true := by
      unfold pbSome pbParts
      rw [hp, m1, m2, List.length_map, decide_eq_true (okB_iff.1 h).1, sEq_iff.2 rfl]
      rfl
    unfold pbOk pbL
    rw [hn, if_neg (by simp), if_pos hs, hp, m1, hs]
    exact ⟨rfl, rfl⟩
theorem fmtB_not {xs : List Ltr} : (10 : UInt8) ∉ (fmtB xs).data.toList := fun m => by
  cases h : okB xs
  · rw [fmtB_no h] at m; simp at m
  · by_cases h0 : xs.length = 0
    · rw [fmtB_empty h h0] at m; simp at m
    · rw [fmtB_some h h0, joinT_data] at m
      rcases inter_mem m with m | ⟨l, hl, m⟩
      · exact absurd m (by decide)
      · simp only [List.map_map, List.mem_map] at hl
        obtain ⟨r, hr, rfl⟩ := hl
        exact fmtL_not (okB_mem h r hr).2.2 (.inr rfl) m
theorem fmtB_pos {xs : List Ltr} (h : okB xs = true) : 1 ≤ (fmtB xs).size := by
  by_cases h0 : xs.length = 0
  · rw [fmtB_empty h h0]; decide
  · rw [fmtB_some h h0]
    exact joinT_nn (by rw [List.length_map]; exact h0) fun p hp => (okB_fmt h p hp).2

/-! ### Plans -/
theorem pla_fmt {p : Pln} (h : planOk p = true) : plaOk (fmtPl p) = true ∧ plaP (fmtPl p) = p := by
  obtain ⟨⟨x1, x2, x3, x4⟩, ⟨x5, x6⟩, _⟩ := planOk_iff.1 h
  obtain ⟨n1, n2⟩ := decB_num (n := p.bins.toNat) (by omega)
  obtain ⟨n3, n4⟩ := decB_num (n := p.passes.toNat) (by omega)
  have hne : p.order ≠ [] := fun e => by rw [e] at x5; simp at x5
  have hp : partsB 32 (fmtPl p) = decB p.bins.toNat :: decB p.passes.toNat :: p.order := by
    rw [fmtPl_yes h]
    have e : decB p.bins.toNat ++ ⟨#[32]⟩ ++ decB p.passes.toNat ++ ⟨#[32]⟩ ++ joinT p.order spT = decB p.bins.toNat ++ ⟨#[32]⟩ ++ (decB p.passes.toNat ++ ⟨#[32]⟩ ++ joinT p.order spT) := by
      apply ba_ext; simp only [ba_append, List.append_assoc]
    rw [e, parts_app _ (decB_not (by decide)), parts_app _ (decB_not (by decide)), parts_join hne fun c hc => isCode_not (plan_codes h c hc) (by decide)]
  have hg : plaGot (fmtPl p) = p := by
    unfold plaGot
    rw [hp]
    show (⟨numV (decB p.bins.toNat), numV (decB p.passes.toNat), p.order⟩ : Pln) = p
    rw [n2, n4, Int.toNat_of_nonneg (by omega), Int.toNat_of_nonneg (by omega)]
  have ho : plaOk (fmtPl p) = true := by
    unfold plaOk
    rw [hg, h, hp]
    show ((decide (3 ≤ p.order.length + 2) && decide (p.order.length + 2 ≤ 62)) && ((numOk (decB p.bins.toNat) && numOk (decB p.passes.toNat)) && true)) = true
    rw [n1, n3, decide_eq_true (show 3 ≤ p.order.length + 2 by omega), decide_eq_true (show p.order.length + 2 ≤ 62 by omega)]
    rfl
  exact ⟨ho, by rw [plaP_yes ho, hg]⟩
theorem fmtPl_size (p : Pln) : (fmtPl p).size ≤ 500 := by
  cases h : planOk p
  · rw [fmtPl_no h]; exact Nat.zero_le _
  · obtain ⟨⟨x1, x2, x3, x4⟩, ⟨x5, x6⟩, _⟩ := planOk_iff.1 h
    have h1 := order_size h
    have s1 := (dec10_size (n := p.bins.toNat) (by omega)).1
    have s2 := (dec10_size (n := p.passes.toNat) (by omega)).1
    rw [fmtPl_yes h]
    simp only [ByteArray.size_append]
    show _ + 1 + _ + 1 + _ ≤ 500
    omega
theorem fmtPl_not {p : Pln} : (10 : UInt8) ∉ (fmtPl p).data.toList := fun m => by
  cases h : planOk p
  · rw [fmtPl_no h] at m; simp at m
  · rw [fmtPl_yes h] at m
    simp only [ba_append, List.mem_append] at m
    rcases m with (((m | m) | m) | m) | m
    · exact decB_not (by decide) m
    · exact absurd m (by decide)
    · exact decB_not (by decide) m
    · exact absurd m (by decide)
    · rw [joinT_data] at m
      rcases inter_mem m with m | ⟨l, hl, m⟩
      · exact absurd m (by decide)
      · obtain ⟨r, hr, rfl⟩ := List.mem_map.1 hl
        exact isCode_not (plan_codes h r hr) (by decide) m

end Go.Proofs.YtpinkbodbedajaaGreatDoor
