/- B14 -/
import Derived.Test.YtnlljekijlkigaaQ36
import Derived.Test.YtnlljekijlkigaaQ7
namespace Go.Proofs.Ytnlljekijlkigaa
open Go.RowKit

set_option maxRecDepth 100000 in
set_option maxHeartbeats 800000 in
theorem spec_ownLL (v : Value) (xss : List (List Ltr)) (w : World) (hv : rd w w.heap.size v xss) (hn : xss.length ≤ 1000) (hl : xss.flatten.length ≤ 1048576) :
    Calls Try.prog 87 #[v] w fun e w' => ∃ v' vs, e = .returned v' ∧ isLL 29 49 w.heap.size w' v' xss vs ∧ Below w.heap.size w w' := by
  obtain ⟨A, n, c, rfl, hn', hc, hm, hr⟩ := hv
  subst hn'
  unfold maxLen at hm
  have HR := Lib.hid hr; clear hr
  obtain ⟨i0, hi, hzz, hz1, hz2⟩ := info_parts Try.infoRow
  obtain ⟨i1, ji, jz0, jz1, jz2⟩ := info_parts Try.infoLtr
  go_enter Try.func87, Try.ntmps87
  go_wp2
  have ho0 : own (α := Value) 29 w.heap.size (w.alloc (Obj.cells #[] 29)) (.slice (some ⟨w.heap.size, 0, none⟩) 0 0) [] := own.made0 w _ (Nat.le_refl _)
  have l0 : Below w.heap.size w (w.alloc (Obj.cells #[] 29)) := (Below.refl _ _).alloc (Nat.le_refl _) _
  have HI0 : Hid (isLL (α := Ltr) 29 49 w.heap.size (w.alloc (Obj.cells #[] 29)) (.slice (some ⟨w.heap.size, 0, none⟩) 0 0) [] []) := ⟨ho0, rfl, fun k h => absurd h (Nat.not_lt_zero k), fun j k h => absurd h (Nat.not_lt_zero j), fun k h => absurd h (Nat.not_lt_zero k)⟩
  clear ho0
  generalize (w.alloc (Obj.cells #[] 29)) = w0 at *
  go_loopw [3, 9] (fun t i wr => ∃ (k : Nat) (vs : List Value), k ≤ xss.length ∧ i = .int .i64 k ∧ Below w.heap.size w wr ∧ isLL 29 49 w.heap.size wr t (xss.take k) vs) (fun _ i _ => xss.length - (intOf i).toNat)
  case atStart => exact ⟨0, [], Nat.zero_le _, rfl, l0, HI0.out⟩
  case round =>
    obtain ⟨k, vs, hk, rfl, lr, hB⟩ := hrel
    obtain ⟨w1, rfl⟩ : ∃ w1 : World, w1 = wr := ⟨_, rfl⟩
    have HB := Lib.hid hB
    clear l0 HI0
    by_cases hlt : k < xss.length
    · obtain ⟨AO, mO, cO, rfl, hmO, _, _, _⟩ := hB.1.rd
      subst hmO
      have hvl : vs.length = k := by rw [hB.2.1, List.length_take]; omega
      clear hB
      obtain ⟨b, o, u, rfl, hb, hu, c1⟩ := HR.out.rowU k hlt
      have HS : Hid (xss.take (k + 1) = xss.take k ++ [xss[k]]) := List.take_succ_eq_append_getElem hlt
      have hyl : xss[k].length ≤ 1048576 := Nat.le_trans (row_le_flat hlt) hl
      generalize xss[k] = ys at *
      obtain ⟨A2, m2, c2, rfl, hm2, hc2, hmm2, hr2⟩ := hu
      have HU : Hid (rd w w.heap.size (.slice A2 m2 c2) ys) := ⟨A2, m2, c2, rfl, hm2, hc2, hmm2, hr2⟩
      clear hm2 hc2 hmm2 hr2
      have hki : (k : Int) < (xss.length : Int) := by omega
      have HVL := Lib.hid hvl; clear hvl
      have hs1 : w.heap.size ≤ w1.heap.size := lr.size
      have HE0 : Hid (own (α := Ltr) 49 w1.heap.size (w1.alloc (Obj.cells #[] 49)) (.slice (some ⟨w1.heap.size, 0, none⟩) 0 0) []) := own.made0 w1 _ (Nat.le_refl _)
      have la : Below w1.heap.size w1 (w1.alloc (Obj.cells #[] 49)) := later_alloc (Below.refl _ _) _
      have hvb : vs.length ≤ 1000 := by have := HVL.out; omega
      go_wp2_with (first | (at_builtin; refine wpList_appendAll (α := Ltr) rfl (.tmp 14) (.tmp 15) 29 rfl w1.heap.size 49 i1 _ 24 Try.underlying29 ji jz0 jz1 jz2 rfl (by decide) (.slice (some ⟨w1.heap.size, 0, none⟩) 0 0) [] rfl HE0.out (.slice A2 m2 c2) ys rfl (w1.alloc (Obj.cells #[] 49)).heap.size (HU.out.on (later_trans lr la)) (by unfold maxLen; simp; omega) (by simp; omega) la.size ?_; intro v' w2 ho2 hg2 _; have l2 : Below w1.heap.size w1 w2 := la.trans (below_append HE0.out hg2 la.size); rw [List.nil_append] at ho2; have HO2 := Lib.hid ho2; have hs2 : w1.heap.size ≤ w2.heap.size := l2.size; have lr2 := later_trans lr l2; obtain ⟨A5, m5, c5, rfl, hm5, _, _, _⟩ := ho2.rd; subst hm5; clear ho2 hg2; have HB2 := Lib.hid (HB.out.below l2); have HF2 : Hid (farLL (.slice A5 ys.length c5) (.slice AO vs.length cO) vs) := ⟨apart_gt HO2.out HB.out.1 (Nat.le_refl _), fun i hi => apart_gt HO2.out (HB.out.2.2.1 i hi (by have := HB.out.2.1; omega)) (Nat.le_refl _)⟩) | (at_builtin; refine wpList_append1' (α := Value) rfl (.tmp 13) (.tmp 17) 51 rfl w.heap.size 29 i0 _ 24 Try.underlying51 hi hzz hz1 hz2 rfl (by decide) (.slice AO vs.length cO) vs (.slice A5 ys.length c5) rfl (HB2.out.1.alloc _) ⟨w2.heap.size, 0, none⟩ 1 [.slice A5 ys.length c5] rfl ⟨rfl, rfl⟩ (news_at w2 _ [.slice A5 ys.length c5]) (by unfold maxLen; omega) (by omega) (by simp; omega) ?_; intro g cap w3 ho3 hg3 ha3 hl3))
      have l3 : Below w.heap.size w w3 := (later_alloc lr2 (Obj.cells #[.slice A5 ys.length c5] 29)).grown hg3 (by simp; omega) fun q hq => (HB2.out.1.blk q hq).1
      have HB3 := Lib.hid (isLL.snoc (HB2.out.below (later_alloc (Below.refl _ _) (Obj.cells #[.slice A5 ys.length c5] 29))) ((HO2.out.base_ hs1).alloc (Obj.cells #[.slice A5 ys.length c5] 29)) HF2.out ho3 hg3 ha3)
      go_wp2
      go_roundw
      case rel => exact ⟨k + 1, _, by omega, by go_num, l3, by rw [HS.out]; exact HB3.out⟩
      case measure => simp [intOf]; omega
    · have HE := Lib.hid (show k = xss.length by omega)
      go_wp2
      go_ret
      have h := HB.out
      rw [HE.out, List.take_length] at h
      exact ⟨_, vs, rfl, h, lr⟩

end Go.Proofs.Ytnlljekijlkigaa
