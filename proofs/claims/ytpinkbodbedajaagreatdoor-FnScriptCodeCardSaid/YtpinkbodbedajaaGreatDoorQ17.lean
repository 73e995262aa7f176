/- B11 B12 -/
import Derived.Test.YtpinkbodbedajaaGreatDoorQ14
import Derived.Test.YtpinkbodbedajaaGreatDoorQ16
namespace Go.Proofs.YtpinkbodbedajaaGreatDoor
open Go.RowKit




end Go.Proofs.YtpinkbodbedajaaGreatDoor

namespace Go.Proofs.YtpinkbodbedajaaGreatDoor
open Go.RowKit

/-- A row of rows that grows by one row. -/
theorem isLL.snoc {α : Type} [Flat α] {T1 T2 base g m cap : Nat} {w w1 : World} {v u : Value} {vs : List Value} {xss : List (List α)} {ys : List α}
    (h : isLL T1 T2 base w v xss vs) (ho : own T2 base w u ys) (hf : farLL u v vs) (hn : own T1 base w1 (.slice (some ⟨g, 0, none⟩) m cap) (vs ++ [u])) (hg : w.grownBy w1 v.ownBlock) (ha : some g = v.ownBlock ∨ g = w.heap.size) :
    isLL T1 T2 base w1 (.slice (some ⟨g, 0, none⟩) m cap) (xss ++ [ys]) (vs ++ [u]) := by
  obtain ⟨h1, h2, h3, h4, h5⟩ := h
  have hfu : ∀ k (hk : k < (vs ++ [u]).length), apart (vs ++ [u])[k] v := fun k hk => by
    by_cases hkv : k < vs.length
    · rw [List.getElem_append_left hkv]; exact h5 k hkv
    · rw [List.getElem_append_right (by omega)]
      have : k - vs.length = 0 := by simp at hk; omega
      simp only [this, List.getElem_cons_zero]; exact hf.1
  have hlt : ∀ k (hk : k < (vs ++ [u]).length) j, (vs ++ [u])[k].ownBlock = some j → j < w.heap.size := fun k hk j => by
    by_cases hkv : k < vs.length
    · rw [List.getElem_append_left hkv]; exact fun e => ((h3 k hkv (by omega)).blk j e).2
    · rw [List.getElem_append_right (by omega)]
      have : k - vs.length = 0 := by simp at hk; omega
      simp only [this, List.getElem_cons_zero]; exact fun e => (ho.blk j e).2
  refine ⟨hn, by simp [h2], fun k hk hk' => ?_, fun j k hj hk hne => ?_, fun k hk => ?_⟩
  · by_cases hkv : k < vs.length
    · rw [List.getElem_append_left hkv, List.getElem_append_left (by omega)]
      exact (h3 k hkv (by omega)).grown hg (h5 k hkv)
    · have e1 : k - vs.length = 0 := by simp at hk; omega
      have e2 : k - xss.length = 0 := by omega
      rw [List.getElem_append_right (by omega), List.getElem_append_right (by omega)]
      simp only [e1, e2, List.getElem_cons_zero]
      exact ho.grown hg hf.1
  · by_cases hjv : j < vs.length
    · by_cases hkv : k < vs.length
      · rw [List.getElem_append_left hjv, List.getElem_append_left hkv]; exact h4 j k hjv hkv hne
      · have e1 : k - vs.length = 0 := by simp at hk; omega
        rw [List.getElem_append_left hjv, List.getElem_append_right (by omega)]
        simp only [e1, List.getElem_cons_zero]; exact apart_symm (hf.2 j hjv)
    · have e1 : j - vs.length = 0 := by simp at hj; omega
      by_cases hkv : k < vs.length
      · rw [List.getElem_append_right (by omega), List.getElem_append_left hkv]
        simp only [e1, List.getElem_cons_zero]; exact hf.2 k hkv
      · exfalso; simp at hj hk; omega
  · exact apart_symm (apart_app (apart_symm (hfu k hk)) ha fun j hj => hlt k hk j hj)

set_option maxRecDepth 100000 in
set_option maxHeartbeats 800000 in
theorem impl_faultyValid (v vb vm : Value) (p : Pln) (xs : List Ltr) (k : Int) (ms : List Mis) (w : World) (hv : rdP w w.heap.size v p) (hb : rd w w.heap.size vb xs) (hm : rd w w.heap.size vm ms) :
    Calls Tryz.prog 259 #[v, vb, .int .i64 k, vm] w fun e w' => e = .returned (.bool (fpOk p xs k ms)) ∧ Below w.heap.size w w' := by
  obtain ⟨A0, c0, e0⟩ := openP hv
  obtain ⟨w0, hw0⟩ : ∃ w0, w0 = w.alloc (Obj.cells #[.int .i64 p.bins, .int .i64 p.passes, .slice A0 p.order.length c0] 25) := ⟨_, rfl⟩
  have q0 := box_cells hw0 0 (.int .i64 p.bins) rfl
  have q1 := box_cells hw0 1 (.int .i64 p.passes) rfl
  have q2 := box_cells hw0 2 (.slice A0 p.order.length c0) rfl
  have HT := Lib.hid (box_later hw0).1
  have HP := Lib.hid (hv.on HT.out)
  have HB := Lib.hid (hb.on HT.out)
  have HM := Lib.hid (hm.on HT.out)
  subst e0
  have HW0 := Lib.hid hw0; clear hw0 hv hb hm
  have l0 := Below.refl w0.heap.size w0
  have hwlt : w.heap.size ≤ w0.heap.size := HT.out.size
  have HQ : Hid (fpOk p xs k ms = (passOk p k && okB xs && misOk p ms)) := rfl
  go_enter Tryz.func259, Tryz.ntmps259
  go_wp2_with fail
  rw [← HW0.out]
  refine (impl_passValid _ p k _ HP.out).mono ?_
  rintro e w1 ⟨rfl, b1⟩
  have l1 := later_trans l0 b1
  cases h1 : passOk p k
  · have HF : Hid (fpOk p xs k ms = false) := by show _ = _; rw [HQ.out, h1]; rfl
    clear h1
    go_wp2_with fail
    go_ret
    exact ⟨ret_bool HF.out.symm, later_trans HT.out l1⟩
  have H1 := Lib.hid h1; clear h1
  go_wp2_with fail
  refine (impl_BatchValid _ xs _ (HB.out.on l1)).mono ?_
  rintro e w2 ⟨rfl, b2⟩
  have l2 := later_trans l1 b2
  cases h2 : okB xs
  · have HF : Hid (fpOk p xs k ms = false) := by show _ = _; rw [HQ.out, h2]; simp
    clear h2
    go_wp2_with fail
    go_ret
    exact ⟨ret_bool HF.out.symm, later_trans HT.out l2⟩
  have H2 := Lib.hid h2; clear h2
  have HF : Hid (fpOk p xs k ms = misOk p ms) := by show _ = _; rw [HQ.out, H1.out, H2.out]; rfl
  go_wp2_with fail
  refine (impl_MissortsValid _ _ p ms _ (HP.out.on l2) (HM.out.on l2)).mono ?_
  rintro e w3 ⟨rfl, b3⟩
  have l3 := later_trans l2 b3
  generalize misOk p ms = r at *
  go_wp2_with fail
  go_ret
  exact ⟨ret_bool HF.out.symm, later_trans HT.out l3⟩



end Go.Proofs.YtpinkbodbedajaaGreatDoor
