/- B4 -/
import Derived.Test.YtpinkbodbedajaaGreatDoorQ5
import Derived.Test.YtpinkbodbedajaaGreatDoorQ6
namespace Go.Proofs.YtpinkbodbedajaaGreatDoor
open Go.RowKit

set_option maxRecDepth 100000 in
set_option maxHeartbeats 400000 in
theorem impl_copyLetters (v : Value) (xs : List Ltr) (w : World) (hv : rd w w.heap.size v xs) (hl : xs.length ≤ 1048576) :
    Calls Tryz.prog 160 #[v] w fun e w' => ∃ v', e = .returned v' ∧ own 89 w.heap.size w' v' xs ∧ Below w.heap.size w w' := by
  have hv0 := Lib.hid hv
  obtain ⟨A, n, c, rfl, hn, hc, hm, hr⟩ := hv
  subst hn
  clear hr
  obtain ⟨i0, hi, hz0, hz1, hz2⟩ := info_parts Tryz.infoLtr
  have hmk := make_row (P := Tryz.prog) 29 89 i0 _ Tryz.underlying29 hi hz0 xs.length (by rw [hz2]; omega) (by omega)
  go_enter Tryz.func160, Tryz.ntmps160
  go_wp2_with (refine wpList_copyAll (α := Ltr) (o := ⟨some 9, _, _, _, _, _⟩) rfl (.tmp 7) (.tmp 8) 29 29 rfl w.heap.size w.heap.size 89 i0 Tryz.underlying29 hi hz1 (by decide) (madeCells #[Value.int IntKind.i64 0, Value.string ⟨#[]⟩] (xs.length * 2)) (.slice A xs.length c) xs _ (hv0.out.on ((Below.refl _ _).alloc (Nat.le_refl _) _)) rfl rfl (heap_alloc_new w _) (by rw [size_madeCells]; rfl) (Nat.le_refl _) (by unfold maxLen; omega) ?_; intro w1 ho1 hg1)
  go_wp2
  go_ret
  exact ⟨_, rfl, ho1, below_of_grown (grown_trans' (World.grownBy_alloc w _ _) hg1) (Nat.le_refl _) (fun k hk => by injection hk; omega)⟩

end Go.Proofs.YtpinkbodbedajaaGreatDoor
