/- Marks of arguments: letters, missorts. -/
import Derived.Test.YtiaepapdofcnjaaMK
namespace Go.Proofs.Ytiaepapdofcnjaa
open Go.RowKit

theorem u_wmL (T lo hi : Nat) (v : Value) (xs : List Ltr) (k0 : Nat) (w : World) (hv : seg T lo hi w v xs) (hk0 : k0 ≤ 274877906944) (hs : szL xs ≤ 1048576) :
    Calls Try.prog 24 #[v, .int .i64 k0] w fun e w' => e = .returned (.int .i64 ((k0 + 2 * xs.length : Nat) : Int)) ∧ OutI lo hi w w' := by
  refine (laws_markLetterS T lo _ xs k0 _ hv.1 hk0 (by unfold szL at hs; omega)).mono ?_
  rintro e w1 ⟨rfl, o1, gr⟩
  exact ⟨rfl, OutI.of_grown gr fun j hj => ⟨(hv.1.blk j hj).1, hv.2 j hj⟩⟩

set_option maxHeartbeats 800000 in
theorem u_wmM (T lo hi : Nat) (v : Value) (xs : List Mis) (k0 : Nat) (w : World) (hv : seg T lo hi w v xs) (hk0 : k0 ≤ 274877906944) (hs : szM xs ≤ 1048576) :
    Calls Try.prog 34 #[v, .int .i64 k0] w fun e w' => e = .returned (.int .i64 ((k0 + 2 * xs.length : Nat) : Int)) ∧ OutI lo hi w w' := by
  obtain ⟨hv, hhi⟩ := hv
  have hl : xs.length ≤ 1048576 := by unfold szM at hs; omega
  clear hs
  rcases hv.form with ⟨rfl, rfl⟩ | ⟨g, c, rfl, hg, hgl, hc, hm⟩
  · go_enter Try.func34, Try.ntmps34
    go_wp2
    go_loopw [1, 5] (fun t i wr => i = .int .i64 0 ∧ t = .int .i64 k0 ∧ wr = w) (fun _ _ _ => 0)
    case atStart => exact ⟨rfl, rfl, rfl⟩
    case round =>
      obtain ⟨rfl, rfl, rfl⟩ := hrel
      go_wp2
      go_ret
      exact ⟨ret_int (by simp), OutI.refl _ _ _⟩
  · unfold maxLen at hm
    have HV := Lib.hid hv; clear hv
    have HGR : Hid (∀ wr, w.grownBy wr (some g) → OutI lo hi w wr) := fun wr h => OutI.of_grown h fun j hj => by
      injection hj with hj
      subst hj
      exact ⟨hg, hhi g rfl⟩
    clear hhi
    go_enter Try.func34, Try.ntmps34
    go_wp2
    go_loopw [1, 5] (fun t i wr => ∃ (k m : Nat) (ys : List Mis), k ≤ xs.length ∧ i = .int .i64 k ∧ t = .int .i64 m ∧ Hid (m = k0 + 2 * k) ∧ w.grownBy wr (some g) ∧ Hid (ys.length = xs.length) ∧ own T lo wr (.slice (some ⟨g, 0, none⟩) xs.length c) ys) (fun _ i _ => xs.length - (intOf i).toNat)
    case atStart => exact ⟨0, k0, xs, Nat.zero_le _, rfl, rfl, rfl, World.grownBy.refl _ _, rfl, HV.out⟩
    case round =>
      obtain ⟨k, m, ys, hk, rfl, rfl, HM, hgr, HLEN, ho⟩ := hrel
      obtain ⟨w1, rfl⟩ : ∃ w1 : World, w1 = wr := ⟨_, rfl⟩
      have hmb : (m : Int) ≤ 824633720832 := by have := HM.out; omega
      by_cases hlt : k < xs.length
      · have hlt' : k < ys.length := by rw [HLEN.out]; exact hlt
        have ho1 := ho.setCell (k := k) (j := 0) hlt' (by decide) (.int .i64 m) ⟨m, ys[k].bin⟩ (fun ecs he => by
          obtain ⟨⟨h1, h2⟩, rfl⟩ := he
          exact ⟨⟨⟨by show _ ≤ (m : Int); omega, by show (m : Int) ≤ _; omega⟩, h2⟩, rfl⟩)
        obtain ⟨u0, g0⟩ := ho.cellAt (j := k * 2) (by show _ < _ * 2; omega)
        have f0 := ho.freeAt (k * 2)
        have hlt2 : k < (ys.set k ⟨m, ys[k].bin⟩).length := by simpa using hlt'
        have ho3 := ho1.setCell (k := k) (j := 1) hlt2 (by decide) (.int .i64 ((m : Int) + 1)) ⟨m, (m : Int) + 1⟩ (fun ecs he => by
          obtain ⟨⟨h1, h2⟩, rfl⟩ := he
          refine ⟨⟨?_, ⟨by show _ ≤ (m : Int) + 1; omega, by show (m : Int) + 1 ≤ _; omega⟩⟩, ?_⟩
          · simpa using h1
          · simp [Mis.cells])
        obtain ⟨u1, g1⟩ := ho.cellAt (j := k * 2 + 1) (by show _ < _ * 2; omega)
        have f1 := ho.freeAt (k * 2 + 1)
        have HO3 := Lib.hid ho3; clear ho3 ho1 ho
        have hgr1 : w.grownBy (w1.setCell ⟨g, k * 2, none⟩ (.int .i64 m)) (some g) := grown_setCell hgr (.inl rfl) _
        have HG3 : Hid (w.grownBy ((w1.setCell ⟨g, k * 2, none⟩ (.int .i64 m)).setCell ⟨g, k * 2 + 1, none⟩ (.int .i64 ((m : Int) + 1))) (some g)) := grown_setCell hgr1 (.inl rfl) _
        clear hgr hgr1
        go_wp2
        go_roundw
        case rel => exact ⟨k + 1, m + 2, _, by omega, by go_num, by go_num, by show _ = _; have := HM.out; omega, HG3.out, by show _ = _; rw [List.length_set, List.length_set]; exact HLEN.out, HO3.out⟩
        case measure => simp [intOf]; omega
      · have HE := Lib.hid (show k = xs.length by omega)
        have HO := Lib.hid ho; clear ho
        go_wp2
        go_ret
        exact ⟨ret_int (by have := HM.out; have := HE.out; omega), HGR.out _ hgr⟩

end Go.Proofs.Ytiaepapdofcnjaa
