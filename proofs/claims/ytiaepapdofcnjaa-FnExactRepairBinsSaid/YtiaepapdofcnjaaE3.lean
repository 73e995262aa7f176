/- What the laws do with letters: marks written and read again. -/
import Derived.Test.YtiaepapdofcnjaaE2
import Derived.Test.YtiaepapdofcnjaaW1
namespace Go.Proofs.Ytiaepapdofcnjaa
open Go.RowKit

/-- The marks that 'markLetterS' leaves in n letters. -/
def marksL (k n : Nat) : List Ltr := (List.range n).map fun i => ⟨((k + 2 * i : Nat) : Int), markB (k + 2 * i + 1)⟩
theorem marksL_len (k n : Nat) : (marksL k n).length = n := by simp [marksL]
theorem marksL_get (k n i : Nat) (h : i < (marksL k n).length) : (marksL k n)[i] = ⟨((k + 2 * i : Nat) : Int), markB (k + 2 * i + 1)⟩ := by simp [marksL]
theorem markB_size (k : Nat) (hk : k ≤ 1099511627776) : (markB k).size ≤ maxLen := by
  unfold markB
  have := dec10_len k
  split
  · show 2 ≤ maxLen
    unfold maxLen; omega
  · show (109 :: dec10 k).toArray.size ≤ maxLen
    rw [List.size_toArray, List.length_cons]
    unfold maxLen; omega

/-- The first k letters marked. -/
def markedTo (k0 : Nat) (xs : List Ltr) (k : Nat) : List Ltr := marksL k0 k ++ xs.drop k
theorem markedTo_len {k0 : Nat} {xs : List Ltr} {k : Nat} (h : k ≤ xs.length) : (markedTo k0 xs k).length = xs.length := by
  simp [markedTo, marksL_len]; omega
theorem markedTo_step {k0 : Nat} {xs : List Ltr} {k : Nat} (h : k < xs.length) : (markedTo k0 xs k).set k ⟨((k0 + 2 * k : Nat) : Int), markB (k0 + 2 * k + 1)⟩ = markedTo k0 xs (k + 1) := by
  unfold markedTo
  rw [List.set_append_right _ _ (by rw [marksL_len]; exact Nat.le_refl _), marksL_len, Nat.sub_self, List.drop_eq_getElem_cons h, List.set_cons_zero]
  unfold marksL
  rw [List.range_succ, List.map_append]
  simp

set_option maxHeartbeats 400000 in
theorem laws_markLetterS (T base : Nat) (v : Value) (xs : List Ltr) (k0 : Nat) (w : World) (hv : own T base w v xs) (hk0 : k0 ≤ 274877906944) (hl : xs.length ≤ 1048576) :
    Calls Try.prog 24 #[v, .int .i64 k0] w fun e w' => e = .returned (.int .i64 ((k0 + 2 * xs.length : Nat) : Int)) ∧ own T base w' v (marksL k0 xs.length) ∧ w.grownBy w' v.ownBlock := by
  rcases hv.form with ⟨rfl, rfl⟩ | ⟨g, c, rfl, hg, hgl, hc, hm⟩
  · go_enter Try.func24, Try.ntmps24
    go_wp2
    go_loopw [1, 5] (fun t i wr => i = .int .i64 0 ∧ t = .int .i64 k0 ∧ wr = w) (fun _ _ _ => 0)
    case atStart => exact ⟨rfl, rfl, rfl⟩
    case round =>
      obtain ⟨rfl, rfl, rfl⟩ := hrel
      go_wp2
      go_ret
      exact ⟨ret_int (by simp), by simpa [marksL] using own.nil_ (α := Ltr) _ _ _, World.grownBy.refl _ _⟩
  · unfold maxLen at hm
    have HV := Lib.hid hv; clear hv
    go_enter Try.func24, Try.ntmps24
    go_wp2
    go_loopw [1, 5] (fun t i wr => ∃ (k m : Nat), k ≤ xs.length ∧ i = .int .i64 k ∧ t = .int .i64 m ∧ Hid (m = k0 + 2 * k) ∧ w.grownBy wr (some g) ∧ own T base wr (.slice (some ⟨g, 0, none⟩) xs.length c) (markedTo k0 xs k)) (fun _ i _ => xs.length - (intOf i).toNat)
    case atStart => exact ⟨0, k0, Nat.zero_le _, rfl, rfl, rfl, World.grownBy.refl _ _, by simpa [markedTo, marksL] using HV.out⟩
    case round =>
      obtain ⟨k, m, hk, rfl, rfl, HM, hgr, ho⟩ := hrel
      obtain ⟨w1, rfl⟩ : ∃ w1 : World, w1 = wr := ⟨_, rfl⟩
      have hmb : (m : Int) ≤ 824633720832 := by have := HM.out; omega
      by_cases hlt : k < xs.length
      · have hlen := markedTo_len (k0 := k0) hk
        have HST := Lib.hid (markedTo_step (k0 := k0) hlt)
        generalize markedTo k0 xs k = ys at *
        have HLEN := Lib.hid hlen; clear hlen
        have hlt' : k < ys.length := by rw [HLEN.out]; exact hlt
        have ho1 := ho.setCell (k := k) (j := 0) hlt' (by decide) (.int .i64 m) ⟨m, ys[k].code⟩ (fun ecs he => by
          obtain ⟨⟨h1, h2⟩, rfl⟩ := he
          exact ⟨⟨⟨by show _ ≤ (m : Int); omega, by show (m : Int) ≤ _; omega⟩, h2⟩, rfl⟩)
        obtain ⟨u0, g0⟩ := ho.cellAt (j := k * 2) (by show _ < _ * 2; omega)
        have f0 := ho.freeAt (k * 2)
        have HO1 := Lib.hid ho1; clear ho1
        have HO := Lib.hid ho; clear ho
        have hgr1 : w.grownBy (w1.setCell ⟨g, k * 2, none⟩ (.int .i64 m)) (some g) := grown_setCell hgr (.inl rfl) _
        go_wp2_with fail
        refine (laws_markText (m + 1) _ (by omega)).mono ?_
        rintro e w2 ⟨rfl, hb3⟩
        have hgr2 : w.grownBy w2 (some g) := grown_below hgr1 hb3
        have ho2 := HO1.out.below hb3
        have hlt2 : k < (ys.set k ⟨m, ys[k].code⟩).length := by simpa using hlt'
        have ho3 := ho2.setCell (k := k) (j := 1) hlt2 (by decide) (.string (markB (m + 1))) ⟨m, markB (m + 1)⟩ (fun ecs he => by
          obtain ⟨⟨h1, h2⟩, rfl⟩ := he
          refine ⟨⟨?_, markB_size (m + 1) (by omega)⟩, ?_⟩
          · simpa using h1
          · simp [Ltr.cells])
        obtain ⟨u1, g1⟩ := ho2.cellAt (j := k * 2 + 1) (by show _ < _ * 2; rw [List.length_set]; omega)
        have f1 := ho2.freeAt (k * 2 + 1)
        have HO3 := Lib.hid ho3; clear ho3 ho2
        have hgr3 : w.grownBy (w2.setCell ⟨g, k * 2 + 1, none⟩ (.string (markB (m + 1)))) (some g) := grown_setCell hgr2 (.inl rfl) _
        clear hgr1 hb3
        go_wp2_with fail
        go_roundw
        case rel =>
          refine ⟨k + 1, m + 2, by omega, by go_num, by go_num, by show _ = _; have := HM.out; omega, hgr3, ?_⟩
          have := HO3.out
          rw [List.set_set] at this
          have hm2 := HM.out
          subst hm2
          rw [HST.out] at this
          exact this
        case measure => simp [intOf]; omega
      · have HE := Lib.hid (show k = xs.length by omega)
        have HO := Lib.hid ho; clear ho
        go_wp2
        go_ret
        refine ⟨ret_int ?_, ?_, hgr⟩
        · have := HM.out; have := HE.out; omega
        · have := HO.out
          have h2 := HE.out
          subst h2
          rw [markedTo, List.drop_length, List.append_nil] at this
          exact this

set_option maxHeartbeats 400000 in
theorem laws_heldLetterS (v : Value) (n k0 : Nat) (w : World) (hv : rd w w.heap.size v (marksL k0 n)) (hk0 : k0 ≤ 274877906944) (hl : n ≤ 1048576) :
    Calls Try.prog 26 #[v, .int .i64 k0] w fun e w' => e = .returned (.int .i64 ((k0 + 2 * n : Nat) : Int)) ∧ Below w.heap.size w w' := by
  obtain ⟨A, n', c, rfl, hn, hc, hm, hr⟩ := hv
  rw [marksL_len] at hn
  subst hn
  unfold maxLen at hm
  have HR := Lib.hid hr; clear hr
  go_enter Try.func26, Try.ntmps26
  go_wp2
  go_loopw [1, 5] (fun t i wr => ∃ (k m : Nat), k ≤ n' ∧ i = .int .i64 k ∧ t = .int .i64 m ∧ Hid (m = k0 + 2 * k) ∧ Below w.heap.size w wr) (fun _ i _ => n' - (intOf i).toNat)
  case atStart => exact ⟨0, k0, Nat.zero_le _, rfl, rfl, rfl, Below.refl _ _⟩
  case round =>
    obtain ⟨k, m, hk, rfl, rfl, HM, hbl⟩ := hrel
    obtain ⟨w1, rfl⟩ : ∃ w1 : World, w1 = wr := ⟨_, rfl⟩
    have hmb : (m : Int) ≤ 824633720832 := by have := HM.out; omega
    by_cases hlt : k < n'
    · obtain ⟨b, o, rfl, hb, _, c1, c2⟩ := HR.out.ltr k (by rw [marksL_len]; exact hlt)
      rw [marksL_get] at c1 c2
      have hm2 := HM.out
      rw [← hm2] at c1 c2
      clear hm2
      have c1' : w1.cell? ⟨b, o + k * 2, none⟩ = some (.int .i64 m) := (hbl.cell (p := ⟨b, o + k * 2, none⟩) hb).trans c1
      have c2' : w1.cell? ⟨b, o + k * 2 + 1, none⟩ = some (.string (markB (m + 1))) := (hbl.cell (p := ⟨b, o + k * 2 + 1, none⟩) hb).trans c2
      clear c1 c2
      have hmm : ((m : Int) != (m : Int)) = false := by simp
      have hbz := hbl.size
      have hkn : (k : Int) < (n' : Int) := by omega
      go_wp2
      go_region_held3 (fun w' => w'.cell? ⟨b, o + k * 2 + 1, none⟩ = some (.string (markB (m + 1))))
        (first | go_keep | (exact (hb3.cell (p := ⟨b, o + k * 2 + 1, none⟩) (by simp; omega)).trans (by go_simp)))
        (first | (go_at_call 77; refine (laws_markText (m + 1) _ (by omega)).mono ?_; rintro e w2 ⟨rfl, hb3⟩))
      have hb4 : Below w.heap.size w w2 := hbl.trans ((Below.refl _ _).drew.trans (hb3.mono hbz))
      go_wp2
      go_roundw
      case rel => exact ⟨k + 1, m + 2, by omega, by go_num, by go_num, by show _ = _; have := HM.out; omega, hb4⟩
      case measure => simp [intOf]; omega
    · have HE := Lib.hid (show k = n' by omega)
      go_wp2
      go_ret
      exact ⟨ret_int (by have := HM.out; have := HE.out; omega), hbl⟩

end Go.Proofs.Ytiaepapdofcnjaa
