/- JK JL -/
import Derived.Test.YtpinkbodbedajaaGreatDoorQ33
import Derived.Test.YtpinkbodbedajaaGreatDoorQ20
import Derived.Test.YtpinkbodbedajaaGreatDoorQ32
import Derived.LaidLaws
import Derived.LaidOnce
import Derived.Lib.LaidTab
namespace Go.Proofs.YtpinkbodbedajaaGreatDoor
open Go.RowKit

set_option maxRecDepth 100000 in
set_option maxHeartbeats 1600000 in
theorem spec_PlaceValid (p : Plc) (w : World) :
    Calls Tryz.prog 73 #[.agg #[.int .i64 p.area, .int .i64 p.walk, .int .i64 p.point]] w fun e w' => e = .returned (.bool (plcOk p)) ∧ Below w.heap.size w w' := by
  have HB : Hid (Below w.heap.size w (w.alloc (Obj.cells #[.int .i64 p.area, .int .i64 p.walk, .int .i64 p.point] 51))) := (Below.refl _ _).alloc (Nat.le_refl _) _
  have HE : Hid (plcOk p = ((decide (0 ≤ p.area) && decide (p.area ≤ 999)) && ((decide (0 ≤ p.walk) && decide (p.walk ≤ 99)) && (decide (0 ≤ p.point) && decide (p.point ≤ 99))))) := rfl
  have H1 := Lib.hid (fun W => spec_l1In p.area 0 999 W)
  have H2 := Lib.hid (fun W => spec_l1In p.walk 0 99 W)
  have H3 := Lib.hid (fun W => spec_l1In p.point 0 99 W)
  generalize (decide (0 ≤ p.area) && decide (p.area ≤ 999)) = b1 at *
  generalize (decide (0 ≤ p.walk) && decide (p.walk ≤ 99)) = b2 at *
  generalize (decide (0 ≤ p.point) && decide (p.point ≤ 99)) = b3 at *
  generalize plcOk p = r at *
  obtain ⟨a, b, c⟩ := p
  go_enter Tryz.func73, Tryz.ntmps73
  cases b1
  case false =>
    go_wp2_with (go_at_call 115; first | ((with_reducible refine (H1.out _).mono ?_); rintro e _ ⟨rfl, rfl⟩) | ((with_reducible refine (H2.out _).mono ?_); rintro e _ ⟨rfl, rfl⟩) | ((with_reducible refine (H3.out _).mono ?_); rintro e _ ⟨rfl, rfl⟩))
    go_ret
    exact ⟨ret_bool (by rw [HE.out]; rfl), HB.out⟩
  cases b2
  case false =>
    go_wp2_with (go_at_call 115; first | ((with_reducible refine (H1.out _).mono ?_); rintro e _ ⟨rfl, rfl⟩) | ((with_reducible refine (H2.out _).mono ?_); rintro e _ ⟨rfl, rfl⟩) | ((with_reducible refine (H3.out _).mono ?_); rintro e _ ⟨rfl, rfl⟩))
    go_ret
    exact ⟨ret_bool (by rw [HE.out]; rfl), HB.out⟩
  go_wp2_with (go_at_call 115; first | ((with_reducible refine (H1.out _).mono ?_); rintro e _ ⟨rfl, rfl⟩) | ((with_reducible refine (H2.out _).mono ?_); rintro e _ ⟨rfl, rfl⟩) | ((with_reducible refine (H3.out _).mono ?_); rintro e _ ⟨rfl, rfl⟩))
  go_ret
  exact ⟨ret_bool (by rw [HE.out]; simp), HB.out⟩

set_option maxRecDepth 100000 in
set_option maxHeartbeats 1600000 in
theorem spec_CodeOf_yes (p : Plc) (w : World) (hp : plcOk p = true) :
    Calls Tryz.prog 23 #[.agg #[.int .i64 p.area, .int .i64 p.walk, .int .i64 p.point]] w fun e w' => e = .returned (.tuple #[.string (codeP p), .bool true]) ∧ Below w.heap.size w w' := by
  have HP := Lib.hid hp
  obtain ⟨⟨h1, h2⟩, ⟨h3, h4⟩, ⟨h5, h6⟩⟩ := plcOk_iff.1 hp
  clear hp
  obtain ⟨a, b, c⟩ := p
  simp only at h1 h2 h3 h4 h5 h6
  obtain ⟨a, rfl⟩ := Int.eq_ofNat_of_zero_le h1
  obtain ⟨b, rfl⟩ := Int.eq_ofNat_of_zero_le h3
  obtain ⟨c, rfl⟩ := Int.eq_ofNat_of_zero_le h5
  have HA : Hid (∀ W : World, Calls Tryz.prog 74 #[.int .i64 (a : Int), .int .i64 3] W fun e w' => e = .returned (.string (showB a 3)) ∧ Below W.heap.size W w') := fun W => spec_l1Show a 3 W (by omega) (by omega)
  have HB : Hid (∀ W : World, Calls Tryz.prog 74 #[.int .i64 (b : Int), .int .i64 2] W fun e w' => e = .returned (.string (showB b 2)) ∧ Below W.heap.size W w') := fun W => spec_l1Show b 2 W (by omega) (by omega)
  have HC : Hid (∀ W : World, Calls Tryz.prog 74 #[.int .i64 (c : Int), .int .i64 2] W fun e w' => e = .returned (.string (showB c 2)) ∧ Below W.heap.size W w') := fun W => spec_l1Show c 2 W (by omega) (by omega)
  have sA := showB_size a 3
  have sB := showB_size b 2
  have sC := showB_size c 2
  have HV : Hid (codeP ⟨(a : Int), (b : Int), (c : Int)⟩ = showB a 3 ++ showB b 2 ++ showB c 2) := rfl
  obtain ⟨sa, hsa⟩ : ∃ s, showB a 3 = s := ⟨_, rfl⟩
  obtain ⟨sb, hsb⟩ : ∃ s, showB b 2 = s := ⟨_, rfl⟩
  obtain ⟨sc, hsc⟩ : ∃ s, showB c 2 = s := ⟨_, rfl⟩
  rw [hsa] at HA sA HV
  rw [hsb] at HB sB HV
  rw [hsc] at HC sC HV
  rw [HV.out]
  have sA := Nat.le_of_eq sA
  have sB := Nat.le_of_eq sB
  have sC := Nat.le_of_eq sC
  clear hsa hsb hsc
  have a1 : ¬ 9223372036854775807 < sa.size + sb.size := by omega
  have a2 : ¬ 9223372036854775807 < sa.size + sb.size + sc.size := by omega
  obtain ⟨w0, hw0⟩ : ∃ u, u = w.alloc (Obj.cells #[.int .i64 (a : Int), .int .i64 (b : Int), .int .i64 (c : Int)] 51) := ⟨_, rfl⟩
  have q0 := box_cells hw0 0 (.int .i64 (a : Int)) rfl
  have q1 := box_cells hw0 1 (.int .i64 (b : Int)) rfl
  have q2 := box_cells hw0 2 (.int .i64 (c : Int)) rfl
  have HT := Lib.hid (box_later hw0).1
  have HPV := Lib.hid (spec_PlaceValid ⟨a, b, c⟩ w0)
  rw [HP.out] at HPV
  have HW := Lib.hid hw0; clear hw0
  go_enter Tryz.func23, Tryz.ntmps23
  go_wp2_with fail
  rw [← HW.out]
  refine HPV.out.mono ?_
  rintro e w1 ⟨rfl, b1⟩
  have ld := later_drew b1
  go_wp2_with fail
  go_region_held3 (fun W => Below w0.heap.size w0 W) (first | exact ld | exact k3 | exact k2 | exact k1 | fail) (first | (go_at_call 74; first | ((with_reducible refine (HA.out _).mono ?_); rintro e u1 ⟨rfl, z1⟩; have k1 := later_trans ld z1) | ((with_reducible refine (HB.out _).mono ?_); rintro e u2 ⟨rfl, z2⟩; have k2 := later_trans k1 z2) | ((with_reducible refine (HC.out _).mono ?_); rintro e u3 ⟨rfl, z3⟩; have k3 := later_trans k2 z3) | fail) | fail)
  all_goals
    have K3 := Lib.hid (later_trans HT.out k3)
    clear k1 k2 k3 z1 z2 z3 ld b1
    go_wp2_with fail
    go_ret2
    exact ⟨rfl, K3.out⟩

set_option maxRecDepth 100000 in
set_option maxHeartbeats 800000 in
theorem spec_CodeOf_no (p : Plc) (w : World) (hp : plcOk p = false) :
    Calls Tryz.prog 23 #[.agg #[.int .i64 p.area, .int .i64 p.walk, .int .i64 p.point]] w fun e w' => e = .returned (.tuple #[.string ⟨#[]⟩, .bool false]) ∧ Below w.heap.size w w' := by
  obtain ⟨w0, hw0⟩ : ∃ u, u = w.alloc (Obj.cells #[.int .i64 p.area, .int .i64 p.walk, .int .i64 p.point] 51) := ⟨_, rfl⟩
  have HT := Lib.hid (box_later hw0).1
  have HPV := Lib.hid (spec_PlaceValid p w0)
  rw [hp] at HPV
  clear hp
  have HW := Lib.hid hw0; clear hw0
  go_enter Tryz.func23, Tryz.ntmps23
  go_wp2_with fail
  rw [← HW.out]
  refine HPV.out.mono ?_
  rintro e w1 ⟨rfl, b1⟩
  have K1 := Lib.hid (later_trans HT.out b1)
  clear b1
  go_wp2_with fail
  go_ret2
  exact ⟨rfl, K1.out⟩

set_option maxRecDepth 100000 in
set_option maxHeartbeats 800000 in
theorem spec_l1Number (s : ByteArray) (w : World) (hd : digs s.data.toList = true) (hz : s.size ≤ 17) :
    Calls Tryz.prog 218 #[.string s] w fun e w' => e = .returned (.int .i64 (numL s.data.toList : Int)) ∧ w = w' := by
  have HD := Lib.hid hd; clear hd
  go_enter Tryz.func218, Tryz.ntmps218
  go_wp2_with fail
  go_loop [3, 4] (fun t i => ∃ k : Nat, k ≤ s.size ∧ i = .int .i64 k ∧ t = .int .i64 (numL (s.data.toList.take k) : Int)) (fun _ i => s.size - (intOf i).toNat)
  case atStart => exact ⟨0, Nat.zero_le _, rfl, rfl⟩
  case round =>
    obtain ⟨k, hk, rfl, rfl⟩ := hrel
    by_cases hlt : k < s.size
    · have hlt' : k < s.data.toList.length := by simpa using hlt
      have hb := digs_mem HD.out s[k] (by
        have := List.getElem_mem hlt'
        exact this)
      have HS0 : numL (s.data.toList.take (k + 1)) = 10 * numL (s.data.toList.take k) + (s[k].toNat - 48) := by
        rw [List.take_succ_eq_append_getElem hlt', numL_snoc]
        rfl
      have hn := numL_lt k (s.data.toList.take k) (digs_take HD.out k) (by rw [List.length_take]; omega)
      have hp : 10 ^ k ≤ 10 ^ 16 := Nat.pow_le_pow_right (by decide) (by omega)
      obtain ⟨n, hnn⟩ : ∃ n, numL (s.data.toList.take k) = n := ⟨_, rfl⟩
      rw [hnn] at HS0 hn ⊢
      have hn16 : n ≤ 10000000000000000 := by omega
      clear hnn hn hp
      obtain ⟨b, hbe⟩ : ∃ b, s[k] = b := ⟨_, rfl⟩
      rw [hbe] at hb HS0
      obtain ⟨hb1, hb2⟩ := hb
      have HS := Lib.hid HS0; clear HS0
      have hki : (k : Int) < (s.size : Int) := by omega
      have w2 : IntKind.i64.wrap (b.toNat : Int) = (b.toNat : Int) := IntWalk.i64_in _ (by omega)
      have w3 : IntKind.i64.wrap (10 * (n : Int)) = 10 * (n : Int) := IntWalk.i64_in _ (by omega)
      have w4 : IntKind.i64.wrap (10 * (n : Int) + (b.toNat : Int)) = 10 * (n : Int) + (b.toNat : Int) := IntWalk.i64_in _ (by omega)
      have w5 : IntKind.i64.wrap (10 * (n : Int) + (b.toNat : Int) - 48) = 10 * (n : Int) + (b.toNat : Int) - 48 := IntWalk.i64_in _ (by omega)
      have hb1' : (48 : Int) ≤ (b.toNat : Int) := by omega
      have hb2' : (b.toNat : Int) ≤ 57 := by omega
      go_wp2_with fail
      go_round
      case rel => exact ⟨k + 1, by omega, by go_num, by rw [HS.out]; congr 1; omega⟩
      case measure => simp [intOf]; omega
    · have HE : Hid (s.data.toList.take k = s.data.toList) := List.take_of_length_le (by simp; omega)
      go_wp2_with fail
      go_ret
      exact ⟨ret_int (by rw [HE.out]), rfl⟩

set_option maxRecDepth 100000 in
set_option maxHeartbeats 1600000 in
theorem spec_PlaceOf_yes (c : ByteArray) (w : World) (hc : isCode c = true) :
    Calls Tryz.prog 140 #[.string c] w fun e w' => e = .returned (.tuple #[.agg #[.int .i64 (placeN c).area, .int .i64 (placeN c).walk, .int .i64 (placeN c).point], .bool true]) ∧ Below w.heap.size w w' := by
  obtain ⟨h7, _⟩ := code_mem hc
  have hdd : digs c.data.toList = true := by unfold isCode at hc; rw [Bool.and_eq_true] at hc; exact hc.2
  have hx : ∀ i j, j ≤ c.size → digs (c.extract i j).data.toList = true := fun i j hj => by
    rw [ByteArray.data_extract]
    have e : (c.data.extract i j).toList = (c.data.toList.take j).drop i := by simp [List.drop_take]
    rw [e]
    exact digs_drop (digs_take hdd j) i
  have H0 : Hid (∀ W : World, Calls Tryz.prog 218 #[.string (c.extract 0 3)] W fun e w' => e = .returned (.int .i64 (placeN c).area) ∧ W = w') := fun W => spec_l1Number _ W (hx 0 3 (by omega)) (by rw [ByteArray.size_extract]; omega)
  have H1 : Hid (∀ W : World, Calls Tryz.prog 218 #[.string (c.extract 3 5)] W fun e w' => e = .returned (.int .i64 (placeN c).walk) ∧ W = w') := fun W => spec_l1Number _ W (hx 3 5 (by omega)) (by rw [ByteArray.size_extract]; omega)
  have H2 : Hid (∀ W : World, Calls Tryz.prog 218 #[.string (c.extract 5 c.size)] W fun e w' => e = .returned (.int .i64 (placeN c).point) ∧ W = w') := fun W => spec_l1Number _ W (hx 5 c.size (by omega)) (by rw [ByteArray.size_extract]; omega)
  have HCV : Hid (∀ W : World, Calls Tryz.prog 88 #[.string c] W fun e w' => e = .returned (.bool true) ∧ W = w') := fun W => by
    have := spec_CodeValid c W (by unfold maxLen; omega)
    rw [hc] at this; exact this
  have g1 : (3 : Int) ≤ (c.size : Int) := by omega
  have g2 : (5 : Int) ≤ (c.size : Int) := by omega
  have HB0 := Lib.hid (heap_alloc_new w (Obj.cells #[.int .i64 0, .int .i64 0, .int .i64 0] 51))
  have HL0 : Hid (Below w.heap.size w (w.alloc (Obj.cells #[.int .i64 0, .int .i64 0, .int .i64 0] 51))) := (Below.refl _ _).alloc (Nat.le_refl _) _
  generalize placeN c = p at *
  clear hc h7 hdd hx
  go_enter Tryz.func140, Tryz.ntmps140
  go_wp2_with fail
  refine (HCV.out _).mono ?_
  rintro e _ ⟨rfl, rfl⟩
  go_wp2_with fail
  go_region_held3 (fun _ => True) (first | trivial | fail) (first | (go_at_call 218; first | ((with_reducible refine (H0.out _).mono ?_); rintro e _ ⟨rfl, rfl⟩) | ((with_reducible refine (H1.out _).mono ?_); rintro e _ ⟨rfl, rfl⟩) | ((with_reducible refine (H2.out _).mono ?_); rintro e _ ⟨rfl, rfl⟩) | fail) | fail)
  all_goals
    go_wp2_with fail
    refine ret_box1 rfl rfl (heap_alloc_new w (Obj.cells #[.int .i64 p.area, .int .i64 p.walk, .int .i64 p.point] 51)) Tryz.underlying51 rfl Tryz.sizePlc rfl ?_
    exact ⟨rfl, later_drew ((Below.refl w.heap.size w).alloc (Nat.le_refl _) _)⟩

set_option maxRecDepth 100000 in
set_option maxHeartbeats 800000 in
theorem spec_PlaceOf_any (c : ByteArray) (w : World) (hz : c.size = 7) :
    Calls Tryz.prog 140 #[.string c] w fun e w' => ∃ (p : Plc) (o : Bool), e = .returned (.tuple #[.agg #[.int .i64 p.area, .int .i64 p.walk, .int .i64 p.point], .bool o]) ∧ Below w.heap.size w w' := by
  cases hc : isCode c
  · have HCV : Hid (∀ W : World, Calls Tryz.prog 88 #[.string c] W fun e w' => e = .returned (.bool false) ∧ W = w') := fun W => by
      have := spec_CodeValid c W (by unfold maxLen; omega)
      rw [hc] at this; exact this
    have HB0 := Lib.hid (heap_alloc_new w (Obj.cells #[.int .i64 0, .int .i64 0, .int .i64 0] 51))
    have HL0 : Hid (Below w.heap.size w (w.alloc (Obj.cells #[.int .i64 0, .int .i64 0, .int .i64 0] 51))) := (Below.refl _ _).alloc (Nat.le_refl _) _
    clear hc
    go_enter Tryz.func140, Tryz.ntmps140
    go_wp2_with fail
    refine (HCV.out _).mono ?_
    rintro e _ ⟨rfl, rfl⟩
    go_wp2_with fail
    first
      | (refine ret_box1 rfl rfl HB0.out Tryz.underlying51 rfl Tryz.sizePlc rfl ?_; exact ⟨⟨0, 0, 0⟩, false, rfl, HL0.out⟩)
      | (refine ret_box1 rfl rfl (three_set HB0.out) Tryz.underlying51 rfl Tryz.sizePlc rfl ?_; exact ⟨⟨0, 0, 0⟩, false, rfl, later_set (later_set (later_set HL0.out (Nat.le_refl _) _) (Nat.le_refl _) _) (Nat.le_refl _) _⟩)
  · exact (spec_PlaceOf_yes c w hc).mono fun e w' h => ⟨_, _, h.1, h.2⟩

set_option maxRecDepth 100000 in
set_option maxHeartbeats 3200000 in
theorem draw_DrawPlaceValid (v : Value) (bs : List UInt8) (w : World) (hv : rd w w.heap.size v bs) :
    Calls Tryz.prog 70 #[v] w fun e w' => ∃ p : Plc, e = .returned (.agg #[.int .i64 p.area, .int .i64 p.walk, .int .i64 p.point]) ∧ Below w.heap.size w w' := by
  obtain ⟨wA, hwA⟩ : ∃ u, u = w.alloc (Obj.cells #[.int .i64 0, .int .i64 0, .int .i64 0] 51) := ⟨_, rfl⟩
  have hBA : Below w.heap.size w wA := by rw [hwA]; exact (Below.refl _ _).alloc (Nat.le_refl _) _
  have hzA : wA.heap.size = w.heap.size + 1 := by rw [hwA]; simp
  have hbA : wA.heap[w.heap.size]? = some (.cells #[.int .i64 0, .int .i64 0, .int .i64 0] 51 (0, 0)) := by rw [hwA]; exact heap_alloc_new w _
  have hvA := hv.on hBA
  have HWA := Lib.hid hwA; clear hwA
  go_enter Tryz.func70, Tryz.ntmps70
  go_wp2_with fail
  rw [← HWA.out]
  refine (rd_open _ bs _ hvA).mono ?_
  rintro e w1 ⟨g, rfl, hg, hr1, b1⟩
  have hb1 := (b1.block w.heap.size (by omega)).trans hbA
  have hB1 : Below w.heap.size w w1 := hBA.trans (b1.mono (by omega))
  have hz1 := b1.size
  clear hvA hv hBA b1 hbA
  go_wp2_with fail
  refine (rd_l1Some g 0 _ hr1 (by omega)).mono ?_
  rintro e w2 ⟨s, p2, rfl, hs, hr2, hp2, hg2⟩
  have hb2 := (hg2.block w.heap.size (by omega) (fun e => by injection e; omega)).trans hb1
  have hB2 : Below w.heap.size w w2 := hB1.trans (below_of_grown hg2 hB1.size (fun r e => by injection e; omega))
  have hz2 := hg2.size
  have hlt2 := hr2.lt
  clear hg2 hb1 hB1 hr1
  go_wp2_with fail
  refine (spec_PlaceOf_any s _ hs).mono ?_
  rintro e w3 ⟨p, ok, rfl, b3⟩
  have hb3 := (b3.block w.heap.size (by omega)).trans hb2
  have hr3 := hr2.below b3
  have hB3 : Below w.heap.size w w3 := hB2.trans (b3.mono (by omega))
  have hz3 := b3.size
  obtain ⟨pa, pw, pp⟩ := p
  obtain ⟨w4, hw4⟩ : ∃ u, u = w3.alloc (Obj.cells #[.int .i64 pa, .int .i64 pw, .int .i64 pp] 51) := ⟨_, rfl⟩
  have hq4 : w4.heap[w3.heap.size]? = some (.cells #[.int .i64 pa, .int .i64 pw, .int .i64 pp] 51 (0, 0)) := by rw [hw4]; exact heap_alloc_new w3 _
  have hb4 : w4.heap[w.heap.size]? = some (.cells #[.int .i64 0, .int .i64 0, .int .i64 0] 51 (0, 0)) := by rw [hw4]; exact (Below.heap_alloc _ _ _ (by omega)).trans hb3
  have hr4 : rdr w4 g p2 := by rw [hw4]; exact hr3.alloc _
  have hB4 : Below w.heap.size w w4 := by rw [hw4]; exact hB3.alloc hB3.size _
  have hz4 : w4.heap.size = w3.heap.size + 1 := by rw [hw4]; simp
  have HW4 := Lib.hid hw4; clear hw4
  clear hr3 hb3 hB3 hr2 hb2 hB2 b3
  go_wp2_with fail
  rw [← HW4.out]
  refine (rd_pick g p2 30 _ hr4 (by omega) (by unfold isI64; omega)).mono ?_
  rintro e w5 ⟨x, rfl, _, hr5, hg5⟩
  have hb5 := (hg5.block w.heap.size (by omega) (fun e => by injection e; omega)).trans hb4
  have hq5 := (hg5.block w3.heap.size (by omega) (fun e => by injection e; omega)).trans hq4
  have hB5 : Below w.heap.size w w5 := hB4.trans (below_of_grown hg5 hB4.size (fun r e => by injection e; omega))
  have hz5 := hg5.size
  have hlt5 := hr5.lt
  clear hg5 hb4 hB4 hr4 hq4
  have hne : w3.heap.size ≠ w.heap.size := by omega
  by_cases h0 : x = 0
  · subst h0
    obtain ⟨c0, c1, c2, f0, f1, f2⟩ := threeF hq5
    go_wp2_with fail
    refine (rd_num 3 g (p2 + 1) _ [-1, 1000, 9223372036854775807] _ (hr5.alloc _) (by omega) (list_own 3 (g + 1) w5 [-1, 1000, 9223372036854775807] (by simp [isI64]) (by decide) (by omega)) (by decide)).mono ?_
    rintro e w6 ⟨y, _, rfl, _, hg6⟩
    replace hg6 : w5.grownBy w6 (some g) := grown_trans (World.grownBy_alloc w5 _ _) hg6
    have hb6 := (hg6.block w.heap.size (by omega) (fun e => by injection e; omega)).trans hb5
    have hq6 := (hg6.block w3.heap.size (by omega) (fun e => by injection e; omega)).trans hq5
    have hB6 : Below w.heap.size w w6 := hB5.trans (below_of_grown hg6 hB5.size (fun r e => by injection e; omega))
    clear c0 c1 c2 f0 f1 f2 hg6 hb5 hq5 hB5 hr5
    obtain ⟨c0, c1, c2, f0, f1, f2⟩ := threeF hq6
    obtain ⟨a0, a1, a2, e0, e1, e2⟩ := threeF hb6
    have HB7 : Hid ((w6.setCell ⟨w3.heap.size, 0, none⟩ (.int .i64 y)).heap[w.heap.size]? = some (.cells #[.int .i64 0, .int .i64 0, .int .i64 0] 51 (0, 0))) := (Below.heap_setCell _ _ _ _ (fun e => hne e.symm)).trans hb6
    have HL7 : Hid (Below w.heap.size w (w6.setCell ⟨w3.heap.size, 0, none⟩ (.int .i64 y))) := later_set hB6 (p := ⟨w3.heap.size, 0, none⟩) (by show w.heap.size ≤ w3.heap.size; omega) _
    clear hb6 hq6 hB6
    go_wp2_with fail
    refine ret_box rfl rfl (three_set HB7.out) Tryz.underlying51 rfl Tryz.sizePlc rfl ?_
    exact ⟨⟨y, pw, pp⟩, rfl, later_set (later_set (later_set HL7.out (Nat.le_refl _) _) (Nat.le_refl _) _) (Nat.le_refl _) _⟩
  by_cases h1 : x = 1
  · subst h1
    obtain ⟨c0, c1, c2, f0, f1, f2⟩ := threeF hq5
    go_wp2_with fail
    refine (rd_num 3 g (p2 + 1) _ [-1, 100] _ (hr5.alloc _) (by omega) (list_own 3 (g + 1) w5 [-1, 100] (by simp [isI64]) (by decide) (by omega)) (by decide)).mono ?_
    rintro e w6 ⟨y, _, rfl, _, hg6⟩
    replace hg6 : w5.grownBy w6 (some g) := grown_trans (World.grownBy_alloc w5 _ _) hg6
    have hb6 := (hg6.block w.heap.size (by omega) (fun e => by injection e; omega)).trans hb5
    have hq6 := (hg6.block w3.heap.size (by omega) (fun e => by injection e; omega)).trans hq5
    have hB6 : Below w.heap.size w w6 := hB5.trans (below_of_grown hg6 hB5.size (fun r e => by injection e; omega))
    clear c0 c1 c2 f0 f1 f2 hg6 hb5 hq5 hB5 hr5
    obtain ⟨c0, c1, c2, f0, f1, f2⟩ := threeF hq6
    obtain ⟨a0, a1, a2, e0, e1, e2⟩ := threeF hb6
    have HB7 : Hid ((w6.setCell ⟨w3.heap.size, 1, none⟩ (.int .i64 y)).heap[w.heap.size]? = some (.cells #[.int .i64 0, .int .i64 0, .int .i64 0] 51 (0, 0))) := (Below.heap_setCell _ _ _ _ (fun e => hne e.symm)).trans hb6
    have HL7 : Hid (Below w.heap.size w (w6.setCell ⟨w3.heap.size, 1, none⟩ (.int .i64 y))) := later_set hB6 (p := ⟨w3.heap.size, 1, none⟩) (by show w.heap.size ≤ w3.heap.size; omega) _
    clear hb6 hq6 hB6
    go_wp2_with fail
    refine ret_box rfl rfl (three_set HB7.out) Tryz.underlying51 rfl Tryz.sizePlc rfl ?_
    exact ⟨⟨pa, y, pp⟩, rfl, later_set (later_set (later_set HL7.out (Nat.le_refl _) _) (Nat.le_refl _) _) (Nat.le_refl _) _⟩
  by_cases h2 : x = 2
  · subst h2
    obtain ⟨c0, c1, c2, f0, f1, f2⟩ := threeF hq5
    go_wp2_with fail
    refine (rd_num 3 g (p2 + 1) _ [-1, 100, -9223372036854775808] _ (hr5.alloc _) (by omega) (list_own 3 (g + 1) w5 [-1, 100, -9223372036854775808] (by simp [isI64]) (by decide) (by omega)) (by decide)).mono ?_
    rintro e w6 ⟨y, _, rfl, _, hg6⟩
    replace hg6 : w5.grownBy w6 (some g) := grown_trans (World.grownBy_alloc w5 _ _) hg6
    have hb6 := (hg6.block w.heap.size (by omega) (fun e => by injection e; omega)).trans hb5
    have hq6 := (hg6.block w3.heap.size (by omega) (fun e => by injection e; omega)).trans hq5
    have hB6 : Below w.heap.size w w6 := hB5.trans (below_of_grown hg6 hB5.size (fun r e => by injection e; omega))
    clear c0 c1 c2 f0 f1 f2 hg6 hb5 hq5 hB5 hr5
    obtain ⟨c0, c1, c2, f0, f1, f2⟩ := threeF hq6
    obtain ⟨a0, a1, a2, e0, e1, e2⟩ := threeF hb6
    have HB7 : Hid ((w6.setCell ⟨w3.heap.size, 2, none⟩ (.int .i64 y)).heap[w.heap.size]? = some (.cells #[.int .i64 0, .int .i64 0, .int .i64 0] 51 (0, 0))) := (Below.heap_setCell _ _ _ _ (fun e => hne e.symm)).trans hb6
    have HL7 : Hid (Below w.heap.size w (w6.setCell ⟨w3.heap.size, 2, none⟩ (.int .i64 y))) := later_set hB6 (p := ⟨w3.heap.size, 2, none⟩) (by show w.heap.size ≤ w3.heap.size; omega) _
    clear hb6 hq6 hB6
    go_wp2_with fail
    refine ret_box rfl rfl (three_set HB7.out) Tryz.underlying51 rfl Tryz.sizePlc rfl ?_
    exact ⟨⟨pa, pw, y⟩, rfl, later_set (later_set (later_set HL7.out (Nat.le_refl _) _) (Nat.le_refl _) _) (Nat.le_refl _) _⟩
  obtain ⟨c0, c1, c2, f0, f1, f2⟩ := threeF hq5
  obtain ⟨a0, a1, a2, e0, e1, e2⟩ := threeF hb5
  have x0 : (x == 0) = false := beq_eq_false_iff_ne.2 h0
  have x1 : (x == 1) = false := beq_eq_false_iff_ne.2 h1
  have x2 : (x == 2) = false := beq_eq_false_iff_ne.2 h2
  have HB5 := Lib.hid hb5; have HL5 := Lib.hid hB5
  clear hb5 hq5 hB5 h0 h1 h2
  go_wp2_with fail
  refine ret_box rfl rfl (three_set HB5.out) Tryz.underlying51 rfl Tryz.sizePlc rfl ?_
  exact ⟨⟨pa, pw, pp⟩, rfl, later_set (later_set (later_set HL5.out (Nat.le_refl _) _) (Nat.le_refl _) _) (Nat.le_refl _) _⟩

set_option maxRecDepth 100000 in
theorem draw_DrawCodeOf (v : Value) (bs : List UInt8) (w : World) (hv : rd w w.heap.size v bs) :
    Calls Tryz.prog 21 #[v] w fun e w' => ∃ p : Plc, e = .returned (.agg #[.int .i64 p.area, .int .i64 p.walk, .int .i64 p.point]) ∧ Below w.heap.size w w' := by
  obtain ⟨wA, hwA⟩ : ∃ u, u = w.alloc (Obj.cells #[.int .i64 0, .int .i64 0, .int .i64 0] 51) := ⟨_, rfl⟩
  have hBA : Below w.heap.size w wA := by rw [hwA]; exact (Below.refl _ _).alloc (Nat.le_refl _) _
  have hzA : wA.heap.size = w.heap.size + 1 := by rw [hwA]; simp
  have hbA : wA.heap[w.heap.size]? = some (.cells #[.int .i64 0, .int .i64 0, .int .i64 0] 51 (0, 0)) := by rw [hwA]; exact heap_alloc_new w _
  have HD := Lib.hid (draw_DrawPlaceValid v bs wA (hv.on hBA))
  have HWA := Lib.hid hwA; clear hwA hv
  go_enter Tryz.func21, Tryz.ntmps21
  go_wp2_with fail
  rw [← HWA.out]
  refine HD.out.mono ?_
  rintro e w1 ⟨p, rfl, b1⟩
  have hb1 := (b1.block w.heap.size (by omega)).trans hbA
  have hB1 : Below w.heap.size w w1 := hBA.trans (b1.mono (by omega))
  obtain ⟨a0, a1, a2, e0, e1, e2⟩ := threeF hb1
  have HB1 := Lib.hid hb1; have HL1 := Lib.hid hB1
  clear hb1 hB1 hbA hBA b1
  go_wp2_with fail
  refine ret_box rfl rfl (three_set HB1.out) Tryz.underlying51 rfl Tryz.sizePlc rfl ?_
  exact ⟨p, rfl, later_set (later_set (later_set HL1.out (Nat.le_refl _) _) (Nat.le_refl _) _) (Nat.le_refl _) _⟩

theorem bytesRow_sz (s : ByteArray) (c : Nat) : s.size ≤ (bytesRow s c).size := by
  unfold bytesRow
  rw [Array.size_append, Array.size_map]
  exact Nat.le_add_right _ _
set_option maxRecDepth 100000 in
set_option maxHeartbeats 800000 in
theorem so_put (s : ByteArray) (k : Nat) (b : UInt8) (w : World) (hk : k < s.size) :
    Calls Tryz.prog 25 #[.string s, .int .i64 (k : Int), .int .u8 (b.toNat : Int)] w fun e w' => e = .returned (.string (putB s k b)) ∧ Below w.heap.size w w' := by
  have hcv := run_bytes_of_string (P := Tryz.prog) w 9 22 5 s Tryz.underlying9 Tryz.underlying22 Tryz.underlying5
  generalize grownCap w s.size 0 5 = cp at hcv
  obtain ⟨wz, hwz⟩ : ∃ u, u = w.drew.alloc (.cells (bytesRow s cp) 5 ((bytesRow s cp).size, (bytesRow s cp).size + 1)) := ⟨_, rfl⟩
  rw [← hwz] at hcv
  have hg : wz.heap[w.heap.size]? = some (.cells (bytesRow s cp) 5 ((bytesRow s cp).size, (bytesRow s cp).size + 1)) := by
    rw [hwz]; exact heap_alloc_new w.drew _
  have lz : Below w.heap.size w wz := by rw [hwz]; exact (Below.refl _ _).drew.alloc (Nat.le_refl _) _
  clear hwz
  have hsz := bytesRow_sz s cp
  have hcell : ∀ j (hj : j < s.data.size), wz.cell? ⟨w.heap.size, j, none⟩ = some (.int .u8 (s.data[j].toNat : Int)) := fun j hj => by
    rw [cell_of_row _ _ _ _ _ _ hg]; exact bytesRow_at s cp j hj
  have hc := hcell k hk
  have hf : wz.frozen? ⟨w.heap.size, k, none⟩ = false := by
    simp [World.frozen?, hg]; omega
  have hbk : (convert 22 9 (.slice (some ⟨w.heap.size, 0, none⟩) s.size cp)).run Tryz.prog (wz.setCell ⟨w.heap.size, k, none⟩ (.int .u8 (b.toNat : Int))) = .ok (.string (putB s k b)) (wz.setCell ⟨w.heap.size, k, none⟩ (.int .u8 (b.toNat : Int))) := by
    have hl : (s.data.toList.set k b).length = s.size := by rw [List.length_set]; simp
    have h1 := run_convert_bytes_back (P := Tryz.prog) (wz.setCell ⟨w.heap.size, k, none⟩ (.int .u8 (b.toNat : Int))) 22 9 5 ⟨w.heap.size, 0, none⟩ cp (s.data.toList.set k b) Tryz.underlying22 Tryz.underlying5 Tryz.underlying9 (fun j hj => by
      rw [hl] at hj
      rw [add_lit]
      simp only [Nat.zero_add]
      by_cases hjk : j = k
      · subst hjk
        rw [List.getElem_set_self]
        exact World.cell?_setCell_same _ _ _ hc
      · rw [List.getElem_set_ne (fun e => hjk e.symm)]
        exact (World.cell?_setCell_other _ _ _ _ (fun e => by injection e with _ e _; omega)).trans (hcell j hj))
    rw [hl] at h1
    exact h1
  have HLZ := Lib.hid lz
  have hki : (k : Int) < (s.size : Int) := by omega
  clear hg lz hcell
  generalize s.data[k]'hk = old at *
  go_enter Tryz.func25, Tryz.ntmps25
  go_wp2_with fail
  go_ret
  exact ⟨rfl, later_set HLZ.out (p := ⟨w.heap.size, k, none⟩) (Nat.le_refl _) _⟩

end Go.Proofs.YtpinkbodbedajaaGreatDoor

namespace Go.Proofs.YtpinkbodbedajaaGreatDoor
open Go.RowKit Go.ChangeShapes Go.WideShapes

theorem cells_of_texts {H : Type} {enc : TypeId × Value → H} {P : Program} {w : World} {base : Nat} {sp : Nat → Bool} {held : Bool} {fuel : Nat} {t e : TypeId} {n : Nat} {cs : List Value} {zs : List ByteArray} {p : List MemPlace}
    (ht : P.underlying t = some (.array n e)) (he : P.underlying e = some .string) (hce : P.cellsOf e = 1) (hct : P.cellsOf t = n)
    (h : DataW.trod enc P w base sp held fuel t cs = some (.agg (zs.map fun z => .lit (.string z.data.toList)), p)) : cs = zs.map Value.string := by
  cases fuel with
  | zero => simp [DataW.trod] at h
  | succ fuel =>
    simp only [DataW.trod, ht, hce, hct, Nat.mul_one] at h
    split at h
    · rename_i hl
      obtain ⟨xs, hm, hx⟩ := Option.map_eq_some_iff.1 h
      have hxs : xs.map (·.1) = zs.map fun z => (DataW.lit (.string z.data.toList) : DataW H) := by
        have := congrArg Prod.fst hx
        simpa using this
      have hxl : xs.length = n := by simpa using Lib.mapM_length hm
      have hzl : zs.length = n := by
        have := congrArg List.length hxs
        simp at this
        omega
      apply List.ext_getElem?
      intro i
      by_cases hi : i < n
      · obtain ⟨b, hb, hf⟩ := Lib.mapM_at hm i i (by simp [hi])
        obtain ⟨z, hc, rfl, _⟩ := DataW.trod_string he hf
        have h1 : cs[i]? = some (.string z) := by
          have := congrArg (·[0]?) hc
          simpa [List.getElem?_take, List.getElem?_drop] using this
        have h2 : (xs.map (·.1))[i]? = some (DataW.lit (.string z.data.toList) : DataW H) := by simp [hb]
        rw [hxs] at h2
        simp only [List.getElem?_map, Option.map_eq_some_iff, DataW.lit.injEq, Lit.string.injEq] at h2
        obtain ⟨z', hz', hzz⟩ := h2
        rw [h1, List.getElem?_map, hz', Option.map_some, ba_ext hzz]
      · rw [List.getElem?_eq_none (by omega), List.getElem?_eq_none (by simp; omega)]
    · cases h
theorem texts_of_head {P : Program} {W : World} {name : String} {zs : List ByteArray} {rest : List (String × DataW Unit)} {g : Nat} {t e : TypeId} {n : Nat}
    (hg : P.globalNamed name = some g) (hty : (P.globals[g]?).map (·.type) = some t) (ht : P.underlying t = some (.array n e)) (he : P.underlying e = some .string) (hce : P.cellsOf e = 1) (hct : P.cellsOf t = n)
    (h : laidMet P ((name, .agg (zs.map fun z => .lit (.string z.data.toList))) :: rest) W) : W.var? P name = some (zs.map Value.string).toArray := by
  obtain ⟨ps, ⟨g', t', cs, fuel, p, q, hg', ht', hvar, hd, _, _⟩, _⟩ := h
  obtain rfl := Option.some.inj (hg.symm.trans hg')
  obtain rfl := Option.some.inj (hty.symm.trans ht')
  rw [hvar, ← cells_of_texts ht he hce hct hd]

end Go.Proofs.YtpinkbodbedajaaGreatDoor
