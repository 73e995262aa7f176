/- FnScriptCode: the walk of the law. -/
import Derived.Test.YtpinkbodbedajaaGreatDoorQ34
namespace Go.Proofs.YtpinkbodbedajaaGreatDoor
open Go.RowKit

theorem codeText_is (p : Plc) (g : Nat) : linesT (codeLs p g) = (((((((((⟨#[99, 111, 100, 101, 32]⟩ : ByteArray) ++ fmtP p) ++ ⟨#[10, 98, 97, 114, 115, 32]⟩) ++ codeP p) ++ ⟨#[10, 114, 101, 97, 100, 32]⟩) ++ barsOf (codeP p).data.toList) ++ ⟨#[10, 114, 101, 97, 100, 32]⟩) ++ smudge (barsOf (codeP p).data.toList) g) ++ ⟨#[10]⟩) := by
  refine ba_ext ?_
  unfold codeLs
  simp only [linesT_cons, linesT_nil, ba_append, lnOne, codeW, barsW, readW]
  simp
theorem codeOut_is (p : Plc) : linesT (codeAs p) = (((((((codeP p ++ ⟨#[10]⟩) ++ barsOf (codeP p).data.toList) ++ ⟨#[10]⟩) ++ codeP p) ++ ⟨#[10]⟩) ++ codeP p) ++ ⟨#[10]⟩) := by
  refine ba_ext ?_
  unfold codeAs
  simp only [linesT_cons, linesT_nil, ba_append]
  simp

set_option maxRecDepth 100000 in
set_option maxHeartbeats 6400000 in
theorem walk_FnScriptCode (w : World) (v : Value) (bs : List UInt8) (hv : rd w w.heap.size v bs) (u : Value) (ms : List UInt8) (hu : rd w w.heap.size u ms) (hX : BarsW w) :
    Calls Tryz.prog 4 #[v, u] w fun e w' => e = .returned (.bool true) ∧ Below w.heap.size w w' := by
  have hv0 := hv
  obtain ⟨A, n0, c0, rfl, hn0, hc0, hm0, _⟩ := hv
  subst hn0
  obtain ⟨A1, n1, c1, rfl, hn1, hc1, hm1, _⟩ := hu
  subst hn1
  unfold maxLen at hm0 hm1
  have HX := Lib.hid hX
  clear hX
  go_enter Tryz.func4, Tryz.ntmps4
  by_cases hsz : 1048576 < bs.length
  · go_wp2_with fail
    go_ret
    exact ⟨rfl, Below.refl _ _⟩
  by_cases hsm : 1048576 < ms.length
  · go_wp2_with fail
    go_ret
    exact ⟨rfl, Below.refl _ _⟩
  go_wp2_with fail
  refine (draw_DrawCodeOf _ bs w hv0).mono ?_
  rintro e w1 ⟨p, rfl, b1⟩
  obtain ⟨w2, hw2⟩ : ∃ u, u = w1.alloc (Obj.cells #[.int .i64 p.area, .int .i64 p.walk, .int .i64 p.point] 51) := ⟨_, rfl⟩
  have hb2 : w2.heap[w1.heap.size]? = some (.cells #[.int .i64 p.area, .int .i64 p.walk, .int .i64 p.point] 51 (0, 0)) := by rw [hw2]; exact heap_alloc_new w1 _
  have hl2 : Below w.heap.size w w2 := by rw [hw2]; exact b1.alloc b1.size _
  have HW2 := Lib.hid hw2; clear hw2 b1 hv0 hsz
  obtain ⟨q0, q1, q2, _, _, _⟩ := threeF hb2
  have HB2 := Lib.hid hb2; have HL2 := Lib.hid hl2
  clear hb2 hl2
  go_wp2_with fail
  rw [← HW2.out]
  cases hp : plcOk p
  · refine (impl_CodeOf_no p _ hp).mono ?_
    rintro e w3 ⟨rfl, b3⟩
    have hb3 := blk_below HB2.out b3
    obtain ⟨r0, r1, r2, _, _, _⟩ := threeF hb3
    have HL3 := Lib.hid (later_trans HL2.out b3)
    clear q0 q1 q2 b3
    go_wp2_with fail
    refine (spec_CodeOf_no p _ hp).mono ?_
    rintro e w4 ⟨rfl, b4⟩
    have HL4 := Lib.hid (later_trans HL3.out b4)
    clear b4 hb3
    go_wp2_with fail
    go_ret
    exact ⟨rfl, HL4.out⟩
  have HP := Lib.hid hp
  clear hp
  refine (impl_CodeOf_yes p _ HP.out).mono ?_
  rintro e w3 ⟨rfl, b3⟩
  have hb3 := blk_below HB2.out b3
  obtain ⟨r0, r1, r2, _, _, _⟩ := threeF hb3
  have HB3 := Lib.hid hb3
  have HL3 := Lib.hid (later_trans HL2.out b3)
  clear q0 q1 q2 b3 hb3
  have hcc := codeP_code p
  have hz := codeP_size p
  have hf := fmtP_size p
  obtain ⟨hd, hl⟩ := codeAll (p := p)
  have hB := bars_code hl hd
  have hg : ms.length % 8 < 8 := Nat.mod_lt _ (by decide)
  have hbz := hB.size
  have hsz := (bars_smudge hB hg).size
  have HCS := Lib.hid (fun W => spec_CodeOf_yes p W HP.out)
  have HFP := Lib.hid (fun W => impl_FormatPlace_yes p W HP.out)
  have HBO := Lib.hid (fun W h => impl_BarsOf_yes (codeP p) W hcc (HX.out.on h))
  have HRUN := Lib.hid (fun W h => run_code HP.out hg W (HX.out.on h))
  rw [codeText_is, codeOut_is] at HRUN
  obtain ⟨g, hgg⟩ : ∃ g, ms.length % 8 = g := ⟨_, rfl⟩
  obtain ⟨c, hce⟩ : ∃ c, codeP p = c := ⟨_, rfl⟩
  rw [hce] at hcc hz hbz hsz HCS HBO HRUN
  rw [hgg] at hg hsz HRUN
  obtain ⟨b, hbe⟩ : ∃ b, barsOf c.data.toList = b := ⟨_, rfl⟩
  rw [hbe] at hbz hsz HBO HRUN
  obtain ⟨F, hfe⟩ : ∃ F, fmtP p = F := ⟨_, rfl⟩
  rw [hfe] at hf HFP HRUN
  obtain ⟨x1, hx1⟩ : ∃ x, putB b (1 + 5 * g) 63 = x := ⟨_, rfl⟩
  obtain ⟨x2, hx2⟩ : ∃ x, smudge b g = x := ⟨_, rfl⟩
  have hx1z := putB_size b (1 + 5 * g) 63
  rw [hx1] at hx1z
  have HQ1 : Hid (∀ W : World, Calls Tryz.prog 25 #[.string b, .int .i64 ((1 + 5 * g : Nat) : Int), .int .u8 63] W fun e w' => e = .returned (.string x1) ∧ Below W.heap.size W w') := fun W => by
    have := so_put b (1 + 5 * g) 63 W (by omega)
    rw [hx1] at this; exact this
  have HQ2 : Hid (∀ W : World, Calls Tryz.prog 25 #[.string x1, .int .i64 ((1 + 5 * g + 1 : Nat) : Int), .int .u8 63] W fun e w' => e = .returned (.string x2) ∧ Below W.heap.size W w') := fun W => by
    have := so_put x1 (1 + 5 * g + 1) 63 W (by omega)
    rw [← hx1] at this
    rw [← hx1, ← hx2]; exact this
  rw [hx2] at hsz HRUN
  have hgi : (ms.length : Int) % 8 = (g : Int) := by omega
  clear hx1 hx2 hgg hB hd hl hbe hfe
  have HCE := Lib.hid hce; clear hce
  have HCC := Lib.hid hcc; clear hcc
  obtain ⟨k, hk⟩ : ∃ k : Nat, k = 1 + 5 * g := ⟨_, rfl⟩
  rw [← hk] at HQ1 HQ2
  have m1 : IntKind.i64.wrap (5 * (g : Int)) = 5 * (g : Int) := IntWalk.i64_in _ (by omega)
  have m2 : IntKind.i64.wrap (1 + 5 * (g : Int)) = (k : Int) := by rw [IntWalk.i64_in _ (by omega)]; omega
  have m3 : IntKind.i64.wrap ((k : Int) + 1) = ((k + 1 : Nat) : Int) := by rw [IntWalk.i64_in _ (by omega)]; omega
  clear hk
  rw [HCE.out]
  go_wp2_with fail
  refine (HCS.out _).mono ?_
  rintro e w4 ⟨rfl, b4⟩
  have hb4 := blk_below HB3.out b4
  have HB4 := Lib.hid hb4
  have HL4 := Lib.hid (later_trans HL3.out b4)
  clear b4 hb4 r0 r1 r2
  have ceq : (c.toList == c.toList) = true := by simp
  go_wp2_with fail
  refine (HBO.out _ HL4.out).mono ?_
  rintro e w5 ⟨rfl, rfl⟩
  go_wp2_with fail
  refine (HQ1.out _).mono ?_
  rintro e w6 ⟨rfl, b6⟩
  have HL6 := Lib.hid (later_trans HL4.out b6)
  have HB6 := Lib.hid (blk_below HB4.out b6)
  clear b6
  go_wp2_with fail
  refine (HQ2.out _).mono ?_
  rintro e w7 ⟨rfl, b7⟩
  have HL7 := Lib.hid (later_trans HL6.out b7)
  have hb7 := blk_below HB6.out b7
  obtain ⟨r0, r1, r2, _, _, _⟩ := threeF hb7
  clear b7 hb7
  have a1 : ¬ 9223372036854775807 < 5 + F.size := by omega
  have a2 : ¬ 9223372036854775807 < 5 + F.size + 6 := by omega
  have a3 : ¬ 9223372036854775807 < 5 + F.size + 6 + c.size := by omega
  have a4 : ¬ 9223372036854775807 < 5 + F.size + 6 + c.size + 6 := by omega
  have a5 : ¬ 9223372036854775807 < 5 + F.size + 6 + c.size + 6 + b.size := by omega
  have a6 : ¬ 9223372036854775807 < 5 + F.size + 6 + c.size + 6 + b.size + 6 := by omega
  have a7 : ¬ 9223372036854775807 < 5 + F.size + 6 + c.size + 6 + b.size + 6 + x2.size := by omega
  have a8 : ¬ 9223372036854775807 < 5 + F.size + 6 + c.size + 6 + b.size + 6 + x2.size + 1 := by omega
  have b1 : ¬ 9223372036854775807 < c.size + 1 := by omega
  have b2 : ¬ 9223372036854775807 < c.size + 1 + b.size := by omega
  have b3 : ¬ 9223372036854775807 < c.size + 1 + b.size + 1 := by omega
  have b4 : ¬ 9223372036854775807 < c.size + 1 + b.size + 1 + c.size := by omega
  have b5 : ¬ 9223372036854775807 < c.size + 1 + b.size + 1 + c.size + 1 := by omega
  have b6 : ¬ 9223372036854775807 < c.size + 1 + b.size + 1 + c.size + 1 + c.size := by omega
  have b7 : ¬ 9223372036854775807 < c.size + 1 + b.size + 1 + c.size + 1 + c.size + 1 := by omega
  go_wp2_with fail
  refine (HFP.out _).mono ?_
  rintro e w8 ⟨rfl, b8⟩
  have HL8 := Lib.hid (later_trans HL7.out b8)
  clear b8 r0 r1 r2
  go_wp2_with fail
  refine (HRUN.out _ HL8.out).mono ?_
  rintro e w9 ⟨rfl, b9⟩
  have HL9 := Lib.hid (later_trans HL8.out b9)
  clear b9
  go_wp2_with fail
  go_ret
  exact ⟨rfl, HL9.out⟩

end Go.Proofs.YtpinkbodbedajaaGreatDoor
