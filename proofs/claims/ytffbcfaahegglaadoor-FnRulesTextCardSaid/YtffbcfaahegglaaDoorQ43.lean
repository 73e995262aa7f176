/- QB -/
import Derived.Test.YtffbcfaahegglaaDoorQ35
import Derived.Test.YtffbcfaahegglaaDoorQ37
import Derived.Test.YtffbcfaahegglaaDoorQ41
namespace Go.Proofs.YtffbcfaahegglaaDoor
open Go.RowKit

def abhN : List ByteArray := [⟨#[97]⟩, ⟨#[98]⟩, ⟨#[104, 101, 114, 101]⟩]
theorem abh_name : ∀ x ∈ abhN, isName x = true := by decide
theorem abh_own (B : Nat) (W : World) (hB : B ≤ W.heap.size) : own 9 B (W.alloc (Obj.cells #[.string ⟨#[97]⟩, .string ⟨#[98]⟩, .string ⟨#[104, 101, 114, 101]⟩] 9)) (.slice (some ⟨W.heap.size, 0, none⟩) 3 3) abhN :=
  list_str 9 B W ([⟨#[97]⟩, ⟨#[98]⟩, ⟨#[104, 101, 114, 101]⟩] : List ByteArray) (by intro x hx; simp at hx; rcases hx with rfl | rfl | rfl <;> decide) (by decide) hB
theorem fmtRu_pos {rs : List Fwd} (h : rulesOk rs = true) : 1 ≤ (fmtRu rs).size := by
  by_cases h0 : rs.length = 0
  · rw [fmtRu_empty h h0]; decide
  · rw [fmtRu_some h h0]
    have := preU_pos h (Nat.pos_of_ne_zero h0)
    unfold preU at this
    rwa [List.take_of_length_le (by simp)] at this

/-- Drawn rules, spoilt. -/
def drawRuPost (T : Nat) (w : World) (e : Ending) (w' : World) : Prop :=
  ∃ (v : Value) (rs : List Fwd), e = .returned v ∧ own T w.heap.size w' v rs ∧ rs.length ≤ 40 ∧ Below w.heap.size w w'

set_option maxRecDepth 100000 in
set_option maxHeartbeats 800000 in
theorem draw_DrawRulesValid (v : Value) (bs : List UInt8) (w : World) (hv : rd w w.heap.size v bs) :
    Calls Tryd.prog 42 #[v] w (drawRuPost 65 w) := by
  go_enter Tryd.func42, Tryd.ntmps42
  go_wp2_with fail
  refine (rd_open _ bs _ hv).mono ?_
  rintro e w1 ⟨g, rfl, hg, hr1, b1⟩
  have hlt := hr1.lt
  have hz1 := b1.size
  have HO := Lib.hid (abh_own (g + 1) w1 hlt)
  have hrA := hr1.alloc (Obj.cells #[.string ⟨#[97]⟩, .string ⟨#[98]⟩, .string ⟨#[104, 101, 114, 101]⟩] 9)
  have bA : Below w.heap.size w (w1.alloc (Obj.cells #[.string ⟨#[97]⟩, .string ⟨#[98]⟩, .string ⟨#[104, 101, 114, 101]⟩] 9)) := b1.alloc hz1 _
  have hzA : w1.heap.size + 1 = (w1.alloc (Obj.cells #[.string ⟨#[97]⟩, .string ⟨#[98]⟩, .string ⟨#[104, 101, 114, 101]⟩] 9)).heap.size := by simp
  go_wp2_with fail
  obtain ⟨wA, hwA⟩ : ∃ W, w1.alloc (Obj.cells #[.string ⟨#[97]⟩, .string ⟨#[98]⟩, .string ⟨#[104, 101, 114, 101]⟩] 9) = W := ⟨_, rfl⟩
  rw [hwA] at HO hrA bA hzA ⊢
  clear hwA
  refine (rd_l6Rules g 0 _ abhN wA hrA (by omega) HO.out (by decide)).mono ?_
  rintro e w2 ⟨v2, rs, p2, rfl, o2, hl2, _, hr2, hp2, hg2⟩
  have b2 : Below w.heap.size w w2 := bA.trans (below_of_grown hg2 bA.size (fun r e => by injection e; omega))
  have hzA2 := bA.size
  clear hg2 hrA bA HO
  obtain ⟨A2, m2, c2, hv2, hm2, _, _, _⟩ := o2.rd
  subst hm2 hv2
  go_wp2_with fail
  refine (rd_l6BadRules g p2 wA.heap.size _ rs _ hr2 (by omega) o2 (by omega) (by omega)).mono ?_
  rintro e w3 ⟨v3, ys, p3, rfl, o3, hl3, hr3, hp3, k3⟩
  have b3 : Below w.heap.size w w3 := b2.trans (k3.toBelow hg (by omega))
  obtain ⟨A3, m3, c3, hv3, hm3, _, _, _⟩ := o3.rd
  subst hm3 hv3
  go_wp2_with fail
  go_ret
  exact ⟨_, ys, rfl, o3.base_ (by omega), hl3, b3⟩
set_option maxHeartbeats 400000 in
theorem draw_DrawFormatRules (v : Value) (bs : List UInt8) (w : World) (hv : rd w w.heap.size v bs) :
    Calls Tryd.prog 13 #[v] w (drawRuPost 65 w) := by
  go_enter Tryd.func13, Tryd.ntmps13
  go_wp2_with fail
  refine (draw_DrawRulesValid _ bs _ hv).mono ?_
  rintro e w1 ⟨v1, rs, rfl, o1, hl1, b1⟩
  obtain ⟨A, n, c, hv1, hn, _, _, _⟩ := o1.rd
  subst hn hv1
  go_wp2_with fail
  go_ret
  exact ⟨_, rs, rfl, o1, hl1, b1⟩

/-! ### Texts -/
set_option maxRecDepth 100000 in
set_option maxHeartbeats 1600000 in
theorem draw_DrawParseRules (v : Value) (bs : List UInt8) (w : World) (hv : rd w w.heap.size v bs) :
    Calls Tryd.prog 19 #[v] w fun e w' => ∃ t : ByteArray, e = .returned (.string t) ∧ t.size ≤ 1000 ∧ Below w.heap.size w w' := by
  go_enter Tryd.func19, Tryd.ntmps19
  go_wp2_with fail
  refine (rd_open _ bs _ hv).mono ?_
  rintro e w1 ⟨g, rfl, hg, hr1, b1⟩
  have hlt := hr1.lt
  have hz1 := b1.size
  have HO := Lib.hid (abh_own (g + 1) w1 hlt)
  have hrA := hr1.alloc (Obj.cells #[.string ⟨#[97]⟩, .string ⟨#[98]⟩, .string ⟨#[104, 101, 114, 101]⟩] 9)
  have bA : Below w.heap.size w (w1.alloc (Obj.cells #[.string ⟨#[97]⟩, .string ⟨#[98]⟩, .string ⟨#[104, 101, 114, 101]⟩] 9)) := b1.alloc hz1 _
  have hzA : w1.heap.size + 1 = (w1.alloc (Obj.cells #[.string ⟨#[97]⟩, .string ⟨#[98]⟩, .string ⟨#[104, 101, 114, 101]⟩] 9)).heap.size := by simp
  go_wp2_with fail
  obtain ⟨wA, hwA⟩ : ∃ W, w1.alloc (Obj.cells #[.string ⟨#[97]⟩, .string ⟨#[98]⟩, .string ⟨#[104, 101, 114, 101]⟩] 9) = W := ⟨_, rfl⟩
  rw [hwA] at HO hrA bA hzA ⊢
  clear hwA
  refine (rd_l6Rules g 0 _ abhN wA hrA (by omega) HO.out (by decide)).mono ?_
  rintro e w2 ⟨v2, rs, p2, rfl, o2, hl2, hd2, hr2, hp2, hg2⟩
  have b2 : Below w.heap.size w w2 := bA.trans (below_of_grown hg2 bA.size (fun r e => by injection e; omega))
  have hF1 := fmtRu_pos (hd2.ok (by omega) abh_name)
  have hF2 := fmtRu_size rs
  clear hg2 hrA bA HO hd2
  obtain ⟨A2, m2, c2, hv2, hm2, _, _, _⟩ := o2.rd
  subst hm2 hv2
  go_wp2_with fail
  refine (spec_FormatRules _ rs _ o2.rd).mono ?_
  rintro e w3 ⟨rfl, l3⟩
  have hr3 := hr2.below l3
  have b3 : Below w.heap.size w w3 := b2.trans (l3.mono b2.size)
  generalize fmtRu rs = F at *
  clear l3 hr2 b2 o2
  go_wp2_with fail
  refine (rd_pick g p2 2 _ hr3 (by omega) (by unfold isI64; omega)).mono ?_
  rintro e w4 ⟨y, rfl, hy, hr4, hg4⟩
  have b4 : Below w.heap.size w w4 := b3.trans (below_of_grown hg4 b3.size (fun r e => by injection e; omega))
  clear hy hg4 hr3 b3
  by_cases hy0 : y = 0
  · have hyb : (y == 0) = true := by simp [hy0]
    clear hy0
    go_wp2_with fail
    go_ret
    exact ⟨F, rfl, by omega, b4⟩
  have hyb : (y == 0) = false := by simp [hy0]
  clear hy0
  go_wp2_with fail
  refine (rd_pick g (p2 + 1) F.size _ hr4 (by omega) (by unfold isI64; omega)).mono ?_
  rintro e w5 ⟨z, rfl, hz, hr5, hg5⟩
  obtain ⟨z0, z1⟩ := hz.2 (by omega)
  obtain ⟨k, rfl⟩ := Int.eq_ofNat_of_zero_le z0
  have b5 : Below w.heap.size w w5 := b4.trans (below_of_grown hg5 b4.size (fun r e => by injection e; omega))
  have HB5 := Lib.hid b5
  have HR5 := Lib.hid hr5
  have hkF : k < F.size := by omega
  clear hz hg5 hr4 b4 b5
  have hkF1 : (k : Int) ≤ (F.size : Int) := by omega
  have hk0 : (0 : Int) ≤ (k : Int) := by omega
  go_wp2_with fail
  have hlt5 := HR5.out.lt
  have HSA : Hid (∀ (x : ByteArray), x.size ≤ 1 → ∀ W, (Op.stringOp .add (F.extract 0 k) x).run Tryd.prog W = .ok (.string (F.extract 0 k ++ x)) W) := fun x hx W => run_string_add (w := W) _ _ (by rw [ByteArray.size_extract]; omega) (by omega)
  have HSB : Hid (∀ (x : ByteArray) (n : Nat), x.size ≤ 1 → ∀ W, (Op.stringOp .add (F.extract 0 k ++ x) (F.extract n F.size)).run Tryd.prog W = .ok (.string (F.extract 0 k ++ x ++ F.extract n F.size)) W) := fun x n hx W => run_string_add (w := W) _ _ (by rw [ByteArray.size_append, ByteArray.size_extract]; omega) (by rw [ByteArray.size_extract]; omega)
  have K0 : Hid (kept2 g w5.heap.size w5 w5.drew) := ⟨rfl, rfl, rfl, Nat.le_refl _, fun _ _ _ => rfl⟩
  have K1 : Hid (∀ o : Obj, kept2 g w5.heap.size w5 (w5.alloc o).drew) := fun o => by
    have h := (kept2.refl g w5.heap.size w5).allocO o
    exact ⟨h.os, h.tape, h.output, h.size, h.block⟩
  have K2 : Hid (∀ o : Obj, kept2 g w5.heap.size w5 (w5.drew.alloc o)) := fun o => by
    have h := (kept2.refl g w5.heap.size w5).allocO o
    exact ⟨h.os, h.tape, h.output, h.size, h.block⟩
  have R1 : Hid (∀ o : Obj, rdr (w5.alloc o).drew g (p2 + 1 + 1)) := fun o => (HR5.out.alloc o).below ((Below.refl _ _).drew)
  have O1 : Hid (own 9 (g + 1) (w5.alloc (Obj.cells #[Value.string ⟨#[]⟩, Value.string ⟨#[48]⟩, Value.string ⟨#[32]⟩, Value.string ⟨#[62]⟩, Value.string ⟨#[45]⟩, Value.string ⟨#[97]⟩] 9)).drew (.slice (some ⟨w5.heap.size, 0, none⟩) 6 6) ([⟨#[]⟩, ⟨#[48]⟩, ⟨#[32]⟩, ⟨#[62]⟩, ⟨#[45]⟩, ⟨#[97]⟩] : List ByteArray)) := (list_str 9 (g + 1) w5 ([⟨#[]⟩, ⟨#[48]⟩, ⟨#[32]⟩, ⟨#[62]⟩, ⟨#[45]⟩, ⟨#[97]⟩] : List ByteArray) (by intro x hx; simp at hx; rcases hx with rfl | rfl | rfl | rfl | rfl | rfl <;> decide) (by decide) hlt5).drew
  have HP1 : Hid (∀ W v, rdr W g (p2 + 1 + 1) → kept2 g w5.heap.size w5 W → own 9 (g + 1) W v ([⟨#[]⟩, ⟨#[48]⟩, ⟨#[32]⟩, ⟨#[62]⟩, ⟨#[45]⟩, ⟨#[97]⟩] : List ByteArray) → Calls Tryd.prog 53 #[.pointer (some ⟨g, 0, none⟩), v] W fun e W' => ∃ x : ByteArray, e = .returned (.string x) ∧ x.size ≤ 1 ∧ rdr W' g ((p2 + 1 + 1) + 1) ∧ kept2 g w5.heap.size w5 W') := fun W v hr hk hv => by
    refine (rd_of 9 g _ v ([⟨#[]⟩, ⟨#[48]⟩, ⟨#[32]⟩, ⟨#[62]⟩, ⟨#[45]⟩, ⟨#[97]⟩] : List ByteArray) W hr (by omega) hv (by decide)).mono ?_
    rintro e w6 ⟨x, hx, rfl, _, hr6, hg6⟩
    exact ⟨x, rfl, by simp at hx; rcases hx with rfl | rfl | rfl | rfl | rfl | rfl <;> decide, hr6, hk.step hg6 (Nat.le_refl _)⟩
  have HP2 : Hid (∀ W, rdr W g ((p2 + 1 + 1) + 1) → kept2 g w5.heap.size w5 W → Calls Tryd.prog 52 #[.pointer (some ⟨g, 0, none⟩), .int .i64 2] W fun e W' => ∃ m : Nat, e = .returned (.int .i64 (m : Int)) ∧ m ≤ 1 ∧ kept2 g w5.heap.size w5 W') := fun W hr hk => by
    refine (rd_pick g _ 2 _ hr (by omega) (by unfold isI64; omega)).mono ?_
    rintro e w6 ⟨z, rfl, hz, hr6, hg6⟩
    obtain ⟨z0, z1⟩ := hz.2 (by omega)
    obtain ⟨m, rfl⟩ := Int.eq_ofNat_of_zero_le z0
    exact ⟨m, rfl, by omega, hk.step hg6 (Nat.le_refl _)⟩
  go_region_held3 (fun W => kept2 g w5.heap.size w5 W) (first | exact K0.out | exact K1.out _ | exact K2.out _ | exact k6 | exact k7 | fail) (first | (go_at_call 53; (with_reducible refine (HP1.out _ _ (R1.out _) (K1.out _) O1.out).mono ?_); rintro e w6 ⟨x, rfl, hx1, hr6, k6⟩; have hsa := HSA.out x hx1) | (go_at_call 52; (with_reducible refine (HP2.out _ hr6 k6).mono ?_); rintro e w7 ⟨m, rfl, hm1, k7⟩; obtain ⟨n, hn⟩ : ∃ n : Nat, n = k + m := ⟨_, rfl⟩; have hkm : IntKind.i64.wrap ((k : Int) + (m : Int)) = (n : Int) := (by rw [IntWalk.i64_in _ (by omega)]; omega); have hkm1 : (n : Int) ≤ (F.size : Int) := (by omega); have hkm0 : (0 : Int) ≤ (n : Int) := (by omega); have hsb := HSB.out x n hx1; have HN := Lib.hid hn; clear hn) | fail)
  all_goals
    have b7 : Below w.heap.size w w7 := HB5.out.trans (k7.toBelow hg HB5.out.size)
    have HB7 := Lib.hid b7
    clear b7 k7 k6 hr6
    have HZ : Hid ((F.extract 0 k ++ x ++ F.extract n F.size).size ≤ 1000) := by
      show _ ≤ _
      rw [ByteArray.size_append, ByteArray.size_append, ByteArray.size_extract, ByteArray.size_extract]
      omega
    go_wp2_with fail
    go_ret
    exact ⟨_, rfl, HZ.out, HB7.out⟩

end Go.Proofs.YtffbcfaahegglaaDoor
