/- What the laws do with a Missort and a list of them: a copy, a comparison. -/
import Derived.Test.YtiaepapdofcnjaaL1
import Derived.Test.YtiaepapdofcnjaaW1
import Derived.StillTailTactics
import Derived.Handy
namespace Go.Proofs.Ytiaepapdofcnjaa
open Go.RowKit

theorem laws_toMissort (x : Mis) (w : World) :
    Calls Try.prog 81 #[.agg #[.int .i64 x.id, .int .i64 x.bin]] w fun e w' => e = .returned (.agg #[.int .i64 x.id, .int .i64 x.bin]) ∧ Below w.heap.size w w' := by
  go_enter Try.func81, Try.ntmps81
  go_wp2
  refine bodyPost_ret (v := .agg #[.int .i64 x.id, .int .i64 x.bin]) (by simp [results, Try.results81, go_sem]) rfl ⟨rfl, ?_⟩
  go_grown

def misEq (x y : Mis) : Bool := (x.id == y.id) && (x.bin == y.bin)
theorem misEq_iff (x y : Mis) : misEq x y = true ↔ x = y := by
  cases x; cases y; simp [misEq, sEq_iff]
theorem laws_eqMissort (x y : Mis) (w : World) :
    Calls Try.prog 84 #[.agg #[.int .i64 x.id, .int .i64 x.bin], .agg #[.int .i64 y.id, .int .i64 y.bin]] w fun e w' => e = .returned (.bool (misEq x y)) ∧ Below w.heap.size w w' := by
  have hB : Below w.heap.size w ((w.alloc (Obj.cells #[.int .i64 x.id, .int .i64 x.bin] 97)).alloc (Obj.cells #[.int .i64 y.id, .int .i64 y.bin] 97)) := ((Below.refl _ _).alloc (Nat.le_refl _) _).alloc (by simp) _
  by_cases h0 : x.id = y.id
  · have g0 : (x.id != y.id) = false := by simp [h0]
    have i0 : Hid ((x.id == y.id) = true) := by show _ = _; simp [h0]
    clear h0
    by_cases h1 : x.bin = y.bin
    · have g1 : (x.bin != y.bin) = false := by simp [h1]
      have i1 : Hid ((x.bin == y.bin) = true) := by show _ = _; simp [h1]
      clear h1
      go_enter Try.func84, Try.ntmps84
      go_wp2
      go_ret
      exact ⟨ret_bool (by simp [misEq, i0.out, i1.out]), hB⟩
    · have g1 : (x.bin != y.bin) = true := by simp [h1]
      have i1 : Hid ((x.bin == y.bin) = false) := by show _ = _; simp [h1]
      clear h1
      go_enter Try.func84, Try.ntmps84
      go_wp2
      go_ret
      exact ⟨ret_bool (by simp [misEq, i0.out, i1.out]), hB⟩
  · have g0 : (x.id != y.id) = true := by simp [h0]
    have i0 : Hid ((x.id == y.id) = false) := by show _ = _; simp [h0]
    clear h0
    go_enter Try.func84, Try.ntmps84
    go_wp2
    go_ret
    exact ⟨ret_bool (by simp [misEq, i0.out]), hB⟩

theorem Try.infoMis : (Try.prog.info? 97).map (fun i => (i.zero, i.size, i.bytes)) = some (some (.agg #[.int .i64 0, .int .i64 0]), 2, 16) := by kernel_rfl

set_option maxHeartbeats 400000 in
theorem laws_toMissortS (v : Value) (xs : List Mis) (w : World) (hv : rd w w.heap.size v xs) (hl : xs.length ≤ 1048576) :
    Calls Try.prog 31 #[v] w fun e w' => ∃ v', e = .returned v' ∧ own 97 w.heap.size w' v' xs ∧ Below w.heap.size w w' := by
  obtain ⟨A, n, c, rfl, hn, hc, hm, hr⟩ := hv
  subst hn
  unfold maxLen at hm
  have HR := Lib.hid hr; clear hr
  obtain ⟨i0, hi, hz0, hz1, hz2⟩ := info_parts Try.infoMis
  have hmk := make_row (P := Try.prog) 48 97 i0 _ Try.underlying48 hi hz0 xs.length (by rw [hz2]; omega) (by omega)
  go_enter Try.func31, Try.ntmps31
  go_wp2
  have hf0 : filled 97 (w.alloc (Obj.cells (madeCells #[.int .i64 0, .int .i64 0] (xs.length * 2)) 97)) w.heap.size xs.length 0 xs := filled.made w _ _ _ (by rw [size_madeCells]; rfl) xs
  have hb0 : Below w.heap.size w (w.alloc (Obj.cells (madeCells #[.int .i64 0, .int .i64 0] (xs.length * 2)) 97)) := (Below.refl _ _).alloc (Nat.le_refl _) _
  generalize w.alloc (Obj.cells (madeCells #[.int .i64 0, .int .i64 0] (xs.length * 2)) 97) = w0 at *
  clear hmk
  go_loopw [4] (fun i wr => ∃ k : Nat, k ≤ xs.length ∧ i = .int .i64 k ∧ Below w.heap.size w wr ∧ filled 97 wr w.heap.size xs.length k xs) (fun i _ => xs.length - (intOf i).toNat)
  case atStart => exact ⟨0, Nat.zero_le _, rfl, hb0, hf0⟩
  case round =>
    obtain ⟨k, hk, rfl, hbl, hf⟩ := hrel
    obtain ⟨w1, rfl⟩ : ∃ w1 : World, w1 = wr := ⟨_, rfl⟩
    clear hf0 hb0
    by_cases hlt : k < xs.length
    · obtain ⟨b, o, rfl, hb, hok, c1, c2⟩ := HR.out.mis k hlt
      have HST := Lib.hid (fun (W : World) (hF : filled 97 W w.heap.size xs.length k xs) => hF.step hlt (Nat.le_refl _) (ecs := xs[k].cells) ⟨hok, rfl⟩)
      generalize xs[k] = x at *
      have c1' : w1.cell? ⟨b, o + k * 2, none⟩ = some (.int .i64 x.id) := (hbl.cell (p := ⟨b, o + k * 2, none⟩) hb).trans c1
      have c2' : w1.cell? ⟨b, o + k * 2 + 1, none⟩ = some (.int .i64 x.bin) := (hbl.cell (p := ⟨b, o + k * 2 + 1, none⟩) hb).trans c2
      clear c1 c2
      have HF := Lib.hid hf; clear hf
      go_wp2_with fail
      refine (laws_toMissort _ _).mono ?_
      rintro e w2 ⟨rfl, hb3⟩
      have hf2 := HF.out.below hb3
      have hb2 := hbl.trans (hb3.mono hbl.size)
      obtain ⟨u0, g0⟩ := hf2.cell (j := k * 2) (by show _ < _ * 2; omega)
      obtain ⟨u1, g1⟩ := hf2.cell (j := k * 2 + 1) (by show _ < _ * 2; omega)
      have f0 := hf2.free (k * 2)
      have f1 := hf2.free (k * 2 + 1)
      have HF2 := Lib.hid hf2; clear hf2
      go_wp2_with fail
      go_roundw
      case rel => exact ⟨k + 1, by omega, by go_num, hb2.trans (setAll_below x.cells w2 (k * 2) _ (Nat.le_refl _)), HST.out w2 HF2.out⟩
      case measure => simp [intOf]; omega
    · have HE := Lib.hid (show k = xs.length by omega)
      have HF := Lib.hid hf; clear hf
      go_wp2
      go_ret
      exact ⟨_, rfl, (HE.out ▸ HF.out : filled _ _ _ _ xs.length _).own rfl (Nat.le_refl _) (by unfold maxLen; omega), hbl⟩

set_option maxRecDepth 100000 in
set_option maxHeartbeats 400000 in
theorem laws_eqMissortS (v v' : Value) (xs ys : List Mis) (w : World) (hv : rd w w.heap.size v xs) (hv' : rd w w.heap.size v' ys) :
    Calls Try.prog 33 #[v, v'] w fun e w' => e = .returned (.bool (eqBy misEq xs ys)) ∧ Below w.heap.size w w' := by
  obtain ⟨A, n, c, rfl, hn, hc, hm, hr⟩ := hv
  obtain ⟨A', n', c', rfl, hn', hc', hm', hr'⟩ := hv'
  subst hn hn'
  unfold maxLen at hm hm'
  have HR := Lib.hid hr; clear hr
  have HR' := Lib.hid hr'; clear hr'
  go_enter Try.func33, Try.ntmps33
  by_cases hl : xs.length = ys.length
  · have hl1 : ((xs.length : Int) != (ys.length : Int)) = false := by simp [hl]
    have HL := Lib.hid hl; clear hl
    go_wp2
    go_loopw [5] (fun i wr => ∃ k : Nat, k ≤ xs.length ∧ i = .int .i64 k ∧ Below w.heap.size w wr ∧ Hid (∀ j (h1 : j < xs.length) (h2 : j < ys.length), j < k → misEq xs[j] ys[j] = true)) (fun i _ => xs.length - (intOf i).toNat)
    case atStart => exact ⟨0, Nat.zero_le _, rfl, Below.refl _ _, fun j _ _ hj => absurd hj (Nat.not_lt_zero j)⟩
    case round =>
      obtain ⟨k, hk, rfl, hbl, HG⟩ := hrel
      obtain ⟨w1, rfl⟩ : ∃ w1 : World, w1 = wr := ⟨_, rfl⟩
      by_cases hlt : k < xs.length
      · have hlt' : k < ys.length := by rw [← HL.out]; exact hlt
        obtain ⟨b, o, rfl, hb, _, c1, c2⟩ := HR.out.mis k hlt
        obtain ⟨b', o', rfl, hb', _, d1, d2⟩ := HR'.out.mis k hlt'
        have hbad := Lib.hid (fun h => eqBy_bad (p := misEq) k hlt hlt' h)
        have HX : Hid (∀ h : misEq xs[k] ys[k] = true, ∀ j (h1 : j < xs.length) (h2 : j < ys.length), j < k + 1 → misEq xs[j] ys[j] = true) := fun h j h1 h2 hj => by
          by_cases hjk : j < k
          · exact HG.out j h1 h2 hjk
          · obtain rfl : j = k := by omega
            exact h
        generalize xs[k] = x at *
        generalize ys[k] = y at *
        have c1' : w1.cell? ⟨b, o + k * 2, none⟩ = some (.int .i64 x.id) := (hbl.cell (p := ⟨b, o + k * 2, none⟩) hb).trans c1
        have c2' : w1.cell? ⟨b, o + k * 2 + 1, none⟩ = some (.int .i64 x.bin) := (hbl.cell (p := ⟨b, o + k * 2 + 1, none⟩) hb).trans c2
        have d1' : w1.cell? ⟨b', o' + k * 2, none⟩ = some (.int .i64 y.id) := (hbl.cell (p := ⟨b', o' + k * 2, none⟩) hb').trans d1
        have d2' : w1.cell? ⟨b', o' + k * 2 + 1, none⟩ = some (.int .i64 y.bin) := (hbl.cell (p := ⟨b', o' + k * 2 + 1, none⟩) hb').trans d2
        clear c1 c2 d1 d2
        have hki : (k : Int) < (xs.length : Int) := by omega
        have hki' : (k : Int) < (ys.length : Int) := by omega
        have hb2 : Below w.heap.size w w1.drew := hbl.drew
        cases he : misEq x y
        · have he' := Lib.hid he; clear he
          go_wp2
          go_still_tail 8, (by kernel_rfl)
          change wpList _ _ _ _ _ w1.drew
          generalize w1.drew = w2 at *
          go_wp2_with (go_at_call 84; refine (laws_eqMissort _ _ _).mono ?_; rw [he'.out]; rintro e w' ⟨rfl, hb3⟩)
          go_ret
          exact ⟨ret_bool (hbad.out he'.out).symm, hb2.trans (hb3.mono hb2.size)⟩
        · have he' := Lib.hid he; clear he
          go_wp2
          go_still_tail 8, (by kernel_rfl)
          change wpList _ _ _ _ _ w1.drew
          generalize w1.drew = w2 at *
          go_wp2_with (go_at_call 84; refine (laws_eqMissort _ _ _).mono ?_; rw [he'.out]; rintro e w' ⟨rfl, hb3⟩)
          go_roundw
          case rel => exact ⟨k + 1, by omega, by go_num, hb2.trans (hb3.mono hb2.size), HX.out he'.out⟩
          case measure => simp [intOf]; omega
      · have HE := Lib.hid (show k = xs.length by omega)
        go_wp2
        go_ret
        exact ⟨ret_bool (eqBy_good HL.out fun j h1 h2 => HG.out j h1 h2 (by rw [HE.out]; exact h1)).symm, hbl⟩
  · have hl1 : ((xs.length : Int) != (ys.length : Int)) = true := by simp; omega
    have HL := Lib.hid hl; clear hl
    go_wp2
    go_ret
    exact ⟨ret_bool (eqBy_len HL.out).symm, Below.refl _ _⟩

end Go.Proofs.Ytiaepapdofcnjaa
