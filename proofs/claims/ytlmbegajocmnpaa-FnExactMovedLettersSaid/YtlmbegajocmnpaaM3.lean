/- KeptLetters, MovedLetters: both texts. -/
import Derived.Test.YtlmbegajocmnpaaK5
import Derived.Test.YtlmbegajocmnpaaL4
namespace Go.Proofs.Ytlmbegajocmnpaa
open Go.RowKit

theorem ranks_get (p : Pln) (xs : List Ltr) (k : Nat) (h : k < xs.length) : (ranksOf p xs)[k]'(by unfold ranksOf; simpa using h) = rkI p.order xs[k].code := by simp [ranksOf]
theorem ranks_len (p : Pln) (xs : List Ltr) : (ranksOf p xs).length = xs.length := by simp [ranksOf]
/-- What one letter more does to the choice. -/
theorem ranks_step (p : Pln) (xs : List Ltr) (k : Nat) (h : k < xs.length) : runK ((ranksOf p xs).take (k + 1)) = stepK (runK ((ranksOf p xs).take k)) (rkI p.order xs[k].code) := by
  rw [runK_succ _ _ (by rw [ranks_len]; exact h), ranks_get p xs k h]
theorem stepK_neg {L : List (Nat × Nat)} {r : Int} (h : r < 0) : stepK L r = L := by unfold stepK; rw [if_pos h]
theorem stepK_pos {L : List (Nat × Nat)} (r : Nat) : stepK L (r : Int) = L ++ [(r, topLe L r + 1)] := by
  unfold stepK; rw [if_neg (by omega), Int.toNat_natCast]

set_option maxHeartbeats 1600000 in
theorem impl_KeptLetters (v vb : Value) (p : Pln) (xs : List Ltr) (w : World) (hv : rdP w w.heap.size v p) (hb : rd w w.heap.size vb xs) :
    Calls Try.prog 26 #[v, vb] w fun e w' => e = .returned (.int .i64 (keptI p xs)) ∧ Below w.heap.size w w' := by
  have hv0 := Lib.hid hv
  have hb0 := Lib.hid hb
  obtain ⟨vo, rfl, hi1, hi2, hro⟩ := hv
  have hro0 := Lib.hid hro
  obtain ⟨Ao, no, cpo, rfl, hno, hco, hmo, _⟩ := hro
  subst hno
  obtain ⟨A, n, cp, rfl, hn, hc, hm, hr⟩ := hb
  subst hn
  unfold maxLen at hm hmo
  have HR := Lib.hid hr; clear hr
  have hb00 : Below w.heap.size w (w.alloc (Obj.cells #[Value.int IntKind.i64 p.bins, Value.int IntKind.i64 p.passes, Value.slice Ao p.order.length cpo] 29)) := (Below.refl _ _).alloc (Nat.le_refl _) _
  have gb : (w.alloc (Obj.cells #[Value.int IntKind.i64 p.bins, Value.int IntKind.i64 p.passes, Value.slice Ao p.order.length cpo] 29)).cell? ⟨w.heap.size, 2, none⟩ = some (.slice Ao p.order.length cpo) := by go_simp
  have hz0 : (w.alloc (Obj.cells #[Value.int IntKind.i64 p.bins, Value.int IntKind.i64 p.passes, Value.slice Ao p.order.length cpo] 29)).heap.size = w.heap.size + 1 := by simp
  have GB := Lib.hid gb; clear gb
  have HB0 := Lib.hid hb00; clear hb00
  have HZ0 := Lib.hid hz0; clear hz0
  go_enter Try.func26, Try.ntmps26
  go_wp2_with fail
  refine (impl_PlanValid _ p _ (hv0.out.on HB0.out)).mono ?_
  rintro e w0 ⟨rfl, b0⟩
  have B0 : Below w.heap.size w w0 := HB0.out.trans (b0.mono HB0.out.size)
  have g0 : w0.cell? ⟨w.heap.size, 2, none⟩ = some (.slice Ao p.order.length cpo) := (b0.cell (p := ⟨w.heap.size, 2, none⟩) (by rw [HZ0.out]; simp)).trans GB.out
  have hlv0 : w.heap.size < w0.heap.size := by have h := b0.size; rw [HZ0.out] at h; omega
  clear HZ0 GB HB0 b0
  cases hp : planOk p
  · have HP := Lib.hid hp; clear hp
    go_wp2_with fail
    go_ret
    exact ⟨ret_int (by unfold keptI; rw [HP.out]; rfl), B0⟩
  have hpl := (planOk_iff.1 hp).2.1
  have HP := Lib.hid hp; clear hp
  go_wp2_with fail
  refine (impl_BatchValid _ xs _ (hb0.out.on B0)).mono ?_
  rintro e w1 ⟨rfl, b1⟩
  have B1 := B0.trans (b1.mono B0.size)
  have g1 := (b1.cell (p := ⟨w.heap.size, 2, none⟩) hlv0).trans g0
  have hlv1 : w.heap.size < w1.heap.size := Nat.lt_of_lt_of_le hlv0 b1.size
  clear g0 b1 hlv0 B0
  cases hx : okB xs
  · have HX := Lib.hid hx; clear hx
    go_wp2_with fail
    go_ret
    exact ⟨ret_int (by unfold keptI; rw [HP.out, HX.out]; rfl), B1⟩
  have hxl := (okB_iff.1 hx).1
  have HX := Lib.hid hx; clear hx
  obtain ⟨i0, hi, hz0, hz1, hz2⟩ := info_parts Try.infoInt
  have hmk := make_row (P := Try.prog) 82 3 i0 _ Try.underlying82 hi hz0 p.order.length (by rw [hz2]; omega) (by omega)
  go_wp2_with fail
  clear hmk
  have ho := own_zeros w1 p.order.length w.heap.size B1.size (by unfold maxLen; omega)
  have hbz : Below w.heap.size w (w1.alloc (Obj.cells (madeCells #[.int .i64 0] p.order.length) 3)) := B1.alloc B1.size _
  have gz : (w1.alloc (Obj.cells (madeCells #[.int .i64 0] p.order.length) 3)).cell? ⟨w.heap.size, 2, none⟩ = some (.slice Ao p.order.length cpo) := by go_simp
  have hzz : w1.heap.size < (w1.alloc (Obj.cells (madeCells #[.int .i64 0] p.order.length) 3)).heap.size := by simp
  generalize (w1.alloc (Obj.cells (madeCells #[.int .i64 0] p.order.length) 3)) = wz at *
  generalize hgk : w1.heap.size = gk at *
  clear hgk g1 B1
  have HRL := Lib.hid (ranks_len p xs)
  clear hi hz0 hz1 hz2 i0
  go_loopw [6, 24] (fun t i wr => ∃ k : Nat, k ≤ xs.length ∧ i = .int .i64 k ∧ t = .int .i64 (bestK (runK ((ranksOf p xs).take k)) : Nat) ∧ Below w.heap.size w wr ∧ wr.cell? ⟨w.heap.size, 2, none⟩ = some (.slice Ao p.order.length cpo) ∧ gk < wr.heap.size ∧ own 3 w.heap.size wr (.slice (some ⟨gk, 0, none⟩) p.order.length p.order.length) (rowK (topEq (runK ((ranksOf p xs).take k))) p.order.length)) (fun _ i _ => xs.length - (intOf i).toNat)
  case atStart => exact ⟨0, Nat.zero_le _, rfl, rfl, hbz, gz, hzz, ho⟩
  case round =>
    obtain ⟨k, hk, rfl, rfl, hbl, g2, hgk2, ok⟩ := hrel
    obtain ⟨w2, rfl⟩ : ∃ w2 : World, w2 = wr := ⟨_, rfl⟩
    have hbs := hbl.size
    have hlv2 : w.heap.size < w2.heap.size := by omega
    clear hbz gz hzz ho
    have OK := Lib.hid ok; clear ok
    by_cases hlt : k < xs.length
    · obtain ⟨b, o, rfl, hb, ⟨⟨o1, o2⟩, o3⟩, c1, c2⟩ := HR.out.ltr k hlt
      have HST := Lib.hid (ranks_step p xs k hlt)
      have HBD := Lib.hid (topLe_bound ((ranksOf p xs).take k))
      have HLT : Hid (((ranksOf p xs).take k).length = k) := by show _ = _; rw [List.length_take, HRL.out]; omega
      generalize xs[k] = x at *
      have c1' : w2.cell? ⟨b, o + k * 2, none⟩ = some (.int .i64 x.id) := (hbl.cell (p := ⟨b, o + k * 2, none⟩) hb).trans c1
      have c2' : w2.cell? ⟨b, o + k * 2 + 1, none⟩ = some (.string x.code) := (hbl.cell (p := ⟨b, o + k * 2 + 1, none⟩) hb).trans c2
      clear c1 c2
      have hrr := rkI_range p.order x.code
      obtain ⟨r, HRK⟩ : ∃ r, Hid (rkI p.order x.code = r) := ⟨_, rfl⟩
      rw [HRK.out] at hrr
      have HST2 := Lib.hid (HRK.out ▸ HST.out)
      clear HST
      obtain ⟨L', HL'⟩ : ∃ L', Hid (runK ((ranksOf p xs).take (k + 1)) = L') := ⟨_, rfl⟩
      have HST2 : Hid (L' = stepK (runK ((ranksOf p xs).take k)) r) := by show _ = _; rw [← HL'.out]; exact HST2.out
      generalize runK ((ranksOf p xs).take k) = L at *
      have HB1 := Lib.hid (fun n => HLT.out ▸ (HBD.out n).1)
      have HB2 : Hid (bestK L ≤ k) := by show _ ≤ _; have := (HBD.out 0).2; rw [HLT.out] at this; exact this
      clear HBD HLT
      have hrd := Lib.hid (fun o => hro0.out.on (hbl.alloc hbs o))
      go_wp2_with fail
      refine (slices_IndexS _ p.order x.code _ (hrd.out _)).mono ?_
      rw [HRK.out]
      rintro e w3 ⟨rfl, rfl⟩
      by_cases hneg : r < 0
      · have HN : Hid (L' = L) := by show _ = _; rw [HST2.out, stepK_neg hneg]
        go_wp2_with fail
        go_roundw
        case rel =>
          refine ⟨k + 1, by omega, by go_num, by rw [HL'.out, HN.out], hbl.alloc hbs _, by go_simp, by simp; omega, ?_⟩
          rw [HL'.out, HN.out]
          exact OK.out.alloc _
        case measure => simp [intOf]; omega
      · obtain ⟨q, rfl⟩ := Int.eq_ofNat_of_zero_le (show 0 ≤ r by omega)
        have hq : q < p.order.length := by omega
        have HP2 : Hid (L' = L ++ [(q, topLe L q + 1)]) := by show _ = _; rw [HST2.out, stepK_pos]
        have hb3 : Below w.heap.size w (w2.alloc (Obj.cells #[Value.int IntKind.i64 x.id, Value.string x.code] 65)) := hbl.alloc hbs _
        have o4 := OK.out.alloc (Obj.cells #[Value.int IntKind.i64 x.id, Value.string x.code] 65)
        have g3 : (w2.alloc (Obj.cells #[Value.int IntKind.i64 x.id, Value.string x.code] 65)).cell? ⟨w.heap.size, 2, none⟩ = some (.slice Ao p.order.length cpo) := by go_simp
        have hz3 : gk < (w2.alloc (Obj.cells #[Value.int IntKind.i64 x.id, Value.string x.code] 65)).heap.size := by simp; omega
        generalize (w2.alloc (Obj.cells #[Value.int IntKind.i64 x.id, Value.string x.code] 65)) = w4 at *
        clear g2 hgk2 hbl hbs c1' c2' OK hlv2 hrd
        have hrt := o4.rd.take (k := q + 1) (by rw [rowK_len]; omega)
        rw [rowK_take _ _ _ (by omega)] at hrt
        have HRT := Lib.hid hrt; clear hrt
        obtain ⟨u0, hu0⟩ := o4.cellAt (j := q) (by rw [rowK_len]; show _ < _ * 1; omega)
        have hf0 := o4.freeAt q
        have hmx : maxTo (topEq L) q = topLe L q := topLe_eq L q
        have HMX := Lib.hid hmx; clear hmx
        have hb1 := HB1.out q
        have hb2 := HB2.out
        have HSI := Lib.hid (fun y hy => own_setInt o4 (k := q) (by rw [rowK_len]; exact hq) y hy)
        clear o4
        have hqi : ¬ ((q : Int) < 0) := by omega
        go_wp2_with fail
        refine (slices_MaxI _ (topEq L) q _ HRT.out).mono ?_
        rw [HMX.out]
        rintro e w5 ⟨rfl, rfl⟩
        have HROW : Hid (rowK (topEq L') p.order.length = (rowK (topEq L) p.order.length).set q ((topLe L q : Nat) + 1 : Int)) := by
          show _ = _
          rw [HP2.out, show ((topLe L q : Nat) + 1 : Int) = ((topLe L q + 1 : Nat) : Int) by omega, rowK_set]
          exact rowK_congr fun j _ => topEq_step L q j
        have HBEST : Hid (bestK L' = max (bestK L) (topLe L q + 1)) := by show _ = _; rw [HP2.out, bestK_snoc]
        generalize topLe L q = m at *
        generalize bestK L = m2 at *
        by_cases hmm : (m2 : Int) < (m : Int) + 1
        · go_wp2
          go_roundw
          case rel =>
            refine ⟨k + 1, by omega, by go_num, by rw [HL'.out, HBEST.out]; congr 1; omega, hb3.setCell (by simp; omega) _, by go_simp, by simpa using hz3, ?_⟩
            rw [HL'.out, HROW.out]
            exact HSI.out _ (by unfold isI64; omega)
          case measure => simp [intOf]; omega
        · go_wp2
          go_roundw
          case rel =>
            refine ⟨k + 1, by omega, by go_num, by rw [HL'.out, HBEST.out]; congr 1; omega, hb3.setCell (by simp; omega) _, by go_simp, by simpa using hz3, ?_⟩
            rw [HL'.out, HROW.out]
            exact HSI.out _ (by unfold isI64; omega)
          case measure => simp [intOf]; omega
    · have HE := Lib.hid (show k = xs.length by omega)
      have HF : Hid (keptI p xs = (bestK (runK ((ranksOf p xs).take k)) : Nat)) := by
        show _ = _
        unfold keptI keptN
        rw [HP.out, HX.out, HE.out, ← HRL.out, List.take_length]; rfl
      generalize bestK (runK ((ranksOf p xs).take k)) = m at *
      go_wp2
      go_ret
      exact ⟨ret_int HF.out.symm, hbl⟩

def movedI (p : Pln) (xs : List Ltr) : Int := if keptI p xs < 0 then -1 else xs.length - keptI p xs
theorem keptI_range (p : Pln) (xs : List Ltr) : -1 ≤ keptI p xs ∧ keptI p xs ≤ xs.length := by
  unfold keptI keptN
  split
  · have h := (topLe_bound (ranksOf p xs) 0).2
    rw [ranks_len] at h
    omega
  · omega

theorem impl_MovedLetters (v vb : Value) (p : Pln) (xs : List Ltr) (w : World) (hv : rdP w w.heap.size v p) (hb : rd w w.heap.size vb xs) :
    Calls Try.prog 31 #[v, vb] w fun e w' => e = .returned (.int .i64 (movedI p xs)) ∧ Below w.heap.size w w' := by
  have hv0 := Lib.hid hv
  have hb0 := Lib.hid hb
  obtain ⟨vo, rfl, hi1, hi2, Ao, no, cpo, rfl, hno, hco, hmo, hro⟩ := hv
  subst hno
  clear hco hmo hro
  obtain ⟨A, n, cp, rfl, hn, hc, hm, _⟩ := hb
  subst hn
  unfold maxLen at hm
  have hB : Below w.heap.size w (w.alloc (Obj.cells #[Value.int IntKind.i64 p.bins, Value.int IntKind.i64 p.passes, Value.slice Ao p.order.length cpo] 29)) := (Below.refl _ _).alloc (Nat.le_refl _) _
  have HB := Lib.hid hB; clear hB
  obtain ⟨k1, k2⟩ := keptI_range p xs
  have HQ : Hid (movedI p xs = if keptI p xs < 0 then -1 else xs.length - keptI p xs) := rfl
  go_enter Try.func31, Try.ntmps31
  go_wp2_with fail
  refine (impl_KeptLetters _ _ p xs _ (hv0.out.on HB.out) (hb0.out.on HB.out)).mono ?_
  rintro e w1 ⟨rfl, b1⟩
  generalize keptI p xs = q at *
  have B1 := HB.out.trans (b1.mono HB.out.size)
  by_cases h : q < 0
  · go_wp2_with fail
    go_ret
    exact ⟨ret_int (by rw [HQ.out, if_pos h]), B1⟩
  · go_wp2_with fail
    go_ret
    exact ⟨ret_int (by rw [HQ.out, if_neg (by omega)]), B1⟩

end Go.Proofs.Ytlmbegajocmnpaa
