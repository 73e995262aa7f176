/- M3 E4 FL SO R0 R2 -/
import Derived.Test.YtpinkbodbedajaaGreatDoorQ7
import Derived.Test.YtpinkbodbedajaaGreatDoorQ2
import Derived.Laws.StructEq
import Derived.Deep.QuietTactic
import Derived.BigQuiet
import Derived.Test.YtpinkbodbedajaaGreatDoorQ1
import Derived.Test.YtpinkbodbedajaaGreatDoorQ15
import Derived.Deep.RegionHeld3
import Derived.ProofKit
import Derived.OpenShut
import Derived.ShutString
import Derived.ChangeOld
import Derived.Deep.Slices
import Derived.Deep.Fields
import Derived.ChangeSame
namespace Go.Proofs.YtpinkbodbedajaaGreatDoor
open Go.RowKit

theorem ranks_get (p : Pln) (xs : List Ltr) (k : Nat) (h : k < xs.length) : (ranksOf p xs)[k]'(by unfold ranksOf; simpa using h) = rkI p.order xs[k].code := by simp [ranksOf]
theorem ranks_len (p : Pln) (xs : List Ltr) : (ranksOf p xs).length = xs.length := by simp [ranksOf]
/-- What one letter more does to the choice. -/
theorem ranks_step (p : Pln) (xs : List Ltr) (k : Nat) (h : k < xs.length) : runK ((ranksOf p xs).take (k + 1)) = stepK (runK ((ranksOf p xs).take k)) (rkI p.order xs[k].code) := by
  rw [runK_succ _ _ (by rw [ranks_len]; exact h), ranks_get p xs k h]
theorem stepK_neg {L : List (Nat × Nat)} {r : Int} (h : r < 0) : stepK L r = L := by unfold stepK; rw [if_pos h]
theorem stepK_pos {L : List (Nat × Nat)} (r : Nat) : stepK L (r : Int) = L ++ [(r, topLe L r + 1)] := by
  unfold stepK; rw [if_neg (by omega), Int.toNat_natCast]

set_option maxHeartbeats 1600000 in
theorem impl_KeptLetters (v vb : Value) (p : Pln) (xs : List Ltr) (w : World) (hv : rdP w w.heap.size v p) (hb : rd w w.heap.size vb xs) :
    Calls Tryz.prog 99 #[v, vb] w fun e w' => e = .returned (.int .i64 (keptI p xs)) ∧ Below w.heap.size w w' := by
  have hv0 := Lib.hid hv
  have hb0 := Lib.hid hb
  obtain ⟨vo, rfl, hi1, hi2, hro⟩ := hv
  have hro0 := Lib.hid hro
  obtain ⟨Ao, no, cpo, rfl, hno, hco, hmo, _⟩ := hro
  subst hno
  obtain ⟨A, n, cp, rfl, hn, hc, hm, hr⟩ := hb
  subst hn
  unfold maxLen at hm hmo
  have HR := Lib.hid hr; clear hr
  have hb00 : Below w.heap.size w (w.alloc (Obj.cells #[Value.int IntKind.i64 p.bins, Value.int IntKind.i64 p.passes, Value.slice Ao p.order.length cpo] 25)) := (Below.refl _ _).alloc (Nat.le_refl _) _
  have gb : (w.alloc (Obj.cells #[Value.int IntKind.i64 p.bins, Value.int IntKind.i64 p.passes, Value.slice Ao p.order.length cpo] 25)).cell? ⟨w.heap.size, 2, none⟩ = some (.slice Ao p.order.length cpo) := by go_simp
  have hz0 : (w.alloc (Obj.cells #[Value.int IntKind.i64 p.bins, Value.int IntKind.i64 p.passes, Value.slice Ao p.order.length cpo] 25)).heap.size = w.heap.size + 1 := by simp
  have GB := Lib.hid gb; clear gb
  have HB0 := Lib.hid hb00; clear hb00
  have HZ0 := Lib.hid hz0; clear hz0
  go_enter Tryz.func99, Tryz.ntmps99
  go_wp2_with fail
  refine (impl_PlanValid _ p _ (hv0.out.on HB0.out)).mono ?_
  rintro e w0 ⟨rfl, b0⟩
  have B0 : Below w.heap.size w w0 := HB0.out.trans (b0.mono HB0.out.size)
  have g0 : w0.cell? ⟨w.heap.size, 2, none⟩ = some (.slice Ao p.order.length cpo) := (b0.cell (p := ⟨w.heap.size, 2, none⟩) (by rw [HZ0.out]; simp)).trans GB.out
  have hlv0 : w.heap.size < w0.heap.size := by have h := b0.size; rw [HZ0.out] at h; omega
  clear HZ0 GB HB0 b0
  cases hp : planOk p
  · have HP := Lib.hid hp; clear hp
    go_wp2_with fail
    go_ret
    exact ⟨ret_int (by unfold keptI; rw [HP.out]; rfl), B0⟩
  have hpl := (planOk_iff.1 hp).2.1
  have HP := Lib.hid hp; clear hp
  go_wp2_with fail
  refine (impl_BatchValid _ xs _ (hb0.out.on B0)).mono ?_
  rintro e w1 ⟨rfl, b1⟩
  have B1 := B0.trans (b1.mono B0.size)
  have g1 := (b1.cell (p := ⟨w.heap.size, 2, none⟩) hlv0).trans g0
  have hlv1 : w.heap.size < w1.heap.size := Nat.lt_of_lt_of_le hlv0 b1.size
  clear g0 b1 hlv0 B0
  cases hx : okB xs
  · have HX := Lib.hid hx; clear hx
    go_wp2_with fail
    go_ret
    exact ⟨ret_int (by unfold keptI; rw [HP.out, HX.out]; rfl), B1⟩
  have hxl := (okB_iff.1 hx).1
  have HX := Lib.hid hx; clear hx
  obtain ⟨i0, hi, hz0, hz1, hz2⟩ := info_parts Tryz.infoInt
  have hmk := make_row (P := Tryz.prog) 125 3 i0 _ Tryz.underlying125 hi hz0 p.order.length (by rw [hz2]; omega) (by omega)
  go_wp2_with fail
  clear hmk
  have ho := own_zeros w1 p.order.length w.heap.size B1.size (by unfold maxLen; omega)
  have hbz : Below w.heap.size w (w1.alloc (Obj.cells (madeCells #[.int .i64 0] p.order.length) 3)) := B1.alloc B1.size _
  have gz : (w1.alloc (Obj.cells (madeCells #[.int .i64 0] p.order.length) 3)).cell? ⟨w.heap.size, 2, none⟩ = some (.slice Ao p.order.length cpo) := by go_simp
  have hzz : w1.heap.size < (w1.alloc (Obj.cells (madeCells #[.int .i64 0] p.order.length) 3)).heap.size := by simp
  generalize (w1.alloc (Obj.cells (madeCells #[.int .i64 0] p.order.length) 3)) = wz at *
  generalize hgk : w1.heap.size = gk at *
  clear hgk g1 B1
  have HRL := Lib.hid (ranks_len p xs)
  clear hi hz0 hz1 hz2 i0
  go_loopw [6, 24] (fun t i wr => ∃ k : Nat, k ≤ xs.length ∧ i = .int .i64 k ∧ t = .int .i64 (bestK (runK ((ranksOf p xs).take k)) : Nat) ∧ Below w.heap.size w wr ∧ wr.cell? ⟨w.heap.size, 2, none⟩ = some (.slice Ao p.order.length cpo) ∧ gk < wr.heap.size ∧ own 3 w.heap.size wr (.slice (some ⟨gk, 0, none⟩) p.order.length p.order.length) (rowK (topEq (runK ((ranksOf p xs).take k))) p.order.length)) (fun _ i _ => xs.length - (intOf i).toNat)
  case atStart => exact ⟨0, Nat.zero_le _, rfl, rfl, hbz, gz, hzz, ho⟩
  case round =>
    obtain ⟨k, hk, rfl, rfl, hbl, g2, hgk2, ok⟩ := hrel
    obtain ⟨w2, rfl⟩ : ∃ w2 : World, w2 = wr := ⟨_, rfl⟩
    have hbs := hbl.size
    have hlv2 : w.heap.size < w2.heap.size := by omega
    clear hbz gz hzz ho
    have OK := Lib.hid ok; clear ok
    by_cases hlt : k < xs.length
    · obtain ⟨b, o, rfl, hb, ⟨⟨o1, o2⟩, o3⟩, c1, c2⟩ := HR.out.ltr k hlt
      have HST := Lib.hid (ranks_step p xs k hlt)
      have HBD := Lib.hid (topLe_bound ((ranksOf p xs).take k))
      have HLT : Hid (((ranksOf p xs).take k).length = k) := by show _ = _; rw [List.length_take, HRL.out]; omega
      generalize xs[k] = x at *
      have c1' : w2.cell? ⟨b, o + k * 2, none⟩ = some (.int .i64 x.id) := (hbl.cell (p := ⟨b, o + k * 2, none⟩) hb).trans c1
      have c2' : w2.cell? ⟨b, o + k * 2 + 1, none⟩ = some (.string x.code) := (hbl.cell (p := ⟨b, o + k * 2 + 1, none⟩) hb).trans c2
      clear c1 c2
      have hrr := rkI_range p.order x.code
      obtain ⟨r, HRK⟩ : ∃ r, Hid (rkI p.order x.code = r) := ⟨_, rfl⟩
      rw [HRK.out] at hrr
      have HST2 := Lib.hid (HRK.out ▸ HST.out)
      clear HST
      obtain ⟨L', HL'⟩ : ∃ L', Hid (runK ((ranksOf p xs).take (k + 1)) = L') := ⟨_, rfl⟩
      have HST2 : Hid (L' = stepK (runK ((ranksOf p xs).take k)) r) := by show _ = _; rw [← HL'.out]; exact HST2.out
      generalize runK ((ranksOf p xs).take k) = L at *
      have HB1 := Lib.hid (fun n => HLT.out ▸ (HBD.out n).1)
      have HB2 : Hid (bestK L ≤ k) := by show _ ≤ _; have := (HBD.out 0).2; rw [HLT.out] at this; exact this
      clear HBD HLT
      have hrd := Lib.hid (fun o => hro0.out.on (hbl.alloc hbs o))
      go_wp2_with fail
      refine (slices_IndexS _ p.order x.code _ (hrd.out _)).mono ?_
      rw [HRK.out]
      rintro e w3 ⟨rfl, rfl⟩
      by_cases hneg : r < 0
      · have HN : Hid (L' = L) := by show _ = _; rw [HST2.out, stepK_neg hneg]
        go_wp2_with fail
        go_roundw
        case rel =>
          refine ⟨k + 1, by omega, by go_num, by rw [HL'.out, HN.out], hbl.alloc hbs _, by go_simp, by simp; omega, ?_⟩
          rw [HL'.out, HN.out]
          exact OK.out.alloc _
        case measure => simp [intOf]; omega
      · obtain ⟨q, rfl⟩ := Int.eq_ofNat_of_zero_le (show 0 ≤ r by omega)
        have hq : q < p.order.length := by omega
        have HP2 : Hid (L' = L ++ [(q, topLe L q + 1)]) := by show _ = _; rw [HST2.out, stepK_pos]
        have hb3 : Below w.heap.size w (w2.alloc (Obj.cells #[Value.int IntKind.i64 x.id, Value.string x.code] 89)) := hbl.alloc hbs _
        have o4 := OK.out.alloc (Obj.cells #[Value.int IntKind.i64 x.id, Value.string x.code] 89)
        have g3 : (w2.alloc (Obj.cells #[Value.int IntKind.i64 x.id, Value.string x.code] 89)).cell? ⟨w.heap.size, 2, none⟩ = some (.slice Ao p.order.length cpo) := by go_simp
        have hz3 : gk < (w2.alloc (Obj.cells #[Value.int IntKind.i64 x.id, Value.string x.code] 89)).heap.size := by simp; omega
        generalize (w2.alloc (Obj.cells #[Value.int IntKind.i64 x.id, Value.string x.code] 89)) = w4 at *
        clear g2 hgk2 hbl hbs c1' c2' OK hlv2 hrd
        have hrt := o4.rd.take (k := q + 1) (by rw [rowK_len]; omega)
        rw [rowK_take _ _ _ (by omega)] at hrt
        have HRT := Lib.hid hrt; clear hrt
        obtain ⟨u0, hu0⟩ := o4.cellAt (j := q) (by rw [rowK_len]; show _ < _ * 1; omega)
        have hf0 := o4.freeAt q
        have hmx : maxTo (topEq L) q = topLe L q := topLe_eq L q
        have HMX := Lib.hid hmx; clear hmx
        have hb1 := HB1.out q
        have hb2 := HB2.out
        have HSI := Lib.hid (fun y hy => own_setInt o4 (k := q) (by rw [rowK_len]; exact hq) y hy)
        clear o4
        have hqi : ¬ ((q : Int) < 0) := by omega
        go_wp2_with fail
        refine (slices_MaxI _ (topEq L) q _ HRT.out).mono ?_
        rw [HMX.out]
        rintro e w5 ⟨rfl, rfl⟩
        have HROW : Hid (rowK (topEq L') p.order.length = (rowK (topEq L) p.order.length).set q ((topLe L q : Nat) + 1 : Int)) := by
          show _ = _
          rw [HP2.out, show ((topLe L q : Nat) + 1 : Int) = ((topLe L q + 1 : Nat) : Int) by omega, rowK_set]
          exact rowK_congr fun j _ => topEq_step L q j
        have HBEST : Hid (bestK L' = max (bestK L) (topLe L q + 1)) := by show _ = _; rw [HP2.out, bestK_snoc]
        generalize topLe L q = m at *
        generalize bestK L = m2 at *
        by_cases hmm : (m2 : Int) < (m : Int) + 1
        · go_wp2
          go_roundw
          case rel =>
            refine ⟨k + 1, by omega, by go_num, by rw [HL'.out, HBEST.out]; congr 1; omega, hb3.setCell (by simp; omega) _, by go_simp, by simpa using hz3, ?_⟩
            rw [HL'.out, HROW.out]
            exact HSI.out _ (by unfold isI64; omega)
          case measure => simp [intOf]; omega
        · go_wp2
          go_roundw
          case rel =>
            refine ⟨k + 1, by omega, by go_num, by rw [HL'.out, HBEST.out]; congr 1; omega, hb3.setCell (by simp; omega) _, by go_simp, by simpa using hz3, ?_⟩
            rw [HL'.out, HROW.out]
            exact HSI.out _ (by unfold isI64; omega)
          case measure => simp [intOf]; omega
    · have HE := Lib.hid (show k = xs.length by omega)
      have HF : Hid (keptI p xs = (bestK (runK ((ranksOf p xs).take k)) : Nat)) := by
        show _ = _
        unfold keptI keptN
        rw [HP.out, HX.out, HE.out, ← HRL.out, List.take_length]; rfl
      generalize bestK (runK ((ranksOf p xs).take k)) = m at *
      go_wp2
      go_ret
      exact ⟨ret_int HF.out.symm, hbl⟩

def movedI (p : Pln) (xs : List Ltr) : Int := if keptI p xs < 0 then -1 else xs.length - keptI p xs
theorem keptI_range (p : Pln) (xs : List Ltr) : -1 ≤ keptI p xs ∧ keptI p xs ≤ xs.length := by
  unfold keptI keptN
  split
  · have h := (topLe_bound (ranksOf p xs) 0).2
    rw [ranks_len] at h
    omega
  · omega

theorem impl_MovedLetters (v vb : Value) (p : Pln) (xs : List Ltr) (w : World) (hv : rdP w w.heap.size v p) (hb : rd w w.heap.size vb xs) :
    Calls Tryz.prog 39 #[v, vb] w fun e w' => e = .returned (.int .i64 (movedI p xs)) ∧ Below w.heap.size w w' := by
  have hv0 := Lib.hid hv
  have hb0 := Lib.hid hb
  obtain ⟨vo, rfl, hi1, hi2, Ao, no, cpo, rfl, hno, hco, hmo, hro⟩ := hv
  subst hno
  clear hco hmo hro
  obtain ⟨A, n, cp, rfl, hn, hc, hm, _⟩ := hb
  subst hn
  unfold maxLen at hm
  have hB : Below w.heap.size w (w.alloc (Obj.cells #[Value.int IntKind.i64 p.bins, Value.int IntKind.i64 p.passes, Value.slice Ao p.order.length cpo] 25)) := (Below.refl _ _).alloc (Nat.le_refl _) _
  have HB := Lib.hid hB; clear hB
  obtain ⟨k1, k2⟩ := keptI_range p xs
  have HQ : Hid (movedI p xs = if keptI p xs < 0 then -1 else xs.length - keptI p xs) := rfl
  go_enter Tryz.func39, Tryz.ntmps39
  go_wp2_with fail
  refine (impl_KeptLetters _ _ p xs _ (hv0.out.on HB.out) (hb0.out.on HB.out)).mono ?_
  rintro e w1 ⟨rfl, b1⟩
  generalize keptI p xs = q at *
  have B1 := HB.out.trans (b1.mono HB.out.size)
  by_cases h : q < 0
  · go_wp2_with fail
    go_ret
    exact ⟨ret_int (by rw [HQ.out, if_pos h]), B1⟩
  · go_wp2_with fail
    go_ret
    exact ⟨ret_int (by rw [HQ.out, if_neg (by omega)]), B1⟩

end Go.Proofs.YtpinkbodbedajaaGreatDoor

namespace Go.Proofs.YtpinkbodbedajaaGreatDoor
open Go.RowKit

theorem ltr_equalIn (a c : Int) (b d : ByteArray) (w : World) : (Op.equalIn 10000 89 (.agg #[.int .i64 a, .string b]) (.agg #[.int .i64 c, .string d])).run Tryz.prog w = .ok (ltrEq ⟨a, b⟩ ⟨c, d⟩) w := by
  have u3 := Tryz.underlying3
  have a3 := Tryz.isAgg3
  have z3 := Tryz.sizeOf3
  have u9 := Tryz.underlying9
  have a9 := Tryz.isAgg9
  have z9 := Tryz.sizeOf9
  have hS : Tryz.prog.underlying 89 = some (.struct (Tryz.prog.fieldsOf 89)) := by kernel_rfl
  rw [show (10000 : Nat) = 9999 + 1 from rfl, run_equalIn_agg w 9999 89 _ _ hS (by kernel_rfl)]
  simp only [Program.fieldsOf, Tryz.underlying89]
  go_simp
  unfold ltrEq sEq
  by_cases h1 : a = c <;> by_cases h2 : b.toList = d.toList <;> simp [h1, h2]
theorem ltr_neq (a c : Int) (b d : ByteArray) (w : World) : (binOp .neq 89 (.agg #[.int .i64 a, .string b]) (.agg #[.int .i64 c, .string d])).run Tryz.prog w = .ok (.bool (!ltrEq ⟨a, b⟩ ⟨c, d⟩)) w := by
  rw [run_neq_struct, ltr_equalIn]; rfl
theorem ltr_guard (op : BinOp) (x y : Operand) (xs ys : Array Value) (w : World) : (eqGuard op 89 x y (.agg xs) (.agg ys)).run Tryz.prog w = .ok () w := run_eqGuard_agg w op _ x y xs ys (by kernel_rfl)

set_option maxHeartbeats 400000 in
theorem laws_soBatch (v v' : Value) (xs ys : List Ltr) (w : World) (hv : rd w w.heap.size v xs) (hv' : rd w w.heap.size v' ys) :
    Calls Tryz.prog 36 #[v, v'] w fun e w' => e = .returned (.bool (eqBy ltrEq xs ys)) ∧ Below w.heap.size w w' := by
  obtain ⟨A, n, c, rfl, hn, hc, hm, hr⟩ := hv
  obtain ⟨A', n', c', rfl, hn', hc', hm', hr'⟩ := hv'
  subst hn hn'
  unfold maxLen at hm hm'
  have HR := Lib.hid hr; clear hr
  have HR' := Lib.hid hr'; clear hr'
  go_enter Tryz.func36, Tryz.ntmps36
  by_cases hl : xs.length = ys.length
  · have hl1 : ((xs.length : Int) != (ys.length : Int)) = false := by simp [hl]
    have HL := Lib.hid hl; clear hl
    go_wp2
    go_loopw [5] (fun i wr => ∃ k : Nat, k ≤ xs.length ∧ i = .int .i64 k ∧ Below w.heap.size w wr ∧ Hid (∀ j (h1 : j < xs.length) (h2 : j < ys.length), j < k → ltrEq xs[j] ys[j] = true)) (fun i _ => xs.length - (intOf i).toNat)
    case atStart => exact ⟨0, Nat.zero_le _, rfl, Below.refl _ _, fun j _ _ hj => absurd hj (Nat.not_lt_zero j)⟩
    case round =>
      obtain ⟨k, hk, rfl, hbl, HG⟩ := hrel
      obtain ⟨w1, rfl⟩ : ∃ w1 : World, w1 = wr := ⟨_, rfl⟩
      by_cases hlt : k < xs.length
      · have hlt' : k < ys.length := by rw [← HL.out]; exact hlt
        obtain ⟨b, o, rfl, hb, _, c1, c2⟩ := HR.out.ltr k hlt
        obtain ⟨b', o', rfl, hb', _, d1, d2⟩ := HR'.out.ltr k hlt'
        have hbad := Lib.hid (fun h => eqBy_bad (p := ltrEq) k hlt hlt' h)
        have HX : Hid (∀ h : ltrEq xs[k] ys[k] = true, ∀ j (h1 : j < xs.length) (h2 : j < ys.length), j < k + 1 → ltrEq xs[j] ys[j] = true) := fun h j h1 h2 hj => by
          by_cases hjk : j < k
          · exact HG.out j h1 h2 hjk
          · obtain rfl : j = k := by omega
            exact h
        generalize xs[k] = x at *
        generalize ys[k] = y at *
        have c1' : w1.cell? ⟨b, o + k * 2, none⟩ = some (.int .i64 x.id) := (hbl.cell (p := ⟨b, o + k * 2, none⟩) hb).trans c1
        have c2' : w1.cell? ⟨b, o + k * 2 + 1, none⟩ = some (.string x.code) := (hbl.cell (p := ⟨b, o + k * 2 + 1, none⟩) hb).trans c2
        have d1' : w1.cell? ⟨b', o' + k * 2, none⟩ = some (.int .i64 y.id) := (hbl.cell (p := ⟨b', o' + k * 2, none⟩) hb').trans d1
        have d2' : w1.cell? ⟨b', o' + k * 2 + 1, none⟩ = some (.string y.code) := (hbl.cell (p := ⟨b', o' + k * 2 + 1, none⟩) hb').trans d2
        clear c1 c2 d1 d2
        have hki : (k : Int) < (xs.length : Int) := by omega
        have hki' : (k : Int) < (ys.length : Int) := by omega
        have q1 := ltr_neq x.id y.id x.code y.code
        have q2 := ltr_guard
        cases he : ltrEq x y
        · have he' := Lib.hid he
          have he2 : ltrEq ⟨x.id, x.code⟩ ⟨y.id, y.code⟩ = false := he
          clear he
          go_wp2
          go_quiet (fail)
          go_wp2
          go_ret
          exact ⟨ret_bool (hbad.out he'.out).symm, below_drewN hbl _⟩
        · have he' := Lib.hid he
          have he2 : ltrEq ⟨x.id, x.code⟩ ⟨y.id, y.code⟩ = true := he
          clear he
          go_wp2
          go_quiet (fail)
          go_wp2
          go_roundw
          case rel => exact ⟨k + 1, by omega, by go_num, below_drewN hbl _, HX.out he'.out⟩
          case measure => simp [intOf]; omega
      · have HE := Lib.hid (show k = xs.length by omega)
        go_wp2
        go_ret
        exact ⟨ret_bool (eqBy_good HL.out fun j h1 h2 => HG.out j h1 h2 (by rw [HE.out]; exact h1)).symm, hbl⟩
  · have hl1 : ((xs.length : Int) != (ys.length : Int)) = true := by simp; omega
    have HL := Lib.hid hl; clear hl
    go_wp2
    go_ret
    exact ⟨ret_bool (eqBy_len HL.out).symm, Below.refl _ _⟩

end Go.Proofs.YtpinkbodbedajaaGreatDoor

namespace Go.Proofs.YtpinkbodbedajaaGreatDoor
open Go.RowKit

/-! ### FindLetter -/

end Go.Proofs.YtpinkbodbedajaaGreatDoor

namespace Go.Proofs.YtpinkbodbedajaaGreatDoor
open Go.RowKit

theorem so_batch (v v' : Value) (xs : List Ltr) (w : World) (hv : rd w w.heap.size v xs) (hv' : rd w w.heap.size v' xs) :
    Calls Tryz.prog 36 #[v, v'] w fun e w' => e = .returned (.bool true) ∧ Below w.heap.size w w' := by
  refine (laws_soBatch _ _ _ _ _ hv hv').mono ?_
  rw [(eqBy_iff ltrEq_iff).2 rfl]
  exact fun e w' h => h







/-- The first k letters are in order; last is the rank of the last one. -/
structure ordTo (p : Pln) (xs : List Ltr) (k : Nat) (last : Int) : Prop where
  ord : inOrd p (xs.take k)
  le : ∀ x ∈ xs.take k, rkI p.order x.code ≤ last
  nn : 0 ≤ last
  at_ : last = 0 ∨ ∃ x ∈ xs.take k, rkI p.order x.code = last
theorem ordTo.zero (p : Pln) (xs : List Ltr) : ordTo p xs 0 0 := ⟨by unfold inOrd ordered ranksOf; simp, by simp, Int.le_refl _, .inl rfl⟩
theorem ordTo.succ {p : Pln} {xs : List Ltr} {k : Nat} {last : Int} (h : ordTo p xs k last) (hk : k < xs.length) (hr : last ≤ rkI p.order xs[k].code) : ordTo p xs (k + 1) (rkI p.order xs[k].code) := by
  obtain ⟨h1, h2, h3, _⟩ := h
  have e := List.take_succ_eq_append_getElem hk
  refine ⟨?_, fun x hx => ?_, by omega, .inr ⟨xs[k], by rw [e]; exact List.mem_append_right _ (List.mem_singleton.2 rfl), rfl⟩⟩
  · unfold inOrd ranksOf at *
    rw [e, List.map_append]
    refine ordered.snoc (r := rkI p.order xs[k].code) h1 (by omega) fun r hr' => ?_
    obtain ⟨x, hx, rfl⟩ := List.mem_map.1 hr'
    have := h2 x hx
    show rkI p.order x.code ≤ _
    omega
  · rw [e] at hx
    rcases List.mem_append.1 hx with hx | hx
    · have := h2 x hx; omega
    · rw [List.mem_singleton.1 hx]; omega

end Go.Proofs.YtpinkbodbedajaaGreatDoor

namespace Go.Proofs.YtpinkbodbedajaaGreatDoor
open Go.RowKit Go.ChangeShapes Go.WideShapes Go.Deep

/-- Whatever reads at type t reads as some x of α. -/
def Opens (P : Program) (t : TypeId) (α : Type) [El α] : Prop :=
  ∀ {H : Type} (enc : TypeId × Value → H) (w : World) (spare : Nat → Bool) (held : Bool) (fuel : Nat) (cs : List Value) (x : DataW H × List MemPlace),
    DataW.trod enc P w 0 spare held fuel t cs = some x → ∃ y : α, El.el w w.heap.size y cs

theorem list_of {α : Type} {p : Nat → α → Prop} : ∀ {n : Nat}, (∀ i, i < n → ∃ y, p i y) → ∃ xs : List α, xs.length = n ∧ ∀ i (h : i < xs.length), p i xs[i]
  | 0, _ => ⟨[], rfl, fun i h => absurd h (Nat.not_lt_zero i)⟩
  | n + 1, h => by
    obtain ⟨xs, hl, hp⟩ := list_of (n := n) (fun i hi => h i (by omega))
    obtain ⟨y, hy⟩ := h n (by omega)
    refine ⟨xs ++ [y], by simp [hl], fun i hi => ?_⟩
    by_cases hin : i < xs.length
    · rw [List.getElem_append_left hin]
      exact hp i hin
    · have : i = n := by simp at hi; omega
      subst this
      rw [List.getElem_append_right (by omega)]
      simpa [hl] using hy

theorem opens_row {α : Type} [El α] {P : Program} {t e : TypeId} (ht : P.underlying t = some (.slice e)) (hc : P.cellsOf e = El.size α) (hs : 0 < El.size α) (ho : Opens P e α)
    {H : Type} {enc : TypeId × Value → H} {w : World} {spare : Nat → Bool} {held : Bool} {fuel : Nat} {v : Value} {x : DataW H × List MemPlace}
    (h : DataW.trod enc P w 0 spare held fuel t [v] = some x) : ∃ xs : List α, rd w w.heap.size v xs := by
  rcases open_slice ht h with ⟨h0, _⟩ | ⟨a, len, cap, m, n, D, Pl, hcs, hb, hl, hm, hmm, hx, hi⟩
  · injection h0 with h0
    subst h0
    exact ⟨[], rd.nil_⟩
  · injection hcs with hv
    subst hv
    obtain ⟨xs, hxl, hxp⟩ := list_of (n := len) (p := fun i (y : α) => ∃ cs : List Value, El.el w w.heap.size y cs ∧ ∀ j u, cs[j]? = some u → w.cell? (a.add (i * El.size α + j)) = some u) (fun i hil => by
      obtain ⟨cs', hcc, hd⟩ := hi i (by rw [hmm]; split <;> omega)
      obtain ⟨y, hy⟩ := ho enc w spare held n cs' _ hd
      obtain ⟨_, hcl, hat⟩ := World.cells?_some hcc
      refine ⟨y, cs', hy, fun j u hu => ?_⟩
      have hj : j < P.cellsOf e := by
        rw [← hcl]
        exact (List.getElem?_eq_some_iff.1 hu).1
      have := hat j hj
      rw [← add_add, ← hc, this, hu])
    refine ⟨xs, some a, len, cap, rfl, hxl.symm, hl, hm, fun k hk => ?_⟩
    obtain ⟨cs, hel, hcell⟩ := hxp k hk
    have h0 : cs[0]? = some (cs[0]'(by rw [El.len hel]; exact hs)) := List.getElem?_eq_getElem _
    obtain ⟨b, o, spot⟩ := a
    have hc0 := hcell 0 _ h0
    have hspot : spot = none := by
      have h1 := hxp 0 (by omega)
      obtain ⟨cs1, hel1, hcell1⟩ := h1
      have h01 : cs1[0]? = some (cs1[0]'(by rw [El.len hel1]; exact hs)) := List.getElem?_eq_getElem _
      have := World.cell?_spot (hcell1 0 _ h01)
      simpa [Addr.add] using this
    subst hspot
    have hlt := World.block_lt_of_cell? _ _ hc0
    rw [block_of_add] at hlt
    exact ⟨b, o, cs, rfl, hlt, hel, fun j u hu => by have := hcell j u hu; rwa [add_lit] at this⟩

end Go.Proofs.YtpinkbodbedajaaGreatDoor

namespace Go.Proofs.YtpinkbodbedajaaGreatDoor
open Go.ChangeShapes Go.WideShapes Go.ChangeAt Go.RowKit

theorem opensByte : Opens Tryz.prog 5 UInt8 := by
  intro H enc w spare held fuel cs x h
  obtain ⟨n, rfl, _, wf⟩ := DataW.trod_int Tryz.underlying5 h
  simp [Lit.wf, IntKind.min, IntKind.max, IntKind.signed, IntKind.bits] at wf
  refine ⟨UInt8.ofNat n.toNat, ?_⟩
  show [Value.int .u8 n] = [Value.int .u8 ((UInt8.ofNat n.toNat).toNat : Int)]
  rw [UInt8.toNat_ofNat_of_lt' (by show n.toNat < 256; omega)]
  congr 2
  omega

end Go.Proofs.YtpinkbodbedajaaGreatDoor
