/- FH R4 -/
import Derived.Test.YtffbcfaahegglaaGreatDoorQ26
import Derived.Test.YtffbcfaahegglaaGreatDoorQ14
import Derived.Deep.RegionHeld3
import Derived.Test.YtffbcfaahegglaaGreatDoorQ22
import Derived.Test.YtffbcfaahegglaaGreatDoorQ45
namespace Go.Proofs.YtffbcfaahegglaaGreatDoor
open Go.RowKit

def crE (a b : ByteArray) : Bool := a.toList == b.toList
theorem crE_iff {a b : ByteArray} : crE a b = true ↔ a = b := by
  unfold crE
  rw [beq_iff_eq, ByteArray.toList_eq, ByteArray.toList_eq]
  exact ⟨fun h => ba_ext h, fun h => by rw [h]⟩
/-- Whether a report is that of the day. -/
def crB (d : Dy) (xs : List Ltr) (r : Rpt) : Bool := rdOk d xs && crE (fmtR (rptOf d xs)) (fmtR r)

set_option maxRecDepth 100000 in
set_option maxHeartbeats 1600000 in
theorem impl_CheckReport (v vb vr : Value) (d : Dy) (xs : List Ltr) (r : Rpt) (w : World) (hv : rdD w w.heap.size v d) (hb : rd w w.heap.size vb xs) (hr : rdR w w.heap.size vr r) (ht : TabW w) :
    Calls Tryz.prog 6 #[v, vb, vr] w fun e w' => e = .returned (.bool (crB d xs r)) ∧ Below w.heap.size w w' := by
  obtain ⟨D0, d0, D1, d1, D2, d2, e0⟩ := openD hv
  obtain ⟨A0, a0, A1, a1, A2, a2, A3, a3, e1⟩ := openR hr
  obtain ⟨wa, hwa⟩ : ∃ u, u = w.alloc (Obj.cells #[.int .i64 d.plan.bins, .int .i64 d.plan.passes, .slice D0 d.plan.order.length d0, .slice D1 d.fwds.length d1, .slice D2 d.held.length d2, .int .i64 d.size] 28) := ⟨_, rfl⟩
  obtain ⟨w0, hw0⟩ : ∃ u, u = wa.alloc (Obj.cells #[.slice A0 r.round.length a0, .slice A1 r.strange.length a1, .slice A2 r.held.length a2, .slice A3 r.stuck.length a3] 31) := ⟨_, rfl⟩
  have la := (box_later hw0).1
  have q0 := fun W h => box_cells hwa 0 (.int .i64 d.plan.bins) rfl W (later_trans la h)
  have q1 := fun W h => box_cells hwa 1 (.int .i64 d.plan.passes) rfl W (later_trans la h)
  have q2 := fun W h => box_cells hwa 2 (.slice D0 d.plan.order.length d0) rfl W (later_trans la h)
  have q3 := fun W h => box_cells hwa 3 (.slice D1 d.fwds.length d1) rfl W (later_trans la h)
  have q4 := fun W h => box_cells hwa 4 (.slice D2 d.held.length d2) rfl W (later_trans la h)
  have q5 := fun W h => box_cells hwa 5 (.int .i64 d.size) rfl W (later_trans la h)
  have r0 := box_cells hw0 0 (.slice A0 r.round.length a0) rfl
  have r1 := box_cells hw0 1 (.slice A1 r.strange.length a1) rfl
  have r2 := box_cells hw0 2 (.slice A2 r.held.length a2) rfl
  have r3 := box_cells hw0 3 (.slice A3 r.stuck.length a3) rfl
  have HT := Lib.hid (later_trans (box_later hwa).1 la)
  have HV := Lib.hid (hv.on HT.out)
  have HR := Lib.hid (hr.on HT.out)
  have HB := Lib.hid (hb.on HT.out)
  have HTB := Lib.hid (ht.on HT.out)
  clear ht
  have hza : wa.heap.size = w.heap.size + 1 := by subst hwa; simp
  rw [hza] at r0 r1 r2 r3
  obtain ⟨Ab, nb, cb, rfl, hnb, _, _, _⟩ := hb
  subst hnb
  subst e0 e1
  have HWA := Lib.hid hwa; have HW0 := Lib.hid hw0
  clear hwa hw0 hv hr la hza
  have l0 := Below.refl w0.heap.size w0
  go_enter Tryz.func6, Tryz.ntmps6
  go_wp2_with fail
  rw [← HWA.out, ← HW0.out]
  refine (impl_RunDay _ _ d xs _ (HV.out.on l0) (HB.out.on l0)).mono ?_
  rintro e w1 ⟨vR, rfl, oR, b1⟩
  have l1 := later_trans l0 b1
  have HCR : Hid (crB d xs r = (rdOk d xs && crE (fmtR (rptOf d xs)) (fmtR r))) := rfl
  have HLN := rptOf_len d xs
  generalize rptOf d xs = R at *
  have hoR := oR.rd
  obtain ⟨B0, b0, B1, bb1, B2, b2, B3, b3, rfl⟩ := openR hoR
  obtain ⟨wD, hwD⟩ : ∃ u, u = w1.alloc (Obj.cells #[.slice B0 R.round.length b0, .slice B1 R.strange.length bb1, .slice B2 R.held.length b2, .slice B3 R.stuck.length b3] 31) := ⟨_, rfl⟩
  have s0 := box_cells hwD 0 (.slice B0 R.round.length b0) rfl
  have s1 := box_cells hwD 1 (.slice B1 R.strange.length bb1) rfl
  have s2 := box_cells hwD 2 (.slice B2 R.held.length b2) rfl
  have s3 := box_cells hwD 3 (.slice B3 R.stuck.length b3) rfl
  have hD := (box_later hwD).1
  have lD := later_trans l1 hD
  have HO := Lib.hid (hoR.on hD)
  have HWD := Lib.hid hwD
  clear hwD oR hoR l1 b1 q0 q1 q2 q3 q4 q5 hD
  have ld := later_drew (Below.refl wD.heap.size wD)
  have y0 := fun W (h : Below wD.heap.size wD W) => r0 W (later_trans lD h)
  have y1 := fun W (h : Below wD.heap.size wD W) => r1 W (later_trans lD h)
  have y2 := fun W (h : Below wD.heap.size wD W) => r2 W (later_trans lD h)
  have y3 := fun W (h : Below wD.heap.size wD W) => r3 W (later_trans lD h)
  have HC0 := Lib.hid (fun W (h : Below wD.heap.size wD W) => impl_FormatReport _ R W (HO.out.on h) (HTB.out.on (later_trans lD h)))
  have HC1 := Lib.hid (fun W (h : Below wD.heap.size wD W) => impl_FormatReport _ r W (HR.out.on (later_trans lD h)) (HTB.out.on (later_trans lD h)))
  have HLD := Lib.hid (later_trans HT.out lD)
  clear r0 r1 r2 r3 lD
  cases hok : rdOk d xs
  · have HF : Hid (crB d xs r = false) := by show _ = _; rw [HCR.out, hok]; rfl
    clear HCR hok
    go_wp2_with fail
    rw [← HWD.out]
    go_quiet (fail)
    go_wp2
    go_ret
    exact ⟨by rw [HF.out]; rfl, later_trans HLD.out (below_drewN (Below.refl wD.heap.size wD) _)⟩
  · obtain ⟨F0, hF0⟩ : ∃ F, fmtR R = F := ⟨_, rfl⟩
    obtain ⟨F1, hF1⟩ : ∃ F, fmtR r = F := ⟨_, rfl⟩
    rw [hF0] at HC0 HCR
    rw [hF1] at HC1 HCR
    have HF : Hid (crB d xs r = crE F0 F1) := by show _ = _; rw [HCR.out, hok, Bool.true_and]
    obtain ⟨E, hE⟩ : ∃ E, crE F0 F1 = E := ⟨_, rfl⟩
    have e1 : (F0.toList == F1.toList) = E := hE
    have e2 : (F1.toList == F0.toList) = E := by rw [← hE]; unfold crE; rw [Bool.eq_iff_iff, beq_iff_eq, beq_iff_eq]; exact eq_comm
    rw [hE] at HF
    clear HCR hok hF0 hF1 hE
    go_wp2_with fail
    rw [← HWD.out]
    go_region_held3 (fun W => Below wD.heap.size wD W) (first | exact ld | exact k2 | exact k1 | fail) (first | (go_at_call 23; first | ((with_reducible refine (HC1.out _ k1).mono ?_); rintro e u2 ⟨rfl, z2⟩; have k2 := later_trans k1 z2) | ((with_reducible refine (HC0.out _ ld).mono ?_); rintro e u1 ⟨rfl, z1⟩; have k1 := later_trans ld z1) | fail) | fail)
    all_goals
      go_wp2_with fail
      go_ret
      exact ⟨by rw [HF.out]; rfl, later_trans HLD.out k2⟩

set_option maxRecDepth 100000 in
set_option maxHeartbeats 1600000 in
theorem spec_CheckReport (v vb vr : Value) (d : Dy) (xs : List Ltr) (r : Rpt) (w : World) (hv : rdD w w.heap.size v d) (hb : rd w w.heap.size vb xs) (hr : rdR w w.heap.size vr r) (hle : rptLe r 1048576) :
    Calls Tryz.prog 7 #[v, vb, vr] w fun e w' => e = .returned (.bool (crB d xs r)) ∧ Below w.heap.size w w' := by
  obtain ⟨D0, d0, D1, d1, D2, d2, e0⟩ := openD hv
  obtain ⟨A0, a0, A1, a1, A2, a2, A3, a3, e1⟩ := openR hr
  obtain ⟨wa, hwa⟩ : ∃ u, u = w.alloc (Obj.cells #[.int .i64 d.plan.bins, .int .i64 d.plan.passes, .slice D0 d.plan.order.length d0, .slice D1 d.fwds.length d1, .slice D2 d.held.length d2, .int .i64 d.size] 28) := ⟨_, rfl⟩
  obtain ⟨w0, hw0⟩ : ∃ u, u = wa.alloc (Obj.cells #[.slice A0 r.round.length a0, .slice A1 r.strange.length a1, .slice A2 r.held.length a2, .slice A3 r.stuck.length a3] 31) := ⟨_, rfl⟩
  have la := (box_later hw0).1
  have q0 := fun W h => box_cells hwa 0 (.int .i64 d.plan.bins) rfl W (later_trans la h)
  have q1 := fun W h => box_cells hwa 1 (.int .i64 d.plan.passes) rfl W (later_trans la h)
  have q2 := fun W h => box_cells hwa 2 (.slice D0 d.plan.order.length d0) rfl W (later_trans la h)
  have q3 := fun W h => box_cells hwa 3 (.slice D1 d.fwds.length d1) rfl W (later_trans la h)
  have q4 := fun W h => box_cells hwa 4 (.slice D2 d.held.length d2) rfl W (later_trans la h)
  have q5 := fun W h => box_cells hwa 5 (.int .i64 d.size) rfl W (later_trans la h)
  have r0 := box_cells hw0 0 (.slice A0 r.round.length a0) rfl
  have r1 := box_cells hw0 1 (.slice A1 r.strange.length a1) rfl
  have r2 := box_cells hw0 2 (.slice A2 r.held.length a2) rfl
  have r3 := box_cells hw0 3 (.slice A3 r.stuck.length a3) rfl
  have HT := Lib.hid (later_trans (box_later hwa).1 la)
  have HV := Lib.hid (hv.on HT.out)
  have HR := Lib.hid (hr.on HT.out)
  have HB := Lib.hid (hb.on HT.out)
  have HLE := Lib.hid hle
  clear hle
  have hza : wa.heap.size = w.heap.size + 1 := by subst hwa; simp
  rw [hza] at r0 r1 r2 r3
  obtain ⟨Ab, nb, cb, rfl, hnb, _, _, _⟩ := hb
  subst hnb
  subst e0 e1
  have HWA := Lib.hid hwa; have HW0 := Lib.hid hw0
  clear hwa hw0 hv hr la hza
  have l0 := Below.refl w0.heap.size w0
  go_enter Tryz.func7, Tryz.ntmps7
  go_wp2_with fail
  rw [← HWA.out, ← HW0.out]
  refine (spec_RunDay _ _ d xs _ (HV.out.on l0) (HB.out.on l0)).mono ?_
  rintro e w1 ⟨vR, rfl, oR, b1⟩
  have l1 := later_trans l0 b1
  have HCR : Hid (crB d xs r = (rdOk d xs && crE (fmtR (rptOf d xs)) (fmtR r))) := rfl
  have HLN := rptOf_len d xs
  generalize rptOf d xs = R at *
  have hoR := oR.rd
  obtain ⟨B0, b0, B1, bb1, B2, b2, B3, b3, rfl⟩ := openR hoR
  obtain ⟨wD, hwD⟩ : ∃ u, u = w1.alloc (Obj.cells #[.slice B0 R.round.length b0, .slice B1 R.strange.length bb1, .slice B2 R.held.length b2, .slice B3 R.stuck.length b3] 31) := ⟨_, rfl⟩
  have s0 := box_cells hwD 0 (.slice B0 R.round.length b0) rfl
  have s1 := box_cells hwD 1 (.slice B1 R.strange.length bb1) rfl
  have s2 := box_cells hwD 2 (.slice B2 R.held.length b2) rfl
  have s3 := box_cells hwD 3 (.slice B3 R.stuck.length b3) rfl
  have hD := (box_later hwD).1
  have lD := later_trans l1 hD
  have HO := Lib.hid (hoR.on hD)
  have HWD := Lib.hid hwD
  clear hwD oR hoR l1 b1 q0 q1 q2 q3 q4 q5 hD
  have ld := later_drew (Below.refl wD.heap.size wD)
  have y0 := fun W (h : Below wD.heap.size wD W) => r0 W (later_trans lD h)
  have y1 := fun W (h : Below wD.heap.size wD W) => r1 W (later_trans lD h)
  have y2 := fun W (h : Below wD.heap.size wD W) => r2 W (later_trans lD h)
  have y3 := fun W (h : Below wD.heap.size wD W) => r3 W (later_trans lD h)
  have HC0 := Lib.hid (fun W (h : Below wD.heap.size wD W) => spec_FormatReport_len _ R W (HO.out.on h) ⟨by omega, by omega, by omega, by omega⟩)
  have HC1 := Lib.hid (fun W (h : Below wD.heap.size wD W) => spec_FormatReport_len _ r W (HR.out.on (later_trans lD h)) HLE.out)
  have HLD := Lib.hid (later_trans HT.out lD)
  clear r0 r1 r2 r3 lD
  cases hok : rdOk d xs
  · have HF : Hid (crB d xs r = false) := by show _ = _; rw [HCR.out, hok]; rfl
    clear HCR hok
    go_wp2_with fail
    rw [← HWD.out]
    go_quiet (fail)
    go_wp2
    go_ret
    exact ⟨by rw [HF.out]; rfl, later_trans HLD.out (below_drewN (Below.refl wD.heap.size wD) _)⟩
  · obtain ⟨F0, hF0⟩ : ∃ F, fmtR R = F := ⟨_, rfl⟩
    obtain ⟨F1, hF1⟩ : ∃ F, fmtR r = F := ⟨_, rfl⟩
    rw [hF0] at HC0 HCR
    rw [hF1] at HC1 HCR
    have HF : Hid (crB d xs r = crE F0 F1) := by show _ = _; rw [HCR.out, hok, Bool.true_and]
    obtain ⟨E, hE⟩ : ∃ E, crE F0 F1 = E := ⟨_, rfl⟩
    have e1 : (F0.toList == F1.toList) = E := hE
    have e2 : (F1.toList == F0.toList) = E := by rw [← hE]; unfold crE; rw [Bool.eq_iff_iff, beq_iff_eq, beq_iff_eq]; exact eq_comm
    rw [hE] at HF
    clear HCR hok hF0 hF1 hE
    go_wp2_with fail
    rw [← HWD.out]
    go_region_held3 (fun W => Below wD.heap.size wD W) (first | exact ld | exact k2 | exact k1 | fail) (first | (go_at_call 24; first | ((with_reducible refine (HC0.out _ k1).mono ?_); rintro e u2 ⟨rfl, z2⟩; have k2 := later_trans k1 z2) | ((with_reducible refine (HC1.out _ ld).mono ?_); rintro e u1 ⟨rfl, z1⟩; have k1 := later_trans ld z1) | fail) | fail)
    all_goals
      go_wp2_with fail
      go_ret
      exact ⟨by rw [HF.out]; rfl, later_trans HLD.out k2⟩

end Go.Proofs.YtffbcfaahegglaaGreatDoor

namespace Go.Proofs.YtffbcfaahegglaaGreatDoor
open Go.ChangeShapes Go.WideShapes Go.ChangeAt Go.RowKit

set_option maxRecDepth 100000 in
theorem cellsPln {H : Type} (enc : TypeId × Value → H) (w : World) (spare : Nat → Bool) (held : Bool) (fuel : Nat) (cs : List Value) (x : DataW H × List MemPlace)
    (h : DataW.trod enc Tryz.prog w 0 spare held fuel 39 cs = some x) : ∃ (p : Pln) (vo : Value), cs = [.int .i64 p.bins, .int .i64 p.passes, vo] ∧ isI64 p.bins ∧ isI64 p.passes ∧ rd w w.heap.size vo p.order := by
  obtain ⟨hl, hf⟩ := trod_fields Tryz.underlying39 h
  obtain ⟨c0, c1, c2, hcs⟩ := list3 (hl.trans (by kernel_rfl))
  rw [hcs] at hf
  obtain ⟨n0, y0, h0⟩ := hf 0 _ rfl
  obtain ⟨n1, y1, h1⟩ := hf 1 _ rfl
  obtain ⟨n2, y2, h2⟩ := hf 2 _ rfl
  obtain ⟨i, e0, _, wi⟩ := DataW.trod_int Tryz.underlying3 (h0 : DataW.trod enc Tryz.prog w 0 spare held n0 3 [c0] = some y0)
  obtain ⟨j, e1, _, wj⟩ := DataW.trod_int Tryz.underlying3 (h1 : DataW.trod enc Tryz.prog w 0 spare held n1 3 [c1] = some y1)
  obtain ⟨xs, hx⟩ := opens_row (α := ByteArray) Tryz.underlying23 (by kernel_rfl) (by decide) opensStr (h2 : DataW.trod enc Tryz.prog w 0 spare held n2 23 [c2] = some y2)
  injection e0 with e0
  injection e1 with e1
  subst e0 e1
  exact ⟨⟨i, j, xs⟩, c2, hcs, wf_range wi, wf_range wj, hx⟩

set_option maxRecDepth 100000 in
theorem opensDy {H : Type} (enc : TypeId × Value → H) (w : World) (spare : Nat → Bool) (held : Bool) (fuel : Nat) (cs : Array Value) (x : DataW H × List MemPlace)
    (h : DataW.trod enc Tryz.prog w 0 spare held fuel 42 (Value.agg cs).cells.toList = some x) : ∃ d : Dy, rdD w w.heap.size (.agg cs) d := by
  obtain ⟨hl, hf⟩ := trod_fields Tryz.underlying42 h
  obtain ⟨c0, c1, c2, c3, c4, c5, hcs⟩ := list6 (hl.trans (by kernel_rfl))
  rw [hcs] at hf
  obtain ⟨n0, y0, h0⟩ := hf 0 _ rfl
  obtain ⟨n1, y1, h1⟩ := hf 1 _ rfl
  obtain ⟨n2, y2, h2⟩ := hf 2 _ rfl
  obtain ⟨n3, y3, h3⟩ := hf 3 _ rfl
  obtain ⟨p, vo, e0, p1, p2, p3⟩ := cellsPln enc w spare held n0 [c0, c1, c2] y0 h0
  obtain ⟨fs, hfs⟩ := opens_row (α := Fwd) Tryz.underlying40 (by kernel_rfl) (by decide) opensFwd (h1 : DataW.trod enc Tryz.prog w 0 spare held n1 40 [c3] = some y1)
  obtain ⟨hs, hhs⟩ := opens_row (α := ByteArray) Tryz.underlying23 (by kernel_rfl) (by decide) opensStr (h2 : DataW.trod enc Tryz.prog w 0 spare held n2 23 [c4] = some y2)
  obtain ⟨i, e3, _, wi⟩ := DataW.trod_int Tryz.underlying3 (h3 : DataW.trod enc Tryz.prog w 0 spare held n3 3 [c5] = some y3)
  simp only [List.cons.injEq, and_true] at e0
  obtain ⟨rfl, rfl, rfl⟩ := e0
  injection e3 with e3
  subst e3
  refine ⟨⟨p, fs, hs, i⟩, c2, c3, c4, ?_, p1, p2, wf_range wi, p3, hfs, hhs⟩
  obtain ⟨l⟩ := cs
  have : l = [Value.int .i64 p.bins, Value.int .i64 p.passes, c2, c3, c4, Value.int .i64 i] := by simpa [Value.cells] using hcs
  rw [this]

end Go.Proofs.YtffbcfaahegglaaGreatDoor
