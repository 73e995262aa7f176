/- DT3 R0 R1 R3 R4 -/
import Derived.Test.YtiaepapdofcnjaaQ29
import Derived.Test.YtiaepapdofcnjaaQ1
import Derived.ProofKit
import Derived.OpenShut
import Derived.ShutString
import Derived.ChangeOld
import Derived.Deep.Slices
import Derived.Deep.Fields
import Derived.ChangeSame
import Derived.Test.YtiaepapdofcnjaaQ2
import Derived.Test.YtiaepapdofcnjaaQ3
namespace Go.Proofs.Ytiaepapdofcnjaa
open Go.RowKit

theorem impl_FillTrays (vb : Value) (xs : List Ltr) (s : Int) (w : World) (hb : rd w w.heap.size vb xs) :
    Calls Try.prog 108 #[vb, .int .i64 s] w fun e w' => ∃ v', e = .returned (.tuple #[v', .bool (ftOk s xs)]) ∧ ownLL 29 103 w.heap.size w' v' (ftRows s xs) ∧ Below w.heap.size w w' := by
  have HB := Lib.hid hb; clear hb
  go_enter Try.func108, Try.ntmps108
  go_wp2_with fail
  refine (impl_FillByPrefix0 _ xs s _ HB.out).mono ?_
  rintro e w1 ⟨v1, rfl, o1, b1⟩
  have O1 := Lib.hid o1; clear o1
  go_wp2_with fail
  go_ret2
  exact ⟨_, rfl, O1.out, b1⟩

set_option maxRecDepth 100000 in
set_option maxHeartbeats 800000 in
theorem spec_l5RawFillTrays (vb : Value) (xs : List Ltr) (s : Int) (w : World) (hb : rd w w.heap.size vb xs) :
    Calls Try.prog 190 #[vb, .int .i64 s] w fun e w' => ∃ v', e = .returned (.tuple #[v', .bool (ftOk s xs)]) ∧ rd w' w'.heap.size v' (ftRows s xs) ∧ Below w.heap.size w w' := by
  have HB := Lib.hid hb; clear hb
  have HQ : Hid (ftOk s xs = (okB xs && sizeOk s)) := rfl
  have HNO : Hid (∀ h : ftOk s xs = false, ftRows s xs = []) := fun h => by unfold ftRows; rw [h]; rfl
  have HEM : Hid (∀ W : World, rd (W.alloc (.cells #[] 29)) (W.alloc (.cells #[] 29)).heap.size (.slice (some ⟨W.heap.size, 0, none⟩) 0 0) ([] : List (List Ltr))) := fun W =>
    ownLL.rd (T1 := 29) (T2 := 103) (base := W.heap.size) ⟨[], own.made0 W _ (Nat.le_refl _), rfl, fun k h => absurd h (Nat.not_lt_zero k), fun j k h => absurd h (Nat.not_lt_zero j), fun k h => absurd h (Nat.not_lt_zero k)⟩
  go_enter Try.func190, Try.ntmps190
  go_wp2_with fail
  refine (spec_BatchValid _ xs _ HB.out).mono ?_
  rintro e w1 ⟨rfl, b1⟩
  cases h1 : okB xs
  · have HF : Hid (ftOk s xs = false) := by show _ = _; rw [HQ.out, h1]; rfl
    clear h1
    have E1 := Lib.hid (HEM.out w1)
    go_wp2_with fail
    go_ret2
    exact ⟨_, ret_tup (by rw [HF.out] <;> rfl), by rw [HNO.out HF.out]; exact E1.out, later_alloc b1 _⟩
  have hxl := okB_len' h1
  have H1 := Lib.hid h1; clear h1
  go_wp2_with fail
  refine (spec_l5Size s _).mono ?_
  rintro e w2 ⟨rfl, rfl⟩
  cases h2 : sizeOk s
  · have HF : Hid (ftOk s xs = false) := by show _ = _; rw [HQ.out, h2, Bool.and_false]
    clear h2
    have E1 := Lib.hid (HEM.out w1)
    go_wp2_with fail
    go_ret2
    exact ⟨_, ret_tup (by rw [HF.out] <;> rfl), by rw [HNO.out HF.out]; exact E1.out, later_alloc b1 _⟩
  have HF : Hid (ftOk s xs = true) := by show _ = _; rw [HQ.out, h2, H1.out]; rfl
  have HY : Hid (ftRows s xs = trayTo s xs) := by show _ = _; unfold ftRows; rw [if_pos HF.out]
  clear h2
  go_wp2_with fail
  refine (spec_l5Fill0 _ xs s _ (HB.out.on b1) hxl).mono ?_
  rintro e w3 ⟨v3, rfl, o3, b3⟩
  have O3 := Lib.hid o3.rd; clear o3
  have l3 := later_trans b1 b3
  go_wp2_with fail
  go_ret2
  exact ⟨_, ret_tup (by rw [HF.out] <;> rfl), by rw [HY.out]; exact O3.out, l3⟩

theorem spec_FillTrays (vb : Value) (xs : List Ltr) (s : Int) (w : World) (hb : rd w w.heap.size vb xs) :
    Calls Try.prog 158 #[vb, .int .i64 s] w fun e w' => ∃ v', e = .returned (.tuple #[v', .bool (ftOk s xs)]) ∧ ownLL 29 103 w.heap.size w' v' (ftRows s xs) ∧ Below w.heap.size w w' := by
  have HB := Lib.hid hb; clear hb
  have HL := Lib.hid (ftRows_len s xs)
  go_enter Try.func158, Try.ntmps158
  go_wp2_with fail
  refine (spec_l5RawFillTrays _ xs s _ HB.out).mono ?_
  rintro e w1 ⟨v1, rfl, r1, b1⟩
  have R1 := Lib.hid r1; clear r1
  go_wp2_with fail
  refine (spec_ownLL _ (ftRows s xs) _ R1.out (by have := HL.out; omega) (by have := HL.out; omega)).mono ?_
  rintro e w2 ⟨v2, vs, rfl, o2, b2⟩
  have O2 := Lib.hid (o2.base_ b1.size); clear o2
  have l2 := later_trans b1 b2
  go_wp2_with fail
  go_ret2
  exact ⟨_, rfl, ⟨vs, O2.out⟩, l2⟩

set_option maxRecDepth 100000 in
set_option maxHeartbeats 1600000 in
theorem impl_DayTrays (v vb : Value) (d : Dy) (xs : List Ltr) (w : World) (hv : rdD w w.heap.size v d) (hb : rd w w.heap.size vb xs) :
    Calls Try.prog 49 #[v, vb] w fun e w' => ∃ v', e = .returned (.tuple #[v', .bool (dtOk d xs)]) ∧ ownLL 29 103 w.heap.size w' v' (dtRows d xs) ∧ Below w.heap.size w w' := by
  obtain ⟨A0, c0, A1, c1, A2, c2, e0⟩ := openD hv
  obtain ⟨w0, hw0⟩ : ∃ w0, w0 = w.alloc (Obj.cells #[.int .i64 d.plan.bins, .int .i64 d.plan.passes, .slice A0 d.plan.order.length c0, .slice A1 d.fwds.length c1, .slice A2 d.held.length c2, .int .i64 d.size] 65) := ⟨_, rfl⟩
  have q0 := box_cells hw0 0 (.int .i64 d.plan.bins) rfl
  have q1 := box_cells hw0 1 (.int .i64 d.plan.passes) rfl
  have q2 := box_cells hw0 2 (.slice A0 d.plan.order.length c0) rfl
  have q3 := box_cells hw0 3 (.slice A1 d.fwds.length c1) rfl
  have q4 := box_cells hw0 4 (.slice A2 d.held.length c2) rfl
  have q5 := box_cells hw0 5 (.int .i64 d.size) rfl
  have HT := Lib.hid (box_later hw0).1
  have hv1 := hv.on HT.out
  subst e0
  have HD := Lib.hid hv1
  have HB := Lib.hid (hb.on HT.out)
  have HW0 := Lib.hid hw0; clear hw0 hb hv hv1
  have l0 := Below.refl w0.heap.size w0
  have hwlt : w.heap.size ≤ w0.heap.size := HT.out.size
  have HQ : Hid (dtOk d xs = (rdOk d xs && ftOk d.size (rptOf d xs).round)) := rfl
  go_enter Try.func49, Try.ntmps49
  go_wp2_with fail
  rw [← HW0.out]
  refine (impl_RunDay' _ _ d xs _ HD.out HB.out).mono ?_
  rintro e w1 ⟨vR, rfl, oR, b1⟩
  have l1 := later_trans l0 b1
  have hrp := oR.rd
  obtain ⟨R0, r0, R1, r1, R2, r2, R3, r3, eR⟩ := openR hrp
  subst eR
  obtain ⟨pr, _, _, _⟩ := partsR hrp
  have PR := Lib.hid pr
  clear hrp pr oR b1
  cases h1 : rdOk d xs
  · have HF : Hid (dtOk d xs = false) := by show _ = _; rw [HQ.out, h1]; rfl
    have HE : Hid (dtRows d xs = []) := by show _ = _; unfold dtRows; rw [h1]; rfl
    clear h1
    go_wp2_with fail
    go_ret2
    exact ⟨_, ret_tup (by rw [HF.out] <;> rfl), by rw [HE.out]; exact ⟨[], isLL_nil _ _ _ _⟩, later_trans HT.out (later_alloc l1 _)⟩
  have HF : Hid (dtOk d xs = ftOk d.size (rptOf d xs).round) := by show _ = _; rw [HQ.out, h1]; rfl
  have HE : Hid (dtRows d xs = ftRows d.size (rptOf d xs).round) := by show _ = _; unfold dtRows; rw [h1]; rfl
  clear h1
  obtain ⟨wb, hwb⟩ : ∃ u, u = w1.alloc (Obj.cells #[.slice R0 (rptOf d xs).round.length r0, .slice R1 (rptOf d xs).strange.length r1, .slice R2 (rptOf d xs).held.length r2, .slice R3 (rptOf d xs).stuck.length r3] 60) := ⟨_, rfl⟩
  have bx := (box_later hwb).1
  have lb := later_trans l1 bx
  have HWB := Lib.hid hwb; clear hwb
  go_wp2_with fail
  rw [← HWB.out]
  refine (impl_FillTrays _ (rptOf d xs).round d.size _ (PR.out.on bx)).mono ?_
  rintro e w2 ⟨v2, rfl, o2, b2⟩
  have l2 := later_trans lb b2
  have O2 := Lib.hid o2; clear o2 b2
  go_wp2_with fail
  go_ret2
  exact ⟨_, ret_tup (by rw [HF.out] <;> rfl), by rw [HE.out]; exact O2.out.base_ (Nat.le_trans hwlt lb.size), later_trans HT.out l2⟩

set_option maxRecDepth 100000 in
set_option maxHeartbeats 1600000 in
theorem spec_l8RawDayTrays (v vb : Value) (d : Dy) (xs : List Ltr) (w : World) (hv : rdD w w.heap.size v d) (hb : rd w w.heap.size vb xs) :
    Calls Try.prog 107 #[v, vb] w fun e w' => ∃ v', e = .returned (.tuple #[v', .bool (dtOk d xs)]) ∧ rd w' w'.heap.size v' (dtRows d xs) ∧ Below w.heap.size w w' := by
  obtain ⟨A0, c0, A1, c1, A2, c2, e0⟩ := openD hv
  obtain ⟨w0, hw0⟩ : ∃ w0, w0 = w.alloc (Obj.cells #[.int .i64 d.plan.bins, .int .i64 d.plan.passes, .slice A0 d.plan.order.length c0, .slice A1 d.fwds.length c1, .slice A2 d.held.length c2, .int .i64 d.size] 65) := ⟨_, rfl⟩
  have q0 := box_cells hw0 0 (.int .i64 d.plan.bins) rfl
  have q1 := box_cells hw0 1 (.int .i64 d.plan.passes) rfl
  have q2 := box_cells hw0 2 (.slice A0 d.plan.order.length c0) rfl
  have q3 := box_cells hw0 3 (.slice A1 d.fwds.length c1) rfl
  have q4 := box_cells hw0 4 (.slice A2 d.held.length c2) rfl
  have q5 := box_cells hw0 5 (.int .i64 d.size) rfl
  have HT := Lib.hid (box_later hw0).1
  have hv1 := hv.on HT.out
  subst e0
  have HD := Lib.hid hv1
  have HB := Lib.hid (hb.on HT.out)
  have HW0 := Lib.hid hw0; clear hw0 hb hv hv1
  have l0 := Below.refl w0.heap.size w0
  have hwlt : w.heap.size ≤ w0.heap.size := HT.out.size
  have HQ : Hid (dtOk d xs = (rdOk d xs && ftOk d.size (rptOf d xs).round)) := rfl
  go_enter Try.func107, Try.ntmps107
  go_wp2_with fail
  rw [← HW0.out]
  refine (spec_RunDay' _ _ d xs _ HD.out HB.out).mono ?_
  rintro e w1 ⟨vR, rfl, oR, b1⟩
  have l1 := later_trans l0 b1
  have hrp := oR.rd
  obtain ⟨R0, r0, R1, r1, R2, r2, R3, r3, eR⟩ := openR hrp
  subst eR
  obtain ⟨pr, _, _, _⟩ := partsR hrp
  have PR := Lib.hid pr
  clear hrp pr oR b1
  cases h1 : rdOk d xs
  · have HF : Hid (dtOk d xs = false) := by show _ = _; rw [HQ.out, h1]; rfl
    have HE : Hid (dtRows d xs = []) := by show _ = _; unfold dtRows; rw [h1]; rfl
    clear h1
    have E1 : Hid (∀ W : World, rd (W.alloc (.cells #[] 29)) (W.alloc (.cells #[] 29)).heap.size (.slice (some ⟨W.heap.size, 0, none⟩) 0 0) ([] : List (List Ltr))) := fun W =>
      ownLL.rd (T1 := 29) (T2 := 103) (base := W.heap.size) ⟨[], own.made0 W _ (Nat.le_refl _), rfl, fun k h => absurd h (Nat.not_lt_zero k), fun j k h => absurd h (Nat.not_lt_zero j), fun k h => absurd h (Nat.not_lt_zero k)⟩
    have E2 := Lib.hid (E1.out (w1.alloc (Obj.cells #[.slice R0 (rptOf d xs).round.length r0, .slice R1 (rptOf d xs).strange.length r1, .slice R2 (rptOf d xs).held.length r2, .slice R3 (rptOf d xs).stuck.length r3] 60)))
    go_wp2_with fail
    go_ret2
    refine ⟨_, ret_tup (by rw [HF.out] <;> rfl), ?_, later_trans HT.out (later_alloc (later_alloc l1 _) _)⟩
    rw [HE.out]
    simpa using E2.out
  have HF : Hid (dtOk d xs = ftOk d.size (rptOf d xs).round) := by show _ = _; rw [HQ.out, h1]; rfl
  have HE : Hid (dtRows d xs = ftRows d.size (rptOf d xs).round) := by show _ = _; unfold dtRows; rw [h1]; rfl
  clear h1
  obtain ⟨wb, hwb⟩ : ∃ u, u = w1.alloc (Obj.cells #[.slice R0 (rptOf d xs).round.length r0, .slice R1 (rptOf d xs).strange.length r1, .slice R2 (rptOf d xs).held.length r2, .slice R3 (rptOf d xs).stuck.length r3] 60) := ⟨_, rfl⟩
  have bx := (box_later hwb).1
  have lb := later_trans l1 bx
  have HWB := Lib.hid hwb; clear hwb
  go_wp2_with fail
  rw [← HWB.out]
  refine (spec_FillTrays _ (rptOf d xs).round d.size _ (PR.out.on bx)).mono ?_
  rintro e w2 ⟨v2, rfl, o2, b2⟩
  have l2 := later_trans lb b2
  have O2 := Lib.hid o2; clear o2 b2
  go_wp2_with fail
  go_ret2
  exact ⟨_, ret_tup (by rw [HF.out] <;> rfl), by rw [HE.out]; exact O2.out.rd, later_trans HT.out l2⟩

set_option maxRecDepth 100000 in
set_option maxHeartbeats 800000 in
theorem spec_DayTrays (v vb : Value) (d : Dy) (xs : List Ltr) (w : World) (hv : rdD w w.heap.size v d) (hb : rd w w.heap.size vb xs) :
    Calls Try.prog 48 #[v, vb] w fun e w' => ∃ v', e = .returned (.tuple #[v', .bool (dtOk d xs)]) ∧ ownLL 29 103 w.heap.size w' v' (dtRows d xs) ∧ Below w.heap.size w w' := by
  obtain ⟨A0, c0, A1, c1, A2, c2, e0⟩ := openD hv
  obtain ⟨w0, hw0⟩ : ∃ w0, w0 = w.alloc (Obj.cells #[.int .i64 d.plan.bins, .int .i64 d.plan.passes, .slice A0 d.plan.order.length c0, .slice A1 d.fwds.length c1, .slice A2 d.held.length c2, .int .i64 d.size] 65) := ⟨_, rfl⟩
  have q0 := box_cells hw0 0 (.int .i64 d.plan.bins) rfl
  have q1 := box_cells hw0 1 (.int .i64 d.plan.passes) rfl
  have q2 := box_cells hw0 2 (.slice A0 d.plan.order.length c0) rfl
  have q3 := box_cells hw0 3 (.slice A1 d.fwds.length c1) rfl
  have q4 := box_cells hw0 4 (.slice A2 d.held.length c2) rfl
  have q5 := box_cells hw0 5 (.int .i64 d.size) rfl
  have HT := Lib.hid (box_later hw0).1
  have hv1 := hv.on HT.out
  subst e0
  have HD := Lib.hid hv1
  have HB := Lib.hid (hb.on HT.out)
  have HW0 := Lib.hid hw0; clear hw0 hb hv hv1
  have l0 := Below.refl w0.heap.size w0
  have hwlt : w.heap.size ≤ w0.heap.size := HT.out.size
  have HL := Lib.hid (dtRows_len d xs)
  go_enter Try.func48, Try.ntmps48
  go_wp2_with fail
  rw [← HW0.out]
  refine (spec_l8RawDayTrays _ _ d xs _ HD.out HB.out).mono ?_
  rintro e w1 ⟨v1, rfl, r1, b1⟩
  have l1 := later_trans l0 b1
  have R1 := Lib.hid r1; clear r1
  go_wp2_with fail
  refine (spec_ownLL _ (dtRows d xs) _ R1.out (by have := HL.out; omega) (by have := HL.out; omega)).mono ?_
  rintro e w2 ⟨v2, vs, rfl, o2, b2⟩
  have l2 := later_trans l1 b2
  have O2 := Lib.hid (o2.base_ (Nat.le_trans hwlt l1.size)); clear o2
  go_wp2_with fail
  go_ret2
  exact ⟨_, rfl, ⟨vs, O2.out⟩, later_trans HT.out l2⟩

end Go.Proofs.Ytiaepapdofcnjaa

namespace Go.Proofs.Ytiaepapdofcnjaa
open Go.RowKit Go.ChangeShapes Go.WideShapes Go.Deep

/-- Whatever reads at type t reads as some x of α. -/
def Opens (P : Program) (t : TypeId) (α : Type) [El α] : Prop :=
  ∀ {H : Type} (enc : TypeId × Value → H) (w : World) (spare : Nat → Bool) (held : Bool) (fuel : Nat) (cs : List Value) (x : DataW H × List MemPlace),
    DataW.trod enc P w 0 spare held fuel t cs = some x → ∃ y : α, El.el w w.heap.size y cs

theorem list_of {α : Type} {p : Nat → α → Prop} : ∀ {n : Nat}, (∀ i, i < n → ∃ y, p i y) → ∃ xs : List α, xs.length = n ∧ ∀ i (h : i < xs.length), p i xs[i]
  | 0, _ => ⟨[], rfl, fun i h => absurd h (Nat.not_lt_zero i)⟩
  | n + 1, h => by
    obtain ⟨xs, hl, hp⟩ := list_of (n := n) (fun i hi => h i (by omega))
    obtain ⟨y, hy⟩ := h n (by omega)
    refine ⟨xs ++ [y], by simp [hl], fun i hi => ?_⟩
    by_cases hin : i < xs.length
    · rw [List.getElem_append_left hin]
      exact hp i hin
    · have : i = n := by simp at hi; omega
      subst this
      rw [List.getElem_append_right (by omega)]
      simpa [hl] using hy

theorem opens_row {α : Type} [El α] {P : Program} {t e : TypeId} (ht : P.underlying t = some (.slice e)) (hc : P.cellsOf e = El.size α) (hs : 0 < El.size α) (ho : Opens P e α)
    {H : Type} {enc : TypeId × Value → H} {w : World} {spare : Nat → Bool} {held : Bool} {fuel : Nat} {v : Value} {x : DataW H × List MemPlace}
    (h : DataW.trod enc P w 0 spare held fuel t [v] = some x) : ∃ xs : List α, rd w w.heap.size v xs := by
  rcases open_slice ht h with ⟨h0, _⟩ | ⟨a, len, cap, m, n, D, Pl, hcs, hb, hl, hm, hmm, hx, hi⟩
  · injection h0 with h0
    subst h0
    exact ⟨[], rd.nil_⟩
  · injection hcs with hv
    subst hv
    obtain ⟨xs, hxl, hxp⟩ := list_of (n := len) (p := fun i (y : α) => ∃ cs : List Value, El.el w w.heap.size y cs ∧ ∀ j u, cs[j]? = some u → w.cell? (a.add (i * El.size α + j)) = some u) (fun i hil => by
      obtain ⟨cs', hcc, hd⟩ := hi i (by rw [hmm]; split <;> omega)
      obtain ⟨y, hy⟩ := ho enc w spare held n cs' _ hd
      obtain ⟨_, hcl, hat⟩ := World.cells?_some hcc
      refine ⟨y, cs', hy, fun j u hu => ?_⟩
      have hj : j < P.cellsOf e := by
        rw [← hcl]
        exact (List.getElem?_eq_some_iff.1 hu).1
      have := hat j hj
      rw [← add_add, ← hc, this, hu])
    refine ⟨xs, some a, len, cap, rfl, hxl.symm, hl, hm, fun k hk => ?_⟩
    obtain ⟨cs, hel, hcell⟩ := hxp k hk
    have h0 : cs[0]? = some (cs[0]'(by rw [El.len hel]; exact hs)) := List.getElem?_eq_getElem _
    obtain ⟨b, o, spot⟩ := a
    have hc0 := hcell 0 _ h0
    have hspot : spot = none := by
      have h1 := hxp 0 (by omega)
      obtain ⟨cs1, hel1, hcell1⟩ := h1
      have h01 : cs1[0]? = some (cs1[0]'(by rw [El.len hel1]; exact hs)) := List.getElem?_eq_getElem _
      have := World.cell?_spot (hcell1 0 _ h01)
      simpa [Addr.add] using this
    subst hspot
    have hlt := World.block_lt_of_cell? _ _ hc0
    rw [block_of_add] at hlt
    exact ⟨b, o, cs, rfl, hlt, hel, fun j u hu => by have := hcell j u hu; rwa [add_lit] at this⟩

/-- The cells of a struct, field by field. -/
theorem trod_fields {H : Type} {enc : TypeId × Value → H} {P : Program} {w : World} {base : Nat} {spare : Nat → Bool} {held : Bool} {t : TypeId} {fs : Array Field} {fuel : Nat} {cs : List Value} {x : DataW H × List MemPlace}
    (ht : P.underlying t = some (.struct fs)) (h : DataW.trod enc P w base spare held fuel t cs = some x) :
    cs.length = P.cellsOf t ∧ ∀ (i : Nat) (f : Field), fs[i]? = some f → ∃ n y, DataW.trod enc P w base spare held n f.type ((cs.drop f.offset).take (P.cellsOf f.type)) = some y := by
  obtain ⟨xs, n, _, _, hlen, hl, hf⟩ := DataW.trod_struct ht h
  refine ⟨hlen, fun i f hi => ?_⟩
  have hil : i < xs.length := by rw [hl]; exact (Array.getElem?_eq_some_iff.1 hi).1
  exact ⟨n, xs[i], by rw [hf i f hi]; exact List.getElem?_eq_getElem hil⟩
theorem list2 {α : Type} {l : List α} (h : l.length = 2) : ∃ a b, l = [a, b] := by
  match l, h with
  | [a, b], _ => exact ⟨a, b, rfl⟩
theorem list3 {α : Type} {l : List α} (h : l.length = 3) : ∃ a b c, l = [a, b, c] := by
  match l, h with
  | [a, b, c], _ => exact ⟨a, b, c, rfl⟩
theorem list4 {α : Type} {l : List α} (h : l.length = 4) : ∃ a b c d, l = [a, b, c, d] := by
  match l, h with
  | [a, b, c, d], _ => exact ⟨a, b, c, d, rfl⟩
theorem list6 {α : Type} {l : List α} (h : l.length = 6) : ∃ a b c d e f, l = [a, b, c, d, e, f] := by
  match l, h with
  | [a, b, c, d, e, f], _ => exact ⟨a, b, c, d, e, f, rfl⟩

end Go.Proofs.Ytiaepapdofcnjaa

namespace Go.Proofs.Ytiaepapdofcnjaa
open Go.ChangeShapes Go.WideShapes Go.ChangeAt Go.RowKit

set_option maxRecDepth 100000 in
theorem opensLtr : Opens Try.prog 108 Ltr := by
  intro H enc w spare held fuel cs x h
  obtain ⟨hl, hf⟩ := trod_fields Try.underlying108 h
  obtain ⟨c0, c1, rfl⟩ := list2 (hl.trans (by kernel_rfl))
  obtain ⟨n0, y0, h0⟩ := hf 0 _ rfl
  obtain ⟨n1, y1, h1⟩ := hf 1 _ rfl
  obtain ⟨i, e0, _, wi⟩ := DataW.trod_int Try.underlying3 (h0 : DataW.trod enc Try.prog w 0 spare held n0 3 [c0] = some y0)
  obtain ⟨s, e1, _, ws⟩ := DataW.trod_string Try.underlying9 (h1 : DataW.trod enc Try.prog w 0 spare held n1 9 [c1] = some y1)
  injection e0 with e0
  injection e1 with e1
  subst e0 e1
  exact ⟨⟨i, s⟩, ⟨wf_range wi, ws⟩, rfl⟩

end Go.Proofs.Ytiaepapdofcnjaa

namespace Go.Proofs.Ytiaepapdofcnjaa
open Go.ChangeShapes Go.WideShapes Go.ChangeAt Go.RowKit

set_option maxRecDepth 100000 in
theorem opensStr : Opens Try.prog 9 ByteArray := by
  intro H enc w spare held fuel cs x h
  obtain ⟨s, rfl, _, ws⟩ := DataW.trod_string Try.underlying9 h
  exact ⟨s, ws, rfl⟩

set_option maxRecDepth 100000 in
theorem opensMis : Opens Try.prog 111 Mis := by
  intro H enc w spare held fuel cs x h
  obtain ⟨hl, hf⟩ := trod_fields Try.underlying111 h
  obtain ⟨c0, c1, rfl⟩ := list2 (hl.trans (by kernel_rfl))
  obtain ⟨n0, y0, h0⟩ := hf 0 _ rfl
  obtain ⟨n1, y1, h1⟩ := hf 1 _ rfl
  obtain ⟨i, e0, _, wi⟩ := DataW.trod_int Try.underlying3 (h0 : DataW.trod enc Try.prog w 0 spare held n0 3 [c0] = some y0)
  obtain ⟨j, e1, _, wj⟩ := DataW.trod_int Try.underlying3 (h1 : DataW.trod enc Try.prog w 0 spare held n1 3 [c1] = some y1)
  injection e0 with e0
  injection e1 with e1
  subst e0 e1
  exact ⟨⟨i, j⟩, ⟨wf_range wi, wf_range wj⟩, rfl⟩

set_option maxRecDepth 100000 in
theorem opensFwd : Opens Try.prog 170 Fwd := by
  intro H enc w spare held fuel cs x h
  obtain ⟨hl, hf⟩ := trod_fields Try.underlying170 h
  obtain ⟨c0, c1, rfl⟩ := list2 (hl.trans (by kernel_rfl))
  obtain ⟨n0, y0, h0⟩ := hf 0 _ rfl
  obtain ⟨n1, y1, h1⟩ := hf 1 _ rfl
  obtain ⟨s, e0, _, ws⟩ := DataW.trod_string Try.underlying9 (h0 : DataW.trod enc Try.prog w 0 spare held n0 9 [c0] = some y0)
  obtain ⟨s', e1, _, ws'⟩ := DataW.trod_string Try.underlying9 (h1 : DataW.trod enc Try.prog w 0 spare held n1 9 [c1] = some y1)
  injection e0 with e0
  injection e1 with e1
  subst e0 e1
  exact ⟨⟨s, s'⟩, ⟨ws, ws'⟩, rfl⟩

set_option maxRecDepth 100000 in
theorem opensPln {H : Type} (enc : TypeId × Value → H) (w : World) (spare : Nat → Bool) (held : Bool) (fuel : Nat) (cs : Array Value) (x : DataW H × List MemPlace)
    (h : DataW.trod enc Try.prog w 0 spare held fuel 24 (Value.agg cs).cells.toList = some x) : ∃ p : Pln, rdP w w.heap.size (.agg cs) p := by
  obtain ⟨hl, hf⟩ := trod_fields Try.underlying24 h
  obtain ⟨c0, c1, c2, hcs⟩ := list3 (hl.trans (by kernel_rfl))
  rw [hcs] at hf
  obtain ⟨n0, y0, h0⟩ := hf 0 _ rfl
  obtain ⟨n1, y1, h1⟩ := hf 1 _ rfl
  obtain ⟨n2, y2, h2⟩ := hf 2 _ rfl
  obtain ⟨i, e0, _, wi⟩ := DataW.trod_int Try.underlying3 (h0 : DataW.trod enc Try.prog w 0 spare held n0 3 [c0] = some y0)
  obtain ⟨j, e1, _, wj⟩ := DataW.trod_int Try.underlying3 (h1 : DataW.trod enc Try.prog w 0 spare held n1 3 [c1] = some y1)
  obtain ⟨xs, hx⟩ := opens_row (α := ByteArray) Try.underlying22 (by kernel_rfl) (by decide) opensStr (h2 : DataW.trod enc Try.prog w 0 spare held n2 22 [c2] = some y2)
  injection e0 with e0
  injection e1 with e1
  subst e0 e1
  refine ⟨⟨i, j, xs⟩, c2, ?_, wf_range wi, wf_range wj, hx⟩
  obtain ⟨l⟩ := cs
  have : l = [Value.int .i64 i, Value.int .i64 j, c2] := by simpa [Value.cells] using hcs
  rw [this]

end Go.Proofs.Ytiaepapdofcnjaa

namespace Go.Proofs.Ytiaepapdofcnjaa
open Go.ChangeShapes Go.WideShapes Go.ChangeAt Go.RowKit

set_option maxRecDepth 100000 in
theorem cellsPln {H : Type} (enc : TypeId × Value → H) (w : World) (spare : Nat → Bool) (held : Bool) (fuel : Nat) (cs : List Value) (x : DataW H × List MemPlace)
    (h : DataW.trod enc Try.prog w 0 spare held fuel 24 cs = some x) : ∃ (p : Pln) (vo : Value), cs = [.int .i64 p.bins, .int .i64 p.passes, vo] ∧ isI64 p.bins ∧ isI64 p.passes ∧ rd w w.heap.size vo p.order := by
  obtain ⟨hl, hf⟩ := trod_fields Try.underlying24 h
  obtain ⟨c0, c1, c2, hcs⟩ := list3 (hl.trans (by kernel_rfl))
  rw [hcs] at hf
  obtain ⟨n0, y0, h0⟩ := hf 0 _ rfl
  obtain ⟨n1, y1, h1⟩ := hf 1 _ rfl
  obtain ⟨n2, y2, h2⟩ := hf 2 _ rfl
  obtain ⟨i, e0, _, wi⟩ := DataW.trod_int Try.underlying3 (h0 : DataW.trod enc Try.prog w 0 spare held n0 3 [c0] = some y0)
  obtain ⟨j, e1, _, wj⟩ := DataW.trod_int Try.underlying3 (h1 : DataW.trod enc Try.prog w 0 spare held n1 3 [c1] = some y1)
  obtain ⟨xs, hx⟩ := opens_row (α := ByteArray) Try.underlying22 (by kernel_rfl) (by decide) opensStr (h2 : DataW.trod enc Try.prog w 0 spare held n2 22 [c2] = some y2)
  injection e0 with e0
  injection e1 with e1
  subst e0 e1
  exact ⟨⟨i, j, xs⟩, c2, hcs, wf_range wi, wf_range wj, hx⟩

set_option maxRecDepth 100000 in
theorem opensDy {H : Type} (enc : TypeId × Value → H) (w : World) (spare : Nat → Bool) (held : Bool) (fuel : Nat) (cs : Array Value) (x : DataW H × List MemPlace)
    (h : DataW.trod enc Try.prog w 0 spare held fuel 57 (Value.agg cs).cells.toList = some x) : ∃ d : Dy, rdD w w.heap.size (.agg cs) d := by
  obtain ⟨hl, hf⟩ := trod_fields Try.underlying57 h
  obtain ⟨c0, c1, c2, c3, c4, c5, hcs⟩ := list6 (hl.trans (by kernel_rfl))
  rw [hcs] at hf
  obtain ⟨n0, y0, h0⟩ := hf 0 _ rfl
  obtain ⟨n1, y1, h1⟩ := hf 1 _ rfl
  obtain ⟨n2, y2, h2⟩ := hf 2 _ rfl
  obtain ⟨n3, y3, h3⟩ := hf 3 _ rfl
  obtain ⟨p, vo, e0, p1, p2, p3⟩ := cellsPln enc w spare held n0 [c0, c1, c2] y0 h0
  obtain ⟨fs, hfs⟩ := opens_row (α := Fwd) Try.underlying55 (by kernel_rfl) (by decide) opensFwd (h1 : DataW.trod enc Try.prog w 0 spare held n1 55 [c3] = some y1)
  obtain ⟨hs, hhs⟩ := opens_row (α := ByteArray) Try.underlying22 (by kernel_rfl) (by decide) opensStr (h2 : DataW.trod enc Try.prog w 0 spare held n2 22 [c4] = some y2)
  obtain ⟨i, e3, _, wi⟩ := DataW.trod_int Try.underlying3 (h3 : DataW.trod enc Try.prog w 0 spare held n3 3 [c5] = some y3)
  simp only [List.cons.injEq, and_true] at e0
  obtain ⟨rfl, rfl, rfl⟩ := e0
  injection e3 with e3
  subst e3
  refine ⟨⟨p, fs, hs, i⟩, c2, c3, c4, ?_, p1, p2, wf_range wi, p3, hfs, hhs⟩
  obtain ⟨l⟩ := cs
  have : l = [Value.int .i64 p.bins, Value.int .i64 p.passes, c2, c3, c4, Value.int .i64 i] := by simpa [Value.cells] using hcs
  rw [this]

end Go.Proofs.Ytiaepapdofcnjaa
