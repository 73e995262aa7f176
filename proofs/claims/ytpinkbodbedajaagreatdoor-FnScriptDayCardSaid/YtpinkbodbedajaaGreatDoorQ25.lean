/- KD KE KF FD FE FG KJ KK -/
import Derived.Test.YtpinkbodbedajaaGreatDoorQ21
import Derived.Test.YtpinkbodbedajaaGreatDoorQ9
import Derived.Test.YtpinkbodbedajaaGreatDoorQ24
import Derived.Test.YtpinkbodbedajaaGreatDoorQ5
import Derived.Test.YtpinkbodbedajaaGreatDoorQ2
import Derived.Test.YtpinkbodbedajaaGreatDoorQ23
import Derived.Deep.RegionHeld3
import Derived.Test.YtpinkbodbedajaaGreatDoorQ15
import Derived.Test.YtpinkbodbedajaaGreatDoorQ8
import Derived.Test.YtpinkbodbedajaaGreatDoorQ16
namespace Go.Proofs.YtpinkbodbedajaaGreatDoor
open Go.RowKit

/-- Orders to forward as a text; nothing if they are not valid. -/
def fmtFo (fs : List Fwd) : ByteArray := if fwdsOk fs = true then (if fs.length = 0 then ⟨#[45]⟩ else joinT (fs.map fmtU) spT) else ⟨#[]⟩
theorem fmtFo_no {fs : List Fwd} (h : fwdsOk fs = false) : fmtFo fs = ⟨#[]⟩ := by unfold fmtFo; rw [h]; rfl
theorem fmtFo_empty {fs : List Fwd} (h : fwdsOk fs = true) (h0 : fs.length = 0) : fmtFo fs = ⟨#[45]⟩ := by unfold fmtFo; rw [if_pos h, if_pos h0]
theorem fmtFo_some {fs : List Fwd} (h : fwdsOk fs = true) (h0 : fs.length ≠ 0) : fmtFo fs = joinT (fs.map fmtU) spT := by unfold fmtFo; rw [if_pos h, if_neg h0]
theorem isCode_size {s : ByteArray} (h : isCode s = true) : s.size = 7 := by unfold isCode at h; rw [Bool.and_eq_true, beq_iff_eq] at h; exact h.1
theorem fwd_sizes {fs : List Fwd} (h : fwdsOk fs = true) {k : Nat} (hk : k < fs.length) : fs[k].src.size ≤ 7 ∧ 1 ≤ fs[k].dst.size ∧ fs[k].dst.size ≤ 8 := by
  have h1 := (fwdsOk_iff.1 h).2 k hk
  have c1 := isCode_size h1.1
  have c2 := isCode_size h1.2.1
  omega
theorem fwd_fmt {fs : List Fwd} (h : fwdsOk fs = true) : ∀ p ∈ fs.map fmtU, p.size ≤ 16 ∧ 1 ≤ p.size := fun p hp => by
  obtain ⟨x, hx, rfl⟩ := List.mem_map.1 hp
  obtain ⟨k, hk, rfl⟩ := List.getElem_of_mem hx
  have h1 := fwd_sizes h hk
  unfold fmtU
  rw [ByteArray.size_append, ByteArray.size_append]
  show _ + 1 + _ ≤ 16 ∧ 1 ≤ _ + 1 + _
  omega

set_option maxRecDepth 100000 in
set_option maxHeartbeats 1600000 in
theorem impl_FormatForwards (v : Value) (rs : List Fwd) (w : World) (hv : rd w w.heap.size v rs) :
    Calls Tryz.prog 14 #[v] w fun e w' => e = .returned (.string (fmtFo rs)) ∧ Below w.heap.size w w' := by
  have HV := Lib.hid hv
  obtain ⟨A, n, c, rfl, hn, hc, hm, hr⟩ := hv
  subst hn
  have HR := Lib.hid hr; clear hr
  obtain ⟨i0, hi, hz0, hz1, hz2⟩ := info_parts Tryz.infoStr
  have l0 := Below.refl w.heap.size w
  go_enter Tryz.func14, Tryz.ntmps14
  go_wp2_with fail
  refine (impl_ForwardsValid _ rs _ HV.out).mono ?_
  rintro e w1 ⟨rfl, b1⟩
  have l1 := b1
  clear b1 l0
  cases hok : fwdsOk rs
  · have HF := Lib.hid (fmtFo_no hok)
    clear hok
    go_wp2_with fail
    go_ret
    exact ⟨ret_str HF.out.symm, l1⟩
  have HOK := Lib.hid hok
  have h60 := (fwdsOk_iff.1 hok).1
  by_cases h0 : rs.length = 0
  · have HF := Lib.hid (fmtFo_empty hok h0)
    have hl0 : ((rs.length : Int) == 0) = true := by rw [h0]; rfl
    clear hok h0
    go_wp2_with fail
    go_ret
    exact ⟨ret_str HF.out.symm, l1⟩
  have HF := Lib.hid (fmtFo_some hok h0)
  have hl0 : ((rs.length : Int) == 0) = false := beq_eq_false_iff_ne.2 (by omega)
  have hpos : 0 < rs.length := by omega
  clear hok h0
  have hmk := make_row (P := Tryz.prog) 23 9 i0 _ Tryz.underlying23 hi hz0 rs.length (by rw [hz2]; omega) (by omega)
  go_wp2_with fail
  have hf0 : filled 9 (w1.alloc (Obj.cells (madeCells #[.string ⟨#[]⟩] rs.length) 9)) w1.heap.size rs.length 0 (rs.map fmtU) := filled.made w1 _ _ _ (by rw [size_madeCells]; exact (Nat.mul_one _).symm) _
  have hb0 : Below w1.heap.size w1 (w1.alloc (Obj.cells (madeCells #[.string ⟨#[]⟩] rs.length) 9)) := (Below.refl _ _).alloc (Nat.le_refl _) _
  generalize w1.alloc (Obj.cells (madeCells #[.string ⟨#[]⟩] rs.length) 9) = w0 at *
  clear hmk
  have HLN : Hid ((rs.map fmtU).length = rs.length) := by show _ = _; rw [List.length_map]
  go_loopw [17] (fun i wr => ∃ k : Nat, k ≤ rs.length ∧ i = .int .i64 k ∧ Below w1.heap.size w1 wr ∧ filled 9 wr w1.heap.size rs.length k (rs.map fmtU)) (fun i _ => rs.length - (intOf i).toNat)
  case atStart => exact ⟨0, Nat.zero_le _, rfl, hb0, hf0⟩
  case round =>
    obtain ⟨k, hk, rfl, hbl, hf⟩ := hrel
    obtain ⟨w2, rfl⟩ : ∃ w2 : World, w2 = wr := ⟨_, rfl⟩
    clear hf0 hb0
    have hs1 := l1.size
    by_cases hlt : k < rs.length
    · obtain ⟨b, o, rfl, hb, _, y1, y2⟩ := HR.out.fwdU k hlt
      have y1 := y1 w2 (later_trans l1 hbl)
      have y2 := y2 w2 (later_trans l1 hbl)
      have HSZ0 := Lib.hid (fwd_sizes HOK.out hlt)
      have hLk : (rs.map fmtU)[k]'(by rw [HLN.out]; exact hlt) = fmtU rs[k] := by simp
      have HSZ := Lib.hid (fwd_fmt HOK.out (fmtU rs[k]) (List.mem_map.2 ⟨_, List.getElem_mem hlt, rfl⟩))
      have HST := Lib.hid (fun (W : World) (hF : filled 9 W w1.heap.size rs.length k (rs.map fmtU)) => hF.step (by rw [HLN.out]; exact hlt) (by rw [HLN.out]; exact Nat.le_refl _) (ecs := [.string (fmtU rs[k])]) (by rw [hLk]; exact ⟨by have := HSZ.out.1; unfold maxLen; omega, rfl⟩))
      clear hLk
      generalize rs[k] = x at *
      obtain ⟨p, q⟩ := x
      have hsz := HSZ0.out
      simp only at hsz y1 y2
      obtain ⟨s1, _, s2⟩ := hsz
      have HFX : Hid (fmtU ⟨p, q⟩ = p ++ ⟨#[62]⟩ ++ q) := rfl
      have hki : (k : Int) < (rs.length : Int) := by omega
      have hki0 : (0 : Int) ≤ (k : Int) := by omega
      have hs2 := hbl.size
      have hne : w1.heap.size < w2.heap.size := by obtain ⟨cs, h1, _⟩ := hf; exact (Array.getElem?_eq_some_iff.1 h1).1
      have hs60 : ¬ 9223372036854775807 < p.size + 1 + q.size := by omega
      have hs61 : ¬ 9223372036854775807 < p.size + 1 := by omega
      have lb : Below w2.heap.size w2 (w2.alloc (Obj.cells #[.string p, .string q] 94)) := (Below.refl _ _).alloc (Nat.le_refl _) _
      have hf3 := hf.below lb
      obtain ⟨u0, g0⟩ := hf3.cell (j := k) (by show _ < _ * 1; omega)
      have f0 := hf3.free k
      have HF3 := Lib.hid hf
      have HLB := Lib.hid hbl
      clear hf3 hf
      go_wp2_with fail
      go_roundw
      case rel =>
        have := HST.out _ HF3.out
        rw [show k * El.size ByteArray = k from Nat.mul_one k, HFX.out] at this
        have hbs := HLB.out.trans (setAll_below [.string (p ++ ⟨#[62]⟩ ++ q)] _ k _ (Nat.le_refl _))
        exact ⟨k + 1, by omega, by go_num, hbs.alloc hbs.size _, this.below ((Below.refl _ _).alloc (Nat.le_refl _) _)⟩
      case measure => simp [intOf]; omega
    · have HE := Lib.hid (show k = rs.length by omega)
      have HO := Lib.hid ((HE.out ▸ hf : filled _ _ _ _ rs.length _).own HLN.out.symm (Nat.le_refl _) (by unfold maxLen; omega))
      clear hf
      have l2 := later_trans l1 hbl
      have hjz := joinT_size (rs.map fmtU) spT 16 fun p hp => (fwd_fmt HOK.out p hp).1
      rw [HLN.out] at hjz
      have hjz2 : rs.length * (16 + spT.size) ≤ 30 * 17 := Nat.mul_le_mul h60 (Nat.le_refl _)
      have HJ := Lib.hid (join_own (sep := spT) HO.out HLN.out.symm (by rw [HLN.out]; omega) (by omega))
      clear hjz hjz2
      go_wp2_with fail
      refine HJ.out.mono ?_
      rw [← HF.out]
      rintro e w3 ⟨rfl, b3⟩
      have l3 := later_trans l2 b3
      go_wp2_with fail
      go_ret
      exact ⟨rfl, l3⟩

end Go.Proofs.YtpinkbodbedajaaGreatDoor

namespace Go.Proofs.YtpinkbodbedajaaGreatDoor
open Go.RowKit

/-- A plan as a text; nothing if it is not valid. -/
def fmtPl (p : Pln) : ByteArray := if planOk p = true then decB p.bins.toNat ++ ⟨#[32]⟩ ++ decB p.passes.toNat ++ ⟨#[32]⟩ ++ joinT p.order spT else ⟨#[]⟩
theorem fmtPl_no {p : Pln} (h : planOk p = false) : fmtPl p = ⟨#[]⟩ := by unfold fmtPl; rw [h]; rfl
theorem fmtPl_yes {p : Pln} (h : planOk p = true) : fmtPl p = decB p.bins.toNat ++ ⟨#[32]⟩ ++ decB p.passes.toNat ++ ⟨#[32]⟩ ++ joinT p.order spT := by unfold fmtPl; rw [if_pos h]
theorem plan_codes {p : Pln} (h : planOk p = true) : ∀ c ∈ p.order, isCode c = true := fun c hc => by
  obtain ⟨k, hk, rfl⟩ := List.getElem_of_mem hc
  have h1 := List.all_eq_true.1 (show (List.range p.order.length).all (goodC p.order) = true from (planOk_iff.1 h).2.2.2) k (by simpa using hk)
  rw [goodC_of hk, Bool.and_eq_true] at h1
  exact h1.1
theorem order_size {p : Pln} (h : planOk p = true) : (joinT p.order spT).size ≤ 480 := by
  have h1 := joinT_size p.order spT 7 fun c hc => Nat.le_of_eq (code_mem (plan_codes h c hc)).1
  have h2 := (planOk_iff.1 h).2.1.2
  have h3 : p.order.length * (7 + spT.size) ≤ 60 * 8 := Nat.mul_le_mul h2 (Nat.le_refl _)
  omega

set_option maxRecDepth 100000 in
set_option maxHeartbeats 1600000 in
theorem impl_FormatPlan (v : Value) (p : Pln) (w : World) (hv : rdP w w.heap.size v p) (ht : TabW w) :
    Calls Tryz.prog 13 #[v] w fun e w' => e = .returned (.string (fmtPl p)) ∧ Below w.heap.size w w' := by
  obtain ⟨A, c, rfl⟩ := openP hv
  obtain ⟨w0, hw0⟩ : ∃ u, u = w.alloc (Obj.cells #[.int .i64 p.bins, .int .i64 p.passes, .slice A p.order.length c] 25) := ⟨_, rfl⟩
  have hb0 : w0.heap[w.heap.size]? = some (.cells #[.int .i64 p.bins, .int .i64 p.passes, .slice A p.order.length c] 25 (0, 0)) := by rw [hw0]; exact heap_alloc_new w _
  have hl0 : Below w.heap.size w w0 := by rw [hw0]; exact (Below.refl _ _).alloc (Nat.le_refl _) _
  have HPV := Lib.hid (impl_PlanValid _ p w0 (hv.on hl0))
  have HRD : Hid (∀ W, Below w.heap.size w W → rd W W.heap.size (.slice A p.order.length c) p.order) := fun W hW => by
    obtain ⟨vo, e, _, _, h⟩ := hv
    injection e with e
    injection e with e
    injection e with _ e
    injection e with _ e
    injection e with e _
    rw [e]
    exact h.on hW
  have HTB := Lib.hid ht
  have HW := Lib.hid hw0; clear hw0
  obtain ⟨q0, q1, q2, _, _, _⟩ := threeF hb0
  have HL0 := Lib.hid hl0; have HB0 := Lib.hid hb0
  clear hl0 hb0 hv ht
  go_enter Tryz.func13, Tryz.ntmps13
  go_wp2_with fail
  rw [← HW.out]
  refine HPV.out.mono ?_
  cases hp : planOk p
  · rintro e w1 ⟨rfl, b1⟩
    have HF := Lib.hid (fmtPl_no hp)
    have HL1 := Lib.hid (later_trans HL0.out b1)
    clear hp b1
    go_wp2_with fail
    go_ret
    exact ⟨ret_str HF.out.symm, HL1.out⟩
  · rintro e w1 ⟨rfl, b1⟩
    have hb1 := blk_below HB0.out b1
    have HL1 := Lib.hid (later_trans HL0.out b1)
    have HF := Lib.hid (fmtPl_yes hp)
    obtain ⟨⟨x1, x2, x3, x4⟩, ⟨x5, x6⟩, _⟩ := planOk_iff.1 hp
    have hjz := order_size hp
    have HJ : Hid (∀ W, Below w1.heap.size w1 W → Calls Tryz.prog 57 #[.slice A p.order.length c, .string ⟨#[32]⟩] W fun e w' => e = .returned (.string (joinT p.order spT)) ∧ Below W.heap.size W w') := fun W hW => join_rd (sep := spT) (HRD.out W (later_trans HL1.out hW)) (by omega) (by omega) (by omega)
    obtain ⟨bi, pa, od⟩ := p
    simp only at x1 x2 x3 x4 hjz HJ q0 q1 q2 hb1 HB0 HF ⊢
    obtain ⟨bi, rfl⟩ := Int.eq_ofNat_of_zero_le (show 0 ≤ bi by omega)
    obtain ⟨pa, rfl⟩ := Int.eq_ofNat_of_zero_le (show 0 ≤ pa by omega)
    have HI1 : Hid (∀ W, Below w1.heap.size w1 W → Calls Tryz.prog 56 #[.int .i64 (bi : Int)] W fun e w' => e = .returned (.string (decB bi)) ∧ Below W.heap.size W w') := fun W hW => strconv_ItoaN bi W (by omega) (HTB.out.on (later_trans HL1.out hW))
    have HI2 : Hid (∀ W, Below w1.heap.size w1 W → Calls Tryz.prog 56 #[.int .i64 (pa : Int)] W fun e w' => e = .returned (.string (decB pa)) ∧ Below W.heap.size W w') := fun W hW => strconv_ItoaN pa W (by omega) (HTB.out.on (later_trans HL1.out hW))
    have s1 := (dec10_size (n := bi) (by omega)).1
    have s2 := (dec10_size (n := pa) (by omega)).1
    have HF2 : Hid (fmtPl ⟨(bi : Int), (pa : Int), od⟩ = decB bi ++ ⟨#[32]⟩ ++ decB pa ++ ⟨#[32]⟩ ++ joinT od spT) := HF.out
    clear HF
    generalize decB bi = B1 at *
    generalize decB pa = B2 at *
    generalize joinT od spT = J at *
    have a1 : ¬ 9223372036854775807 < B1.size + 1 := by omega
    have a2 : ¬ 9223372036854775807 < B1.size + 1 + B2.size := by omega
    have a3 : ¬ 9223372036854775807 < B1.size + 1 + B2.size + 1 := by omega
    have a4 : ¬ 9223372036854775807 < B1.size + 1 + B2.size + 1 + J.size := by omega
    have ld := later_drew (Below.refl w1.heap.size w1)
    clear hp b1 q0 q1 q2 x1 x2 x3 x4 x5 x6
    obtain ⟨c0, c1, c2, _, _, _⟩ := threeF hb1
    have q0 := fun W (hW : Below w1.heap.size w1 W) => (hW.cell (p := ⟨w.heap.size, 0, none⟩) (block_of_cell c0)).trans c0
    have q1 := fun W (hW : Below w1.heap.size w1 W) => (hW.cell (p := ⟨w.heap.size, 1, none⟩) (block_of_cell c1)).trans c1
    have q2 := fun W (hW : Below w1.heap.size w1 W) => (hW.cell (p := ⟨w.heap.size, 2, none⟩) (block_of_cell c2)).trans c2
    clear hb1 c0 c1 c2
    go_wp2_with fail
    go_region_held3 (fun W => Below w1.heap.size w1 W) (first | exact ld | exact k3 | exact k2 | exact k1 | fail) (first | (go_at_call 56; first | ((with_reducible refine (HI1.out _ (by first | exact ld | exact k1 | exact k2)).mono ?_); rintro e u1 ⟨rfl, z1⟩; have k1 := later_trans ld z1) | ((with_reducible refine (HI2.out _ (by first | exact k1 | exact ld)).mono ?_); rintro e u2 ⟨rfl, z2⟩; have k2 := later_trans k1 z2) | fail) | (go_at_call 57; first | ((with_reducible refine (HJ.out _ (by first | exact k2 | exact k1 | exact ld)).mono ?_); rintro e u3 ⟨rfl, z3⟩; have k3 := later_trans k2 z3) | fail) | fail)
    all_goals
      have K3 := Lib.hid (later_trans HL1.out k3)
      clear k1 k2 k3 z1 z2 z3 ld
      go_wp2_with fail
      go_ret
      exact ⟨ret_str HF2.out.symm, K3.out⟩

end Go.Proofs.YtpinkbodbedajaaGreatDoor

namespace Go.Proofs.YtpinkbodbedajaaGreatDoor
open Go.RowKit

theorem Tryz.sizePlK : (Tryz.prog.info? 25).map (·.size) = some 3 := by kernel_rfl
def plaGot (t : ByteArray) : Pln := ⟨numV ((partsB 32 t).getD 0 ⟨#[]⟩), numV ((partsB 32 t).getD 1 ⟨#[]⟩), (partsB 32 t).drop 2⟩
def plaOk (t : ByteArray) : Bool := (decide (3 ≤ (partsB 32 t).length) && decide ((partsB 32 t).length ≤ 62)) && ((numOk ((partsB 32 t).getD 0 ⟨#[]⟩) && numOk ((partsB 32 t).getD 1 ⟨#[]⟩)) && planOk (plaGot t))
def plaP (t : ByteArray) : Pln := if plaOk t then plaGot t else ⟨0, 0, []⟩
theorem plaP_no {t : ByteArray} (h : plaOk t = false) : plaP t = ⟨0, 0, []⟩ := by unfold plaP; rw [h]; rfl
theorem plaP_yes {t : ByteArray} (h : plaOk t = true) : plaP t = plaGot t := by unfold plaP; rw [if_pos h]

set_option maxRecDepth 100000 in
set_option maxHeartbeats 800000 in
theorem impl_copyTexts (v : Value) (xs : List ByteArray) (w : World) (hv : rd w w.heap.size v xs) (hl : xs.length ≤ 1048576) :
    Calls Tryz.prog 249 #[v] w fun e w' => ∃ v', e = .returned v' ∧ own 9 w.heap.size w' v' xs ∧ Below w.heap.size w w' := by
  have hv0 := Lib.hid hv
  obtain ⟨A, n, c, rfl, hn, hc, hm, hr⟩ := hv
  subst hn
  clear hr
  obtain ⟨i0, hi, hz0, hz1, hz2⟩ := info_parts Tryz.infoStr
  have hmk := make_row (P := Tryz.prog) 23 9 i0 _ Tryz.underlying23 hi hz0 xs.length (by rw [hz2]; omega) (by omega)
  go_enter Tryz.func249, Tryz.ntmps249
  go_wp2_with (refine wpList_copyAll (α := ByteArray) (o := ⟨some 9, _, _, _, _, _⟩) rfl (.tmp 7) (.tmp 8) 23 23 rfl w.heap.size w.heap.size 9 i0 Tryz.underlying23 hi hz1 (by decide) (madeCells #[Value.string ⟨#[]⟩] xs.length) (.slice A xs.length c) xs _ (hv0.out.on ((Below.refl _ _).alloc (Nat.le_refl _) _)) rfl rfl (heap_alloc_new w _) (by rw [size_madeCells]; exact (Nat.mul_one _).symm) (Nat.le_refl _) (by unfold maxLen; omega) ?_; intro w1 ho1 hg1)
  go_wp2
  go_ret
  exact ⟨_, rfl, ho1, below_of_grown (grown_trans' (World.grownBy_alloc w _ _) hg1) (Nat.le_refl _) (fun k hk => by injection hk; omega)⟩

set_option maxRecDepth 100000 in
set_option maxHeartbeats 3200000 in
theorem impl_ParsePlan (t : ByteArray) (w : World) (ht : t.size ≤ 1000000) :
    Calls Tryz.prog 198 #[.string t] w fun e w' => ∃ vo, e = .returned (.tuple #[.agg #[.int .i64 (plaP t).bins, .int .i64 (plaP t).passes, vo], .bool (plaOk t)]) ∧ own 9 w.heap.size w' vo (plaP t).order ∧ Below w.heap.size w w' := by
  have HNO : Hid (¬ (3 ≤ (partsB 32 t).length ∧ (partsB 32 t).length ≤ 62) ∨ numOk ((partsB 32 t).getD 0 ⟨#[]⟩) = false ∨ numOk ((partsB 32 t).getD 1 ⟨#[]⟩) = false ∨ planOk (plaGot t) = false → plaOk t = false) := fun h => by
    unfold plaOk
    rcases h with h | h | h | h
    · by_cases h1 : 3 ≤ (partsB 32 t).length
      · rw [decide_eq_false (show ¬ (partsB 32 t).length ≤ 62 by omega)]; simp
      · rw [decide_eq_false h1]; simp
    · rw [h]; simp
    · rw [h]; simp
    · rw [h]; simp
  have HYES : Hid (3 ≤ (partsB 32 t).length → (partsB 32 t).length ≤ 62 → numOk ((partsB 32 t).getD 0 ⟨#[]⟩) = true → numOk ((partsB 32 t).getD 1 ⟨#[]⟩) = true → planOk (plaGot t) = true → plaOk t = true) := fun h1 h2 h3 h4 h5 => by
    unfold plaOk
    rw [decide_eq_true h1, decide_eq_true h2, h3, h4, h5]; rfl
  have HGOT : Hid (plaGot t = ⟨numV ((partsB 32 t).getD 0 ⟨#[]⟩), numV ((partsB 32 t).getD 1 ⟨#[]⟩), (partsB 32 t).drop 2⟩) := rfl
  have HSP : Hid (∀ W : World, Calls Tryz.prog 65 #[.string t, .string ⟨#[32]⟩] W fun e w' => e = .returned (.slice (some ⟨W.heap.size, 0, none⟩) (partsB 32 t).length (partsB 32 t).length) ∧ own 9 W.heap.size w' (.slice (some ⟨W.heap.size, 0, none⟩) (partsB 32 t).length (partsB 32 t).length) (partsB 32 t) ∧ Below W.heap.size W w') := fun W => (strings_Split1 t 32 W (by omega)).mono fun e w' h => ⟨h.1, h.2.1, h.2.2.1⟩
  have HPZ : Hid (∀ p ∈ partsB 32 t, p.size ≤ maxLen) := fun p hp => by have := parts_sizeZ hp; unfold maxLen; omega
  have hlen := parts_lenZ 32 t
  generalize partsB 32 t = ps at *
  obtain ⟨wA, hwA⟩ : ∃ u, u = w.alloc (Obj.cells #[.int .i64 0, .int .i64 0, .slice none 0 0] 25) := ⟨_, rfl⟩
  have hBA : Below w.heap.size w wA := by rw [hwA]; exact (Below.refl _ _).alloc (Nat.le_refl _) _
  have hzA : wA.heap.size = w.heap.size + 1 := by rw [hwA]; simp
  have hbA : wA.heap[w.heap.size]? = some (.cells #[.int .i64 0, .int .i64 0, .slice none 0 0] 25 (0, 0)) := by rw [hwA]; exact heap_alloc_new w _
  have HWA := Lib.hid hwA; clear hwA
  go_enter Tryz.func198, Tryz.ntmps198
  go_wp2_with fail
  rw [← HWA.out]
  have HSPW := HSP.out wA
  rw [hzA] at HSPW
  refine HSPW.mono ?_
  clear HSPW
  rintro e w1 ⟨rfl, o1, b1⟩
  rw [← hzA] at b1
  have hb1 := (b1.block w.heap.size (by omega)).trans hbA
  have hB1 : Below w.heap.size w w1 := hBA.trans (b1.mono (by omega))
  have hz1 := b1.size
  clear hbA hBA b1
  by_cases h3 : 3 ≤ ps.length
  case neg =>
    have h3i : (ps.length : Int) < 3 := by omega
    have HQ : Hid (plaOk t = false) := HNO.out (.inl fun h => h3 h.1)
    have HR : Hid (plaP t = ⟨0, 0, []⟩) := plaP_no HQ.out
    obtain ⟨a0, a1, a2, e0, e1, e2⟩ := threeF hb1
    have HBX := Lib.hid hb1; have HLX := Lib.hid hB1
    clear o1
    go_wp2_with fail
    refine ret_box1 rfl rfl (three_set HBX.out) Tryz.underlying25 rfl Tryz.sizePlK rfl ?_
    exact ⟨.slice none 0 0, by rw [HR.out, HQ.out]; rfl, by rw [HR.out]; exact own.nil_ _ _ _, later_set (later_set (later_set HLX.out (Nat.le_refl _) _) (Nat.le_refl _) _) (Nat.le_refl _) _⟩
  by_cases h62 : ps.length ≤ 62
  case neg =>
    have h3i : ¬ (ps.length : Int) < 3 := by omega
    have h62i : (62 : Int) < (ps.length : Int) := by omega
    have HQ : Hid (plaOk t = false) := HNO.out (.inl fun h => h62 h.2)
    have HR : Hid (plaP t = ⟨0, 0, []⟩) := plaP_no HQ.out
    obtain ⟨a0, a1, a2, e0, e1, e2⟩ := threeF hb1
    have HBX := Lib.hid hb1; have HLX := Lib.hid hB1
    clear o1
    go_wp2_with fail
    refine ret_box1 rfl rfl (three_set HBX.out) Tryz.underlying25 rfl Tryz.sizePlK rfl ?_
    exact ⟨.slice none 0 0, by rw [HR.out, HQ.out]; rfl, by rw [HR.out]; exact own.nil_ _ _ _, later_set (later_set (later_set HLX.out (Nat.le_refl _) _) (Nat.le_refl _) _) (Nat.le_refl _) _⟩
  have h3i : ¬ (ps.length : Int) < 3 := by omega
  have h62i : ¬ (62 : Int) < (ps.length : Int) := by omega
  have y0 := own_str1 o1 0 (by omega)
  have y1 := own_str1 o1 1 (by omega)
  have g0 : ps.getD 0 ⟨#[]⟩ = ps[0] := by rw [List.getD_eq_getElem?_getD, List.getElem?_eq_getElem (by omega)]; rfl
  have g1 : ps.getD 1 ⟨#[]⟩ = ps[1] := by rw [List.getD_eq_getElem?_getD, List.getElem?_eq_getElem (by omega)]; rfl
  rw [g0, g1] at HNO HYES HGOT
  have z0 := HPZ.out _ (List.getElem_mem (show 0 < ps.length by omega))
  have z1 := HPZ.out _ (List.getElem_mem (show 1 < ps.length by omega))
  have HRD := Lib.hid (o1.rd.drop (k := 2) (by omega))
  have HO1 := Lib.hid o1
  generalize ps[0] = p0 at *
  generalize ps[1] = p1 at *
  have HN0 := Lib.hid (fun W => impl_parseNumber p0 W z0)
  have HN1 := Lib.hid (fun W => impl_parseNumber p1 W z1)
  have hn0 := nVal_bound (d := absB p0) (ng := negB p0)
  have hn1 := nVal_bound (d := absB p1) (ng := negB p1)
  rw [show nVal (absB p0) (negB p0) = numV p0 from rfl] at hn0
  rw [show nVal (absB p1) (negB p1) = numV p1 from rfl] at hn1
  generalize numV p0 = v0 at *
  generalize numV p1 = v1 at *
  clear g0 g1 z0 z1 HPZ o1
  have hli : (0 : Int) < (ps.length : Int) := by omega
  have hli1 : (1 : Int) < (ps.length : Int) := by omega
  cases hk0 : numOk p0
  · rw [hk0] at HN0
    go_wp2_with fail
    refine (HN0.out _).mono ?_
    rintro e _ ⟨rfl, rfl⟩
    go_wp2_with fail
    refine (HN1.out _).mono ?_
    rintro e _ ⟨rfl, rfl⟩
    have HQ : Hid (plaOk t = false) := HNO.out (.inr (.inl hk0))
    have HR : Hid (plaP t = ⟨0, 0, []⟩) := plaP_no HQ.out
    obtain ⟨a0, a1, a2, e0, e1, e2⟩ := threeF hb1
    have HBX := Lib.hid hb1; have HLX := Lib.hid hB1
    clear hk0
    go_wp2_with fail
    refine ret_box1 rfl rfl (three_set HBX.out) Tryz.underlying25 rfl Tryz.sizePlK rfl ?_
    exact ⟨.slice none 0 0, by rw [HR.out, HQ.out]; rfl, by rw [HR.out]; exact own.nil_ _ _ _, later_set (later_set (later_set HLX.out (Nat.le_refl _) _) (Nat.le_refl _) _) (Nat.le_refl _) _⟩
  cases hk1 : numOk p1
  · rw [hk1] at HN1; rw [hk0] at HN0
    go_wp2_with fail
    refine (HN0.out _).mono ?_
    rintro e _ ⟨rfl, rfl⟩
    go_wp2_with fail
    refine (HN1.out _).mono ?_
    rintro e _ ⟨rfl, rfl⟩
    have HQ : Hid (plaOk t = false) := HNO.out (.inr (.inr (.inl hk1)))
    have HR : Hid (plaP t = ⟨0, 0, []⟩) := plaP_no HQ.out
    obtain ⟨a0, a1, a2, e0, e1, e2⟩ := threeF hb1
    have HBX := Lib.hid hb1; have HLX := Lib.hid hB1
    clear hk0 hk1
    go_wp2_with fail
    refine ret_box1 rfl rfl (three_set HBX.out) Tryz.underlying25 rfl Tryz.sizePlK rfl ?_
    exact ⟨.slice none 0 0, by rw [HR.out, HQ.out]; rfl, by rw [HR.out]; exact own.nil_ _ _ _, later_set (later_set (later_set HLX.out (Nat.le_refl _) _) (Nat.le_refl _) _) (Nat.le_refl _) _⟩
  rw [hk0] at HN0; rw [hk1] at HN1
  have HY2 : Hid (planOk (plaGot t) = true → plaOk t = true) := HYES.out h3 h62 hk0 hk1
  clear HYES hk0 hk1
  go_wp2_with fail
  refine (HN0.out _).mono ?_
  rintro e _ ⟨rfl, rfl⟩
  go_wp2_with fail
  refine (HN1.out _).mono ?_
  rintro e _ ⟨rfl, rfl⟩
  have ld := later_drew (Below.refl w1.heap.size w1)
  have h2l : 2 ≤ ps.length := by omega
  have h2c : ¬ ps.length = 2 := by omega
  rw [if_neg (by omega)] at HRD
  have HCT : Hid (∀ W, Below w1.heap.size w1 W → Calls Tryz.prog 249 #[.slice (some ⟨w.heap.size + 1, 2, none⟩) (ps.length - 2) (ps.length - 2)] W fun e w' => ∃ v', e = .returned v' ∧ own 9 W.heap.size w' v' (ps.drop 2) ∧ Below W.heap.size W w') := fun W hW => impl_copyTexts _ (ps.drop 2) W (HRD.out.on hW) (by rw [List.length_drop]; omega)
  go_wp2_with fail
  refine (HCT.out _ (by first | exact Below.refl _ _ | exact ld)).mono ?_
  rintro e u1 ⟨v2, rfl, o2, z2⟩
  have k1 : Below w1.heap.size w1 u1 := later_trans (by first | exact Below.refl _ _ | exact ld) z2
  have hbu := (k1.block w.heap.size (by omega)).trans hb1
  have hBu := hB1.trans (k1.mono (by omega))
  have hzu := k1.size
  have hou : own 9 w1.heap.size u1 v2 (ps.drop 2) := o2
  obtain ⟨A2, n2, c2, rfl, hn2, -, -, -⟩ := o2.rd
  rw [List.length_drop] at hn2
  subst hn2
  have HP : Hid (rdP (u1.alloc (Obj.cells #[.int .i64 v0, .int .i64 v1, .slice A2 (ps.length - 2) c2] 25)) (u1.alloc (Obj.cells #[.int .i64 v0, .int .i64 v1, .slice A2 (ps.length - 2) c2] 25)).heap.size (.agg #[.int .i64 v0, .int .i64 v1, .slice A2 (ps.length - 2) c2]) (plaGot t)) := by
    show rdP _ _ _ _
    rw [HGOT.out]
    exact ⟨_, rfl, (show isI64 v0 by unfold isI64; omega), (show isI64 v1 by unfold isI64; omega), (hou.alloc _).rd⟩
  obtain ⟨u2, hu2⟩ : ∃ u, u = u1.alloc (Obj.cells #[.int .i64 v0, .int .i64 v1, .slice A2 (ps.length - 2) c2] 25) := ⟨_, rfl⟩
  have hq2 : u2.heap[u1.heap.size]? = some (.cells #[.int .i64 v0, .int .i64 v1, .slice A2 (ps.length - 2) c2] 25 (0, 0)) := by rw [hu2]; exact heap_alloc_new u1 _
  have hb2 : u2.heap[w.heap.size]? = some (.cells #[.int .i64 0, .int .i64 0, .slice none 0 0] 25 (0, 0)) := by rw [hu2]; exact (Below.heap_alloc _ _ _ (by omega)).trans hbu
  have hB2 : Below w.heap.size w u2 := by rw [hu2]; exact hBu.alloc hBu.size _
  have hz2 : u2.heap.size = u1.heap.size + 1 := by rw [hu2]; simp
  have ho2 : own 9 w1.heap.size u2 (.slice A2 (ps.length - 2) c2) (ps.drop 2) := by rw [hu2]; exact hou.alloc _
  rw [← hu2] at HP
  have HU2 := Lib.hid hu2; clear hu2
  have HPV := Lib.hid (impl_PlanValid _ _ u2 HP.out)
  have HO2 := Lib.hid ho2
  clear o2 hou hbu hBu k1 z2 ho2 hb1 hB1 ld HRD
  obtain ⟨c0, c1, c2', f0, f1, f2⟩ := threeF hq2
  go_wp2_with fail
  rw [← HU2.out]
  refine HPV.out.mono ?_
  cases hk2 : planOk (plaGot t)
  · rintro e w3 ⟨rfl, b3⟩
    have hb3 := (b3.block w.heap.size (by omega)).trans hb2
    have hB3 := hB2.trans (b3.mono (by omega))
    clear c0 c1 c2' f0 f1 f2
    have HQ : Hid (plaOk t = false) := HNO.out (.inr (.inr (.inr hk2)))
    have HR : Hid (plaP t = ⟨0, 0, []⟩) := plaP_no HQ.out
    obtain ⟨a0, a1, a2, e0, e1, e2⟩ := threeF hb3
    have HBX := Lib.hid hb3; have HLX := Lib.hid hB3
    clear hk2
    go_wp2_with fail
    refine ret_box1 rfl rfl (three_set HBX.out) Tryz.underlying25 rfl Tryz.sizePlK rfl ?_
    exact ⟨.slice none 0 0, by rw [HR.out, HQ.out]; rfl, by rw [HR.out]; exact own.nil_ _ _ _, later_set (later_set (later_set HLX.out (Nat.le_refl _) _) (Nat.le_refl _) _) (Nat.le_refl _) _⟩
  · rintro e w3 ⟨rfl, b3⟩
    have hb3 := (b3.block w.heap.size (by omega)).trans hb2
    have hq3 := (b3.block u1.heap.size (by omega)).trans hq2
    have hB3 := hB2.trans (b3.mono (by omega))
    have HQ := Lib.hid (HY2.out hk2)
    have HR := Lib.hid (plaP_yes HQ.out)
    have HO3 := Lib.hid (HO2.out.below b3)
    have hne : u1.heap.size ≠ w.heap.size := by omega
    clear c0 c1 c2' f0 f1 f2 hk2
    obtain ⟨c0, c1, c2', f0, f1, f2⟩ := threeF hq3
    obtain ⟨a0, a1, a2, e0, e1, e2⟩ := threeF hb3
    have HBX := Lib.hid hb3; have HLX := Lib.hid hB3
    clear hb3 hq3 hB3 hb2 hB2 hq2 b3
    go_wp2_with fail
    refine ret_box1 rfl rfl (three_set HBX.out) Tryz.underlying25 rfl Tryz.sizePlK rfl ?_
    refine ⟨.slice A2 (ps.length - 2) c2, by rw [HR.out, HQ.out, HGOT.out]; rfl, ?_, later_set (later_set (later_set HLX.out (Nat.le_refl _) _) (Nat.le_refl _) _) (Nat.le_refl _) _⟩
    rw [HR.out, HGOT.out]
    exact (own_out (own_out (own_out HO3.out ⟨w.heap.size, 0, none⟩ _ (by show w.heap.size < w1.heap.size; omega)) ⟨w.heap.size, 1, none⟩ _ (by show w.heap.size < w1.heap.size; omega)) ⟨w.heap.size, 2, none⟩ _ (by show w.heap.size < w1.heap.size; omega)).base_ (by omega)

end Go.Proofs.YtpinkbodbedajaaGreatDoor

namespace Go.Proofs.YtpinkbodbedajaaGreatDoor
open Go.RowKit



end Go.Proofs.YtpinkbodbedajaaGreatDoor

namespace Go.Proofs.YtpinkbodbedajaaGreatDoor
open Go.RowKit

def slT : ByteArray := ⟨#[47]⟩
def four (r : Rpt) : List (List Ltr) := [r.round, r.strange, r.held, r.stuck]
def all4 (r : Rpt) : List Ltr := r.round ++ r.strange ++ r.held ++ r.stuck
/-- A report as a text; nothing if its letters are not a batch. -/
def fmtR (r : Rpt) : ByteArray := if okB (all4 r) = true then fmtB r.round ++ slT ++ fmtB r.strange ++ slT ++ fmtB r.held ++ slT ++ fmtB r.stuck else ⟨#[]⟩
theorem fmtR_no {r : Rpt} (h : okB (all4 r) = false) : fmtR r = ⟨#[]⟩ := by unfold fmtR; rw [h]; rfl
theorem fmtR_yes {r : Rpt} (h : okB (all4 r) = true) : fmtR r = fmtB r.round ++ slT ++ fmtB r.strange ++ slT ++ fmtB r.held ++ slT ++ fmtB r.stuck := by unfold fmtR; rw [if_pos h]
theorem four_flat (r : Rpt) : (four r).flatten = all4 r := by simp [four, all4]
theorem four_ok (r : Rpt) : collectOk (four r) = okB (all4 r) := by
  unfold collectOk
  rw [four_flat, show decide ((four r).length ≤ 60) = true from rfl, Bool.true_and]
theorem four_join (r : Rpt) : joinT ((four r).map fmtB) slT = fmtB r.round ++ slT ++ fmtB r.strange ++ slT ++ fmtB r.held ++ slT ++ fmtB r.stuck := by
  have e : (four r).map fmtB = [fmtB r.round] ++ [fmtB r.strange] ++ [fmtB r.held] ++ [fmtB r.stuck] := rfl
  rw [e, joinT_snoc _ _ _ (by simp), joinT_snoc _ _ _ (by simp), joinT_snoc _ _ _ (by simp), joinT_one]
theorem rd_four {w : World} {v0 v1 v2 v3 : Value} {x0 x1 x2 x3 : List Ltr} (T : TypeId) (h0 : rd w w.heap.size v0 x0) (h1 : rd w w.heap.size v1 x1) (h2 : rd w w.heap.size v2 x2) (h3 : rd w w.heap.size v3 x3) :
    rd (w.alloc (Obj.cells #[v0, v1, v2, v3] T)) (w.alloc (Obj.cells #[v0, v1, v2, v3] T)).heap.size (.slice (some ⟨w.heap.size, 0, none⟩) 4 4) [x0, x1, x2, x3] := by
  obtain ⟨W, hW⟩ : ∃ W, W = w.alloc (Obj.cells #[v0, v1, v2, v3] T) := ⟨_, rfl⟩
  have hb := (box_later hW).1
  have q0 := box_cells hW 0 v0 rfl _ (Below.refl _ _)
  have q1 := box_cells hW 1 v1 rfl _ (Below.refl _ _)
  have q2 := box_cells hW 2 v2 rfl _ (Below.refl _ _)
  have q3 := box_cells hW 3 v3 rfl _ (Below.refl _ _)
  have hz : W.heap.size = w.heap.size + 1 := by subst hW; simp
  rw [← hW]
  have key : ∀ (k : Nat) (v : Value) (x : List Ltr), rd w w.heap.size v x → W.cell? ⟨w.heap.size, k, none⟩ = some v → ∃ b o cs, (some (⟨w.heap.size, 0, none⟩ : Addr)) = some ⟨b, o, none⟩ ∧ b < W.heap.size ∧ El.el W W.heap.size x cs ∧ ∀ j u, cs[j]? = some u → W.cell? ⟨b, o + (k * El.size (List Ltr) + j), none⟩ = some u := fun k v x hx hc =>
    ⟨w.heap.size, 0, [v], rfl, by omega, ⟨v, rfl, hx.on hb⟩, fun j u hu => by
      match j, hu with
      | 0, hu =>
        have : u = v := by simpa using hu.symm
        subst this
        rw [show 0 + (k * El.size (List Ltr) + 0) = k by show 0 + (k * 1 + 0) = k; omega]
        exact hc
      | j + 1, hu => simp at hu⟩
  refine rd.mk rfl (Nat.le_refl _) (by unfold maxLen; omega) fun k hk => ?_
  match k, hk with
  | 0, _ => exact key 0 v0 x0 h0 q0
  | 1, _ => exact key 1 v1 x1 h1 q1
  | 2, _ => exact key 2 v2 x2 h2 q2
  | 3, _ => exact key 3 v3 x3 h3 q3
  | k + 4, hk => exact absurd hk (by simp)

set_option maxRecDepth 100000 in
set_option maxHeartbeats 1600000 in
theorem impl_FormatReport (v : Value) (r : Rpt) (w : World) (hv : rdR w w.heap.size v r) (ht : TabW w) :
    Calls Tryz.prog 17 #[v] w fun e w' => e = .returned (.string (fmtR r)) ∧ Below w.heap.size w w' := by
  obtain ⟨A0, c0, A1, c1, A2, c2, A3, c3, e0⟩ := openR hv
  obtain ⟨w0, hw0⟩ : ∃ w0, w0 = w.alloc (Obj.cells #[.slice A0 r.round.length c0, .slice A1 r.strange.length c1, .slice A2 r.held.length c2, .slice A3 r.stuck.length c3] 33) := ⟨_, rfl⟩
  have q0 := box_cells hw0 0 (.slice A0 r.round.length c0) rfl
  have q1 := box_cells hw0 1 (.slice A1 r.strange.length c1) rfl
  have q2 := box_cells hw0 2 (.slice A2 r.held.length c2) rfl
  have q3 := box_cells hw0 3 (.slice A3 r.stuck.length c3) rfl
  have HT := Lib.hid (box_later hw0).1
  have HTW := Lib.hid (ht.on HT.out)
  have hv1 := hv.on HT.out
  subst e0
  obtain ⟨p0, p1, p2, p3⟩ := partsR hv1
  have HX := Lib.hid (rd_four 29 p0 p1 p2 p3)
  have HX4 : Hid (∀ z, [r.round, r.strange, r.held, r.stuck] = z → z = four r) := fun z h => h.symm
  clear p0 p1 p2 p3 hv hv1 ht
  have HW0 := Lib.hid hw0; clear hw0
  have l0 := Below.refl w0.heap.size w0
  obtain ⟨i0, hi, hz0, hz1, hz2⟩ := info_parts Tryz.infoStr
  go_enter Tryz.func17, Tryz.ntmps17
  go_wp2_with fail
  rw [← HW0.out]
  obtain ⟨wq, hwq⟩ : ∃ u, u = w0.alloc (Obj.cells #[.slice A0 r.round.length c0, .slice A1 r.strange.length c1, .slice A2 r.held.length c2, .slice A3 r.stuck.length c3] 29) := ⟨_, rfl⟩
  have lq := later_trans l0 (box_later hwq).1
  have HX' : Hid (rd wq wq.heap.size (.slice (some ⟨w0.heap.size, 0, none⟩) 4 4) [r.round, r.strange, r.held, r.stuck]) := by rw [hwq]; exact HX.out
  obtain ⟨xss, hxs⟩ : ∃ z, four r = z := ⟨_, rfl⟩
  have hw0z : w0.heap.size = w.heap.size + 1 := by rw [HW0.out]; simp
  replace HX := Lib.hid (show rd wq wq.heap.size (.slice (some ⟨w.heap.size + 1, 0, none⟩) 4 4) xss by rw [← hxs, ← hw0z]; exact HX'.out)
  clear hw0z
  have HOKX : Hid (collectOk xss = okB (all4 r)) := by show _ = _; rw [← hxs]; exact four_ok r
  have HNF := Lib.hid (@fmtR_no r)
  have HYF : Hid (okB (all4 r) = true → fmtR r = joinT (xss.map fmtB) slT) := fun h => by rw [← hxs, four_join]; exact fmtR_yes h
  have hx4 : xss.length = 4 := by rw [← hxs]; rfl
  clear HX' HX4 hxs q0 q1 q2 q3
  rw [← hwq]
  clear hwq
  refine (impl_CollectBins _ xss _ HX.out).mono ?_
  rw [HOKX.out]
  rintro e w1 ⟨vL, rfl, oL, b1⟩
  have l1 := later_trans lq b1
  obtain ⟨AL, mL, cL, rfl, hmL, _, _, _⟩ := oL.rd
  clear oL
  cases hok : okB (all4 r)
  · have HF := Lib.hid (HNF.out hok)
    clear hok
    go_wp2_with fail
    go_ret
    exact ⟨ret_str HF.out.symm, later_trans HT.out l1⟩
  have HF := Lib.hid (HYF.out hok)
  clear hok
  have hmk := make_row (P := Tryz.prog) 23 9 i0 _ Tryz.underlying23 hi hz0 4 (by rw [hz2]; omega) (by omega)
  simp only [show ((4 : Nat) : Int) = 4 from rfl, hz1, Nat.mul_one] at hmk
  go_wp2_with fail
  have hf0 : filled 9 (w1.alloc (Obj.cells (madeCells #[.string ⟨#[]⟩] 4) 9)) w1.heap.size 4 0 (xss.map fmtB) := filled.made w1 _ _ _ (by rw [size_madeCells]; exact (Nat.mul_one _).symm) _
  have hb0 : Below w1.heap.size w1 (w1.alloc (Obj.cells (madeCells #[.string ⟨#[]⟩] 4) 9)) := (Below.refl _ _).alloc (Nat.le_refl _) _
  generalize w1.alloc (Obj.cells (madeCells #[.string ⟨#[]⟩] 4) 9) = wm at *
  clear hmk
  have HLN : Hid ((xss.map fmtB).length = 4) := by show _ = _; rw [List.length_map, hx4]
  have HRT := Lib.hid (HTW.out.on l1)
  obtain ⟨_, _, _, hee, _, _, _, hrr⟩ := HX.out
  injection hee with hee1 hee2 hee3
  subst hee1
  have HR := Lib.hid hrr
  clear hrr hee2 hee3
  have b1' := b1
  go_loopw [30] (fun i wr => ∃ k : Nat, k ≤ 4 ∧ i = .int .i64 k ∧ Below w1.heap.size w1 wr ∧ filled 9 wr w1.heap.size 4 k (xss.map fmtB)) (fun i _ => 4 - (intOf i).toNat)
  case atStart => exact ⟨0, Nat.zero_le _, rfl, hb0, hf0⟩
  case round =>
    obtain ⟨k, hk, rfl, hbl, hf⟩ := hrel
    obtain ⟨w2, rfl⟩ : ∃ w2 : World, w2 = wr := ⟨_, rfl⟩
    clear hf0 hb0
    have hs1 := b1'.size
    by_cases hlt : k < 4
    · obtain ⟨b, o, u, hA, hb, hu, c1⟩ := HR.out.rowU k (by omega)
      injection hA with hA
      injection hA with hA1 hA2
      subst hA1 hA2
      have c1 := c1 w2 (later_trans b1' hbl)
      simp only [Nat.zero_add] at c1
      have hLk : (xss.map fmtB)[k]'(by rw [HLN.out]; exact hlt) = fmtB xss[k] := by simp
      have HST := Lib.hid (fun (W : World) (hF : filled 9 W w1.heap.size 4 k (xss.map fmtB)) => hF.step (by rw [HLN.out]; exact hlt) (by rw [HLN.out]; exact Nat.le_refl _) (ecs := [.string (fmtB xss[k])]) (by rw [hLk]; exact ⟨by have := fmtB_size xss[k]; unfold maxLen; omega, rfl⟩))
      clear hLk
      generalize xss[k] = ys at *
      obtain ⟨A5, m5, c5, rfl, hm5, hc5, hmm5, hr5⟩ := hu
      have HU : Hid (rd wq wq.heap.size (.slice A5 m5 c5) ys) := ⟨A5, m5, c5, rfl, hm5, hc5, hmm5, hr5⟩
      clear hm5 hc5 hmm5 hr5
      have hki : (k : Int) < 4 := by omega
      have hki0 : (0 : Int) ≤ (k : Int) := by omega
      have hs2 := hbl.size
      go_wp2_with fail
      refine (impl_FormatBatch _ ys _ (HU.out.on (later_trans b1' hbl)) (HRT.out.on hbl)).mono ?_
      generalize fmtB ys = t at *
      rintro e w3 ⟨rfl, b3⟩
      have hne : w1.heap.size < w2.heap.size := by obtain ⟨cs, h1, _⟩ := hf; exact (Array.getElem?_eq_some_iff.1 h1).1
      have hf3 := hf.below b3
      obtain ⟨u0, g0⟩ := hf3.cell (j := k) (by show _ < _ * 1; omega)
      have f0 := hf3.free k
      have HF3 := Lib.hid hf3
      have HB3 := Lib.hid (later_trans hbl b3)
      clear hf hf3
      go_wp2_with fail
      go_roundw
      case rel =>
        have := HST.out w3 HF3.out
        rw [show k * El.size ByteArray = k from Nat.mul_one k] at this
        exact ⟨k + 1, by omega, by go_num, HB3.out.trans (setAll_below [.string _] w3 k _ (Nat.le_refl _)), this⟩
      case measure => simp [intOf]; omega
    · have HE := Lib.hid (show k = 4 by omega)
      have HO := Lib.hid ((HE.out ▸ hf : filled _ _ _ _ 4 _).own HLN.out.symm (Nat.le_refl _) (by unfold maxLen; omega))
      clear hf
      have l2 := later_trans l1 hbl
      have hjz := joinT_size (xss.map fmtB) slT 1000 fun p hp => by
        obtain ⟨y, _, rfl⟩ := List.mem_map.1 hp
        exact fmtB_size y
      rw [HLN.out] at hjz
      have hjz2 : 4 * (1000 + slT.size) = 4004 := rfl
      have HJ := Lib.hid (join_own (sep := slT) HO.out HLN.out.symm (by rw [HLN.out]; omega) (by omega))
      clear hjz hjz2
      go_wp2_with fail
      refine HJ.out.mono ?_
      rw [← HF.out]
      rintro e w3 ⟨rfl, b3⟩
      have l3 := later_trans l2 b3
      go_wp2_with fail
      go_ret
      exact ⟨rfl, later_trans HT.out l3⟩

end Go.Proofs.YtpinkbodbedajaaGreatDoor

namespace Go.Proofs.YtpinkbodbedajaaGreatDoor
open Go.RowKit

theorem ofNat_dig (k : Nat) (h : k < 10) : (UInt8.ofNat (48 + k)).toNat = 48 + k := by
  rw [UInt8.toNat_ofNat']; omega
theorem dec10_dig : ∀ n, ∀ b ∈ dec10 n, 48 ≤ b.toNat ∧ b.toNat ≤ 57 := by
  intro n
  induction n using Nat.strongRecOn with
  | _ n ih =>
    intro b hb
    by_cases h0 : n = 0
    · subst h0; rw [dec10] at hb; exact absurd hb (by simp)
    · rw [dec10_step (by omega), List.mem_append, List.mem_singleton] at hb
      rcases hb with hb | rfl
      · exact ih (n / 10) (by omega) b hb
      · rw [ofNat_dig _ (by omega)]; omega
theorem decL_dig (n : Nat) : ∀ b ∈ decL n, 48 ≤ b.toNat ∧ b.toNat ≤ 57 := by
  unfold decL
  split
  · intro b hb
    rw [List.mem_singleton] at hb
    subst hb
    exact ⟨by decide, by decide⟩
  · exact dec10_dig n
def vL (x : Ltr) : Prop := 1 ≤ x.id ∧ x.id ≤ 9999 ∧ isCode x.code = true
end Go.Proofs.YtpinkbodbedajaaGreatDoor

namespace Go.Proofs.YtpinkbodbedajaaGreatDoor
open Go.RowKit

theorem dec10_zero : dec10 0 = [] := by rw [dec10]
theorem dec10_head : ∀ n, 0 < n → ∃ (b : UInt8) (l : List UInt8), dec10 n = b :: l ∧ 49 ≤ b.toNat := fun n => by
  induction n using Nat.strongRecOn with
  | _ n ih =>
    intro h
    rw [dec10_step h]
    by_cases h0 : n / 10 = 0
    · refine ⟨_, [], by rw [h0, dec10_zero]; rfl, ?_⟩
      have : n < 10 := by omega
      rw [UInt8.toNat_ofNat']
      omega
    · obtain ⟨b, l, e, hb⟩ := ih (n / 10) (by omega) (by omega)
      exact ⟨b, l ++ [_], by rw [e]; rfl, hb⟩
theorem numL_dec10 : ∀ n, numL (dec10 n) = n := fun n => by
  induction n using Nat.strongRecOn with
  | _ n ih =>
    by_cases h : n = 0
    · subst h; rw [dec10_zero]; rfl
    · rw [dec10_step (by omega), numL_snoc, ih (n / 10) (by omega), UInt8.toNat_ofNat']
      omega
theorem digs_of {l : List UInt8} (h : ∀ b ∈ l, 48 ≤ b.toNat ∧ b.toNat ≤ 57) : digs l = true := by
  unfold digs
  refine List.all_eq_true.2 fun b hb => ?_
  have := h b hb
  unfold dig
  simp
  omega
theorem decB_num {n : Nat} (h : n ≤ 9999) : numOk (decB n) = true ∧ numV (decB n) = (n : Int) := by
  have hz := dec10_size h
  have hd : digs (decB n).data.toList = true := digs_of (decL_dig n)
  have hN : numL (decB n).data.toList = n := by
    show numL (decL n) = n
    unfold decL
    split
    · rename_i h0; subst h0; rfl
    · exact numL_dec10 n
  have hh : ∃ (b : UInt8) (l : List UInt8), (decB n).data.toList = b :: l ∧ 48 ≤ b.toNat ∧ (b.toNat = 48 → l = []) := by
    show ∃ (b : UInt8) (l : List UInt8), decL n = b :: l ∧ 48 ≤ b.toNat ∧ (b.toNat = 48 → l = [])
    unfold decL
    split
    · exact ⟨48, [], rfl, by decide, fun _ => rfl⟩
    · obtain ⟨b, l, e, hb⟩ := dec10_head n (by omega)
      exact ⟨b, l, e, by omega, fun h => by omega⟩
  obtain ⟨b, l, e, hb, hb2⟩ := hh
  have hng : negB (decB n) = false := by
    unfold negB Lib.hasPrefix
    rw [e]
    have : (45 == b) = false := beq_eq_false_iff_ne.2 fun h => by rw [← h] at hb; exact absurd hb (by decide)
    simp [List.isPrefixOf, this]
  have hab : absB (decB n) = decB n := by
    unfold absB Lib.trimPrefix
    have h2 : Lib.hasPrefix (decB n).data.toList [45] = false := hng
    rw [if_neg (by rw [h2]; simp)]
  have hok : nOk (decB n) false = true := by
    unfold nOk
    rw [decide_eq_true (show (decB n).size ≠ 0 by omega), decide_eq_true (show (decB n).size ≤ 17 by omega), hd]
    have h1 : (zeroB (decB n) && (decide (1 < (decB n).size) || false)) = false := by
      unfold zeroB
      rw [e]
      by_cases hb48 : b = 48
      · have hl := hb2 (by rw [hb48]; rfl)
        have hs : (decB n).size = 1 := by
          have : (decB n).data.toList.length = (decB n).size := by simp
          rw [e, hl] at this
          exact this.symm
        rw [decide_eq_false (by omega)]
        simp
      · have : ((b :: l).head? == some 48) = false := by simpa using hb48
        rw [this]
        rfl
    rw [h1]
    rfl
  unfold numOk numV nVal
  rw [hab, hng, hok]
  refine ⟨rfl, ?_⟩
  rw [if_pos rfl, if_neg (by simp), hN]
theorem decB_not {n : Nat} {c : UInt8} (h : c.toNat < 48 ∨ 57 < c.toNat) : c ∉ (decB n).data.toList := fun m => by
  have := decL_dig n c m
  omega
theorem isCode_not {s : ByteArray} {c : UInt8} (hs : isCode s = true) (h : c.toNat < 48 ∨ 57 < c.toNat) : c ∉ s.data.toList := fun m => by
  have := (code_mem hs).2 c m
  omega

/-! ### Batches -/
theorem fmtL_part {x : Ltr} (h1 : 1 ≤ x.id) (h2 : x.id ≤ 9999) : partLt (fmtL x) = some x := by
  obtain ⟨n1, n2⟩ := decB_num (n := x.id.toNat) (by omega)
  have hc : cutAt 58 (fmtL x) = some (decB x.id.toNat, x.code) := cut_app (decB_not (by decide))
  rw [partLt_yes hc n1, n2]
  obtain ⟨i, c⟩ := x
  simp only at h1 ⊢
  rw [Int.toNat_of_nonneg (by omega)]
theorem fmtL_not {x : Ltr} (h : isCode x.code = true) {c : UInt8} (hc : c = 32 ∨ c = 10) : c ∉ (fmtL x).data.toList := by
  unfold fmtL
  rw [ba_append, ba_append, List.mem_append, List.mem_append]
  rintro ((m | m) | m)
  · exact decB_not (by rcases hc with rfl | rfl <;> decide) m
  · rcases hc with rfl | rfl <;> exact absurd m (by decide)
  · exact isCode_not h (by rcases hc with rfl | rfl <;> decide) m
theorem okB_mem {xs : List Ltr} (h : okB xs = true) : ∀ x ∈ xs, 1 ≤ x.id ∧ x.id ≤ 9999 ∧ isCode x.code = true := fun x hx => by
  obtain ⟨k, hk, rfl⟩ := List.getElem_of_mem hx
  have := (okB_iff.1 h).2 k hk
  exact ⟨this.1, this.2.1, this.2.2.1⟩
theorem map_part {xs : List Ltr} (h : okB xs = true) : gotLt (xs.map fmtL) = xs ∧ allLt (xs.map fmtL) = true := by
  have key : ∀ l : List Ltr, (∀ x ∈ l, 1 ≤ x.id ∧ x.id ≤ 9999 ∧ isCode x.code = true) → gotLt (l.map fmtL) = l ∧ allLt (l.map fmtL) = true := fun l => by
    induction l with
    | nil => intro _; exact ⟨rfl, rfl⟩
    | cons x l ih =>
      intro hl
      obtain ⟨i1, i2⟩ := ih fun y hy => hl y (List.mem_cons_of_mem _ hy)
      have hx := hl x (by simp)
      have hp := fmtL_part hx.1 hx.2.1
      refine ⟨?_, ?_⟩
      · unfold gotLt at *
        rw [List.map_cons, List.filterMap_cons, hp, i1]
      · unfold allLt at *
        rw [List.map_cons, List.all_cons, hp, i2]
        rfl
  exact key xs (okB_mem h)
theorem fmtB_ne {xs : List Ltr} (h : okB xs = true) (h0 : xs.length ≠ 0) : sEq (fmtB xs) ⟨#[45]⟩ = false := by
  cases hq : sEq (fmtB xs) ⟨#[45]⟩
  · rfl
  · exfalso
    rw [sEq_iff] at hq
    obtain ⟨x, l, hx⟩ : ∃ x l, xs = x :: l := by
      cases xs with
      | nil => exact absurd rfl h0
      | cons x l => exact ⟨x, l, rfl⟩
    have hp := parts_join (ps := xs.map fmtL) (by rw [hx]; simp) fun p hp => by
      obtain ⟨y, hy, rfl⟩ := List.mem_map.1 hp
      exact fmtL_not (okB_mem h y hy).2.2 (.inl rfl)
    rw [← fmtB_some h h0, hq] at hp
    have h1 : partsB 32 (⟨#[45]⟩ : ByteArray) = [⟨#[45]⟩] := parts_one (by decide)
    rw [h1, hx] at hp
    simp only [List.map_cons, List.cons.injEq] at hp
    have := congrArg ByteArray.size hp.1
    have h9 := (okB_mem h x (by rw [hx]; simp)).2.2
    have h7 := (code_mem h9).1
    unfold fmtL at this
    simp only [ByteArray.size_append] at this
    have e1 : (⟨#[45]⟩ : ByteArray).size = 1 := rfl
    omega
theorem pb_fmt {xs : List Ltr} (h : okB xs = true) : pbOk (fmtB xs) = true ∧ pbL (fmtB xs) = xs := by
  by_cases h0 : xs.length = 0
  · have hx : xs = [] := List.eq_nil_of_length_eq_zero h0
    rw [fmtB_empty h h0]
    unfold pbOk pbL
    have : sEq (⟨#[45]⟩ : ByteArray) ⟨#[45]⟩ = true := sEq_iff.2 rfl
    rw [this, if_pos rfl, hx]
    exact ⟨rfl, rfl⟩
  · have hn := fmtB_ne h h0
    have hne : xs.map fmtL ≠ [] := fun e => h0 (by have := congrArg List.length e; simpa using this)
    have hp : partsB 32 (fmtB xs) = xs.map fmtL := by
      rw [fmtB_some h h0]
      exact parts_join hne fun p hp => by
        obtain ⟨y, hy, rfl⟩ := List.mem_map.1 hp
        exact fmtL_not (okB_mem h y hy).2.2 (.inl rfl)
    obtain ⟨m1, m2⟩ := map_part h
    have hs : pbSome (fmtB xs) = true := by
      unfold pbSome pbParts
      rw [hp, m1, m2, List.length_map, decide_eq_true (okB_iff.1 h).1, sEq_iff.2 rfl]
      rfl
    unfold pbOk pbL
    rw [hn, if_neg (by simp), if_pos hs, hp, m1, hs]
    exact ⟨rfl, rfl⟩
theorem fmtB_not {xs : List Ltr} : (10 : UInt8) ∉ (fmtB xs).data.toList := fun m => by
  cases h : okB xs
  · rw [fmtB_no h] at m; simp at m
  · by_cases h0 : xs.length = 0
    · rw [fmtB_empty h h0] at m; simp at m
    · rw [fmtB_some h h0, joinT_data] at m
      rcases inter_mem m with m | ⟨l, hl, m⟩
      · exact absurd m (by decide)
      · simp only [List.map_map, List.mem_map] at hl
        obtain ⟨r, hr, rfl⟩ := hl
        exact fmtL_not (okB_mem h r hr).2.2 (.inr rfl) m
theorem fmtB_pos {xs : List Ltr} (h : okB xs = true) : 1 ≤ (fmtB xs).size := by
  by_cases h0 : xs.length = 0
  · rw [fmtB_empty h h0]; decide
  · rw [fmtB_some h h0]
    exact joinT_nn (by rw [List.length_map]; exact h0) fun p hp => (okB_fmt h p hp).2

/-! ### Plans -/
theorem pla_fmt {p : Pln} (h : planOk p = true) : plaOk (fmtPl p) = true ∧ plaP (fmtPl p) = p := by
  obtain ⟨⟨x1, x2, x3, x4⟩, ⟨x5, x6⟩, _⟩ := planOk_iff.1 h
  obtain ⟨n1, n2⟩ := decB_num (n := p.bins.toNat) (by omega)
  obtain ⟨n3, n4⟩ := decB_num (n := p.passes.toNat) (by omega)
  have hne : p.order ≠ [] := fun e => by rw [e] at x5; simp at x5
  have hp : partsB 32 (fmtPl p) = decB p.bins.toNat :: decB p.passes.toNat :: p.order := by
    rw [fmtPl_yes h]
    have e : decB p.bins.toNat ++ ⟨#[32]⟩ ++ decB p.passes.toNat ++ ⟨#[32]⟩ ++ joinT p.order spT = decB p.bins.toNat ++ ⟨#[32]⟩ ++ (decB p.passes.toNat ++ ⟨#[32]⟩ ++ joinT p.order spT) := by
      apply ba_ext; simp only [ba_append, List.append_assoc]
    rw [e, parts_app _ (decB_not (by decide)), parts_app _ (decB_not (by decide)), parts_join hne fun c hc => isCode_not (plan_codes h c hc) (by decide)]
  have hg : plaGot (fmtPl p) = p := by
    unfold plaGot
    rw [hp]
    show (⟨numV (decB p.bins.toNat), numV (decB p.passes.toNat), p.order⟩ : Pln) = p
    rw [n2, n4, Int.toNat_of_nonneg (by omega), Int.toNat_of_nonneg (by omega)]
  have ho : plaOk (fmtPl p) = true := by
    unfold plaOk
    rw [hg, h, hp]
    show ((decide (3 ≤ p.order.length + 2) && decide (p.order.length + 2 ≤ 62)) && ((numOk (decB p.bins.toNat) && numOk (decB p.passes.toNat)) && true)) = true
    rw [n1, n3, decide_eq_true (show 3 ≤ p.order.length + 2 by omega), decide_eq_true (show p.order.length + 2 ≤ 62 by omega)]
    rfl
  exact ⟨ho, by rw [plaP_yes ho, hg]⟩
theorem fmtPl_size (p : Pln) : (fmtPl p).size ≤ 500 := by
  cases h : planOk p
  · rw [fmtPl_no h]; exact Nat.zero_le _
  · obtain ⟨⟨x1, x2, x3, x4⟩, ⟨x5, x6⟩, _⟩ := planOk_iff.1 h
    have h1 := order_size h
    have s1 := (dec10_size (n := p.bins.toNat) (by omega)).1
    have s2 := (dec10_size (n := p.passes.toNat) (by omega)).1
    rw [fmtPl_yes h]
    simp only [ByteArray.size_append]
    show _ + 1 + _ + 1 + _ ≤ 500
    omega
theorem fmtPl_not {p : Pln} : (10 : UInt8) ∉ (fmtPl p).data.toList := fun m => by
  cases h : planOk p
  · rw [fmtPl_no h] at m; simp at m
  · rw [fmtPl_yes h] at m
    simp only [ba_append, List.mem_append] at m
    rcases m with (((m | m) | m) | m) | m
    · exact decB_not (by decide) m
    · exact absurd m (by decide)
    · exact decB_not (by decide) m
    · exact absurd m (by decide)
    · rw [joinT_data] at m
      rcases inter_mem m with m | ⟨l, hl, m⟩
      · exact absurd m (by decide)
      · obtain ⟨r, hr, rfl⟩ := List.mem_map.1 hl
        exact isCode_not (plan_codes h r hr) (by decide) m

end Go.Proofs.YtpinkbodbedajaaGreatDoor

namespace Go.Proofs.YtpinkbodbedajaaGreatDoor
open Go.RowKit

def lettersWd : ByteArray := ⟨#[108, 101, 116, 116, 101, 114, 115]⟩
def planWd : ByteArray := ⟨#[112, 108, 97, 110]⟩
/-! ### What stays when the desk is written -/
theorem var_d {B d : Nat} {w : World} {s : Dsk} {vH : Value} {n : String} {g : Nat} {cs : Array Value} (hg : Tryz.prog.globalNamed n = some g) (h : w.var? Tryz.prog n = some cs) (hD : dskAt B w d s vH) (hne : cs.size ≠ 8) (i : Nat) (u : Value) : (w.setCell ⟨d, i, none⟩ u).var? Tryz.prog n = some cs := by
  obtain ⟨vL, vO, vF, vN, os, h0, _⟩ := hD
  unfold World.var? at h ⊢
  rw [hg] at h ⊢
  simp only [Option.bind_some] at h ⊢
  have hgd : g ≠ d := fun e => by
    subst e
    rw [h0] at h
    simp only [Option.bind_some] at h
    injection h with h
    rw [← h] at hne
    exact hne rfl
  rw [Below.heap_setCell _ _ _ _ hgd]
  exact h
theorem TabW.setD {B d : Nat} {w : World} {s : Dsk} {vH : Value} (h : TabW w) (hD : dskAt B w d s vH) (i : Nat) (u : Value) : TabW (w.setCell ⟨d, i, none⟩ u) :=
  var_d (g := 2) (by kernel_rfl) h hD (by decide) i u

/-! ### The desk written -/
theorem dskAt.setLetters {B d : Nat} {w : World} {s : Dsk} {vH v' : Value} {xs : List Ltr} (h : dskAt B w d s vH) (hn : own 89 B w v' xs) : dskAt B (w.setCell ⟨d, 0, none⟩ v') d { s with letters := xs } vH := by
  have ho := h.obj
  obtain ⟨vL, vO, vF, vN, os, h0, h1, h2, h3, h4, h5, h6⟩ := h
  refine ⟨v', vO, vF, vN, os, ?_, own_d hn ho (by decide) 0, own_d h2 ho (by decide) 0, own_d h3 ho (by decide) 0, own_d h4 ho (by decide) 0, isN_d h5 ho (by decide) (by decide) 0, h6⟩
  have := heap_setCell_same w d 0 _ _ v' h0
  rw [this]
  rfl
theorem dskAt.setBins {B d : Nat} {w : World} {s : Dsk} {vH : Value} (h : dskAt B w d s vH) (n : Int) : dskAt B (w.setCell ⟨d, 1, none⟩ (.int .i64 n)) d { s with day := { s.day with plan := { s.day.plan with bins := n } } } vH := by
  have ho := h.obj
  obtain ⟨vL, vO, vF, vN, os, h0, h1, h2, h3, h4, h5, h6⟩ := h
  refine ⟨vL, vO, vF, vN, os, ?_, own_d h1 ho (by decide) 1, own_d h2 ho (by decide) 1, own_d h3 ho (by decide) 1, own_d h4 ho (by decide) 1, isN_d h5 ho (by decide) (by decide) 1, h6⟩
  have := heap_setCell_same w d 1 _ _ (.int .i64 n) h0
  rw [this]
  rfl
theorem dskAt.setPasses {B d : Nat} {w : World} {s : Dsk} {vH : Value} (h : dskAt B w d s vH) (n : Int) : dskAt B (w.setCell ⟨d, 2, none⟩ (.int .i64 n)) d { s with day := { s.day with plan := { s.day.plan with passes := n } } } vH := by
  have ho := h.obj
  obtain ⟨vL, vO, vF, vN, os, h0, h1, h2, h3, h4, h5, h6⟩ := h
  refine ⟨vL, vO, vF, vN, os, ?_, own_d h1 ho (by decide) 2, own_d h2 ho (by decide) 2, own_d h3 ho (by decide) 2, own_d h4 ho (by decide) 2, isN_d h5 ho (by decide) (by decide) 2, h6⟩
  have := heap_setCell_same w d 2 _ _ (.int .i64 n) h0
  rw [this]
  rfl
theorem dskAt.setOrder {B d : Nat} {w : World} {s : Dsk} {vH v' : Value} {cs : List ByteArray} (h : dskAt B w d s vH) (hn : own 9 B w v' cs) (ha : apart v' vH) : dskAt B (w.setCell ⟨d, 3, none⟩ v') d { s with day := { s.day with plan := { s.day.plan with order := cs } } } vH := by
  have ho := h.obj
  obtain ⟨vL, vO, vF, vN, os, h0, h1, h2, h3, h4, h5, h6⟩ := h
  refine ⟨vL, v', vF, vN, os, ?_, own_d h1 ho (by decide) 3, own_d hn ho (by decide) 3, own_d h3 ho (by decide) 3, own_d h4 ho (by decide) 3, isN_d h5 ho (by decide) (by decide) 3, ha⟩
  have := heap_setCell_same w d 3 _ _ v' h0
  rw [this]
  rfl

set_option maxRecDepth 100000 in
set_option maxHeartbeats 1600000 in
theorem desk_setLetters (B d : Nat) (s : Dsk) (vH v : Value) (xs : List Ltr) (ok : Bool) (w : World) (hD : dskAt B w d s vH) (ho : own 89 B w v xs) (hT : TabW w) :
    Calls Tryz.prog 132 #[.pointer (some ⟨d, 0, none⟩), v, .bool ok] w (lineQ B d (if ok then { s with letters := xs } else s) vH (if ok then fmtB xs else ⟨#[]⟩) w) := by
  have HD := Lib.hid hD
  have HO := Lib.hid ho
  have HT := Lib.hid (hT.setD hD 0 v)
  obtain ⟨A, n, c, rfl, -, -, -, -⟩ := ho.rd
  obtain ⟨_, _, _, _, _, ⟨c0, _, _, _, _, _, _, _⟩, hf, _⟩ := dsk_cells hD
  have f0 := hf 0
  clear hD ho hT hf
  cases ok
  · go_enter Tryz.func132, Tryz.ntmps132
    go_wp2_with fail
    go_ret
    exact lineQ.of_read HD.out rfl (Below.refl _ _)
  · have HF := Lib.hid (impl_FormatBatch _ xs _ (own_d (u := .slice A n c) HO.out HD.out.obj (by decide) 0).rd HT.out)
    go_enter Tryz.func132, Tryz.ntmps132
    go_wp2_with fail
    refine HF.out.mono ?_
    rintro e w1 ⟨rfl, b1⟩
    have hb1 := Lib.hid b1; clear b1
    go_wp2_with fail
    go_ret
    exact lineQ.post ⟨rfl, vH, HD.out.setLetters HO.out, (Kd.of_below (Below.refl _ _)).set 0 _, heldN.refl _ _⟩ hb1.out

set_option maxRecDepth 100000 in
set_option maxHeartbeats 1600000 in
theorem desk_setPlan (B d : Nat) (s : Dsk) (vH : Value) (p : Pln) (w : World) (hD : dskAt B w d s vH) (hB : B ≤ w.heap.size) (hk : planOk p = true) :
    Calls Tryz.prog 134 #[.pointer (some ⟨d, 0, none⟩), .string (fmtPl p)] w (lineQ B d { s with day := { s.day with plan := p } } vH okW w) := by
  have HD := Lib.hid hD
  have HP : Hid (∀ W : World, Calls Tryz.prog 198 #[.string (fmtPl p)] W fun e w' => ∃ vo, e = .returned (.tuple #[.agg #[.int .i64 p.bins, .int .i64 p.passes, vo], .bool true]) ∧ own 9 W.heap.size w' vo p.order ∧ Below W.heap.size W w') := fun W => by
    have h := impl_ParsePlan (fmtPl p) W (by have := fmtPl_size p; omega)
    rw [(pla_fmt hk).1, (pla_fmt hk).2] at h
    exact h
  obtain ⟨pb, pp, po⟩ := p
  simp only at HP
  clear hk
  have hdl := hD.lt
  clear hD
  go_enter Tryz.func134, Tryz.ntmps134
  go_wp2_with fail
  refine (HP.out _).mono ?_
  rintro e w1 ⟨vo, rfl, o1, b1⟩
  have hap : apart vo vH := by
    unfold apart
    cases hv : vo.ownBlock with
    | none => exact .inl rfl
    | some k =>
      refine .inr fun e => ?_
      have h1 := (o1.blk k hv).1
      have h2 := (HD.out.held.blk k e.symm).2
      omega
  obtain ⟨A, n, c, rfl, -, -, -, -⟩ := o1.rd
  obtain ⟨w2, hw2⟩ : ∃ u, u = w1.alloc (Obj.cells #[.int .i64 pb, .int .i64 pp, .slice A n c] 25) := ⟨_, rfl⟩
  have hb2 : w2.heap[w1.heap.size]? = some (.cells #[.int .i64 pb, .int .i64 pp, .slice A n c] 25 (0, 0)) := by rw [hw2]; exact heap_alloc_new w1 _
  have hl2 : Below w.heap.size w w2 := by rw [hw2]; exact b1.alloc b1.size _
  have ho2 : own 9 w.heap.size w2 (.slice A n c) po := by rw [hw2]; exact o1.alloc _
  have hs1 := b1.size
  obtain ⟨q0, q1, q2, _, _, _⟩ := threeF hb2
  have HD2 := Lib.hid (HD.out.below hl2)
  obtain ⟨_, _, _, _, _, ⟨_, c1, c2, c3, _, _, _, _⟩, hf, _⟩ := dsk_cells HD2.out
  have f1 := hf 1; have f2 := hf 2; have f3 := hf 3
  have HO2 := Lib.hid (ho2.base_ hB); have HL2 := Lib.hid hl2; have HAP := Lib.hid hap
  have hne : w1.heap.size ≠ d := by omega
  clear o1 b1 hb2 hl2 ho2 hf hap
  subst hw2
  go_wp2_with fail
  go_ret
  exact ⟨rfl, vH, ((HD2.out.setBins pb).setPasses pp).setOrder (own_d (own_d HO2.out HD2.out.obj (by decide) 1) (HD2.out.setBins pb).obj (by decide) 2) HAP.out, (((Kd.of_below HL2.out).set 1 _).set 2 _).set 3 _, heldN.refl _ _⟩

/-! ### Lines of a word and a rest -/
set_option maxRecDepth 100000 in
set_option maxHeartbeats 1600000 in
theorem line_letters (B d : Nat) (s : Dsk) (vH : Value) (xs : List Ltr) (w : World) (hD : dskAt B w d s vH) (hB : B ≤ w.heap.size) (hT : TabW w) (hk : okB xs = true) :
    Calls Tryz.prog 68 #[.pointer (some ⟨d, 0, none⟩), .string (lnOne lettersWd (fmtB xs))] w (lineQ B d { s with letters := xs } vH (fmtB xs) w) := by
  have hz := fmtB_size xs
  have HK : Hid (Calls Tryz.prog 130 #[.string (lnOne lettersWd (fmtB xs)), .string ⟨#[32]⟩] w fun e w' => e = .returned (.tuple #[.string lettersWd, .string (fmtB xs), .bool true]) ∧ Below w.heap.size w w') := (strings_Cut1 (lnOne lettersWd (fmtB xs)) 32 w (by rw [lnOne_size]; unfold maxLen; show 7 + 1 + _ ≤ _; omega)).mono fun e w' h => by
    have hcut : cutAt 32 (lnOne lettersWd (fmtB xs)) = some (lettersWd, fmtB xs) := cut_app (by decide)
    obtain ⟨hb, ⟨h, _⟩ | ⟨p, q, h, he⟩⟩ := h
    · rw [hcut] at h; cases h
    · rw [hcut] at h; cases h; exact ⟨he, hb⟩
  have HP : Hid (∀ W : World, Below w.heap.size w W → Calls Tryz.prog 133 #[.string (fmtB xs)] W fun e w' => ∃ v', e = .returned (.tuple #[v', .bool true]) ∧ own 89 W.heap.size w' v' xs ∧ Below W.heap.size W w') := fun W hW => by
    have h := impl_ParseBatch (fmtB xs) W (by unfold maxLen; omega) (hT.on hW)
    rw [(pb_fmt hk).1, (pb_fmt hk).2] at h
    exact h
  have HD := Lib.hid hD; have HTT := Lib.hid hT
  clear hD hT hk
  generalize lnOne lettersWd (fmtB xs) = line at *
  have HFX : Hid (fmtB xs = fmtB xs) := rfl
  obtain ⟨F, hF⟩ : ∃ F, fmtB xs = F := ⟨_, rfl⟩
  rw [hF] at HK HP
  have HFF := Lib.hid hF; clear hF hz HFX
  have q_t : (lettersWd.toList == [108, 101, 116, 116, 101, 114, 115]) = true := by rw [ByteArray.toList_eq]; decide
  generalize lettersWd = wd at *
  go_enter Tryz.func68, Tryz.ntmps68
  go_wp2_with fail
  refine HK.out.mono ?_
  rintro e w1 ⟨rfl, b1⟩
  have HB1 := Lib.hid b1; clear b1
  go_wp2_with fail
  refine (HP.out _ HB1.out).mono ?_
  rintro e w2 ⟨v2, rfl, o2, b2⟩
  have HB2 := Lib.hid (later_trans HB1.out b2)
  have HC := Lib.hid (desk_setLetters B d s vH v2 xs true w2 (HD.out.below HB2.out) (o2.base_ (Nat.le_trans hB HB1.out.size)) (HTT.out.on HB2.out))
  obtain ⟨A, n, c, rfl, -, -, -, -⟩ := o2.rd
  clear o2 b2
  go_wp2_with fail
  refine HC.out.mono ?_
  rintro e w3 h3
  simp only [if_true] at h3
  have H3 := Lib.hid h3
  obtain ⟨rfl, _⟩ := h3
  go_wp2_with fail
  go_ret
  exact lineQ.pre HB2.out H3.out

set_option maxRecDepth 100000 in
set_option maxHeartbeats 1600000 in
theorem line_plan (B d : Nat) (s : Dsk) (vH : Value) (p : Pln) (w : World) (hD : dskAt B w d s vH) (hB : B ≤ w.heap.size) (hk : planOk p = true) :
    Calls Tryz.prog 68 #[.pointer (some ⟨d, 0, none⟩), .string (lnOne planWd (fmtPl p))] w (lineQ B d { s with day := { s.day with plan := p } } vH okW w) := by
  have hz := fmtPl_size p
  have HK : Hid (Calls Tryz.prog 130 #[.string (lnOne planWd (fmtPl p)), .string ⟨#[32]⟩] w fun e w' => e = .returned (.tuple #[.string planWd, .string (fmtPl p), .bool true]) ∧ Below w.heap.size w w') := (strings_Cut1 (lnOne planWd (fmtPl p)) 32 w (by rw [lnOne_size]; unfold maxLen; show 4 + 1 + _ ≤ _; omega)).mono fun e w' h => by
    have hcut : cutAt 32 (lnOne planWd (fmtPl p)) = some (planWd, fmtPl p) := cut_app (by decide)
    obtain ⟨hb, ⟨h, _⟩ | ⟨p, q, h, he⟩⟩ := h
    · rw [hcut] at h; cases h
    · rw [hcut] at h; cases h; exact ⟨he, hb⟩
  have HC : Hid (∀ W, Below w.heap.size w W → Calls Tryz.prog 134 #[.pointer (some ⟨d, 0, none⟩), .string (fmtPl p)] W (lineQ B d { s with day := { s.day with plan := p } } vH okW W)) := fun W hW => desk_setPlan B d s vH p W (hD.below hW) (Nat.le_trans hB hW.size) hk
  clear hD hk hz
  generalize lnOne planWd (fmtPl p) = line at *
  generalize fmtPl p = F at *
  have q_0 : (planWd.toList == [108, 101, 116, 116, 101, 114, 115]) = false := by rw [ByteArray.toList_eq]; decide
  have q_t : (planWd.toList == [112, 108, 97, 110]) = true := by rw [ByteArray.toList_eq]; decide
  generalize planWd = wd at *
  go_enter Tryz.func68, Tryz.ntmps68
  go_wp2_with fail
  refine HK.out.mono ?_
  rintro e w1 ⟨rfl, b1⟩
  have HB1 := Lib.hid b1; clear b1
  go_wp2_with fail
  refine (HC.out _ HB1.out).mono ?_
  rintro e w2 ⟨rfl, h2⟩
  go_wp2_with fail
  go_ret
  exact lineQ.pre HB1.out ⟨rfl, h2⟩

/-! ### Words -/
end Go.Proofs.YtpinkbodbedajaaGreatDoor
