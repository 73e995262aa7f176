/- NI DR YA YB -/
import Derived.Test.YtpinkbodbedajaaGreatDoorQ21
import Derived.Test.YtpinkbodbedajaaGreatDoorQ20
import Derived.Test.YtpinkbodbedajaaGreatDoorQ12
import Derived.Deep.RegionHeld3
import Derived.Test.YtpinkbodbedajaaGreatDoorQ4
namespace Go.Proofs.YtpinkbodbedajaaGreatDoor
open Go.RowKit


theorem dec_is {d : Nat} (h : d < 10) {w : World} : Calls Tryz.prog 142 #[.int .i64 d] w fun e w' => e = .returned (.string (dgB d)) ∧ Below w.heap.size w w' := by
  rw [← dgB_dec d h]; exact spec_l9Dec d w (by omega)

theorem fpS_yes {net : List Ofc} {s : ByteArray} {q : Nat} (h : netOk net = true) (hq : offI net s = q) : fpS net s = faultsN net q 8 ⟨#[]⟩ := by
  unfold fpS
  rw [h, hq, decide_eq_true (by omega), Int.toNat_natCast]
  rfl
theorem fpS_no {net : List Ofc} {s : ByteArray} (h : (netOk net && decide (0 ≤ offI net s)) = false) : fpS net s = [] := by
  unfold fpS; rw [h]; rfl

set_option maxHeartbeats 800000 in
theorem impl_FaultyPrefixes (v : Value) (net : List Ofc) (s : ByteArray) (w : World) (hv : rd w w.heap.size v net) :
    Calls Tryz.prog 31 #[v, .string s] w fun e w' => ∃ v', e = .returned v' ∧ own 9 w.heap.size w' v' (fpS net s) ∧ Below w.heap.size w w' := by
  have HV := Lib.hid hv; clear hv
  have l0 := Below.refl w.heap.size w
  obtain ⟨r, hr⟩ : ∃ r, offI net s = r := ⟨_, rfl⟩
  have HNO := Lib.hid (fun h => fpS_no (net := net) (s := s) h)
  rw [hr] at HNO
  have HRR := Lib.hid hr; clear hr
  go_enter Tryz.func31, Tryz.ntmps31
  go_wp2_with fail
  refine (impl_officeOf _ net s _ HV.out).mono ?_
  rw [HRR.out]
  rintro e w1 ⟨rfl, b1⟩
  go_wp2_with fail
  refine (impl_NetworkValid _ net _ (HV.out.on b1)).mono ?_
  rintro e w2 ⟨rfl, b2⟩
  have l2 := later_trans b1 b2
  cases h1 : netOk net
  · have HF : Hid (fpS net s = []) := HNO.out (by rw [h1]; rfl)
    clear h1
    go_wp2_with fail
    go_ret
    exact ⟨_, rfl, by rw [HF.out]; exact own.nil_ _ _ _, l2⟩
  have H1 := Lib.hid h1; clear h1
  by_cases hr0 : r < 0
  · have HF : Hid (fpS net s = []) := HNO.out (by rw [decide_eq_false (by omega)]; simp)
    go_wp2_with fail
    go_ret
    exact ⟨_, rfl, by rw [HF.out]; exact own.nil_ _ _ _, l2⟩
  obtain ⟨q, hq⟩ := Int.eq_ofNat_of_zero_le (show 0 ≤ r by omega)
  subst hq
  obtain ⟨hql, hqn⟩ := offI_at HRR.out
  have HF := Lib.hid (fpS_yes H1.out HRR.out)
  clear hqn hr0
  go_wp2_with fail
  refine (impl_faultyBelow net q H1.out hql 8 ⟨#[]⟩ _ _ rfl (by omega) (HV.out.on l2)).mono ?_
  rw [← HF.out]
  rintro e w3 ⟨v3, rfl, o3, b3⟩
  have HO3 := Lib.hid (o3.base_ l2.size); clear o3
  have l3 := later_trans l2 b3
  obtain ⟨A3, n3, c3, rfl, hn3, _, _, _⟩ := HO3.out.rd
  subst hn3
  go_wp2_with fail
  go_ret
  exact ⟨_, rfl, HO3.out, l3⟩

end Go.Proofs.YtpinkbodbedajaaGreatDoor

namespace Go.Proofs.YtpinkbodbedajaaGreatDoor
open Go.RowKit

theorem own_cellStr {T base g n c : Nat} {w : World} {xs : List ByteArray} (h : own T base w (.slice (some ⟨g, 0, none⟩) n c) xs) (k : Nat) (hk : k < xs.length) : (xs[k]).size ≤ maxLen ∧ w.cell? ⟨g, k, none⟩ = some (.string xs[k]) := by
  obtain ⟨A, n', c', hv, _, _, _, hrd⟩ := h.rd
  obtain ⟨b, o, hA, _, hok, c1⟩ := hrd.str k hk
  injection hv with e1 _ _
  subst e1
  injection hA with hA
  injection hA with hA1 hA2
  subst hA1 hA2
  rw [Nat.zero_add] at c1
  exact ⟨hok, c1⟩

theorem kept2.cell {g b : Nat} {w w' : World} (h : kept2 g b w w') (p : Addr) (hp : p.block < b) (hne : p.block ≠ g) : w'.cell? p = w.cell? p :=
  World.cell?_of_block (h.block p.block hp hne)
theorem kept2.step {g b : Nat} {u w w' : World} (h : kept2 g b u w) (hg : w.grownBy w' (some g)) (hb : b ≤ u.heap.size) : kept2 g b u w' :=
  h.trans (kept2.grown hg (Nat.le_trans hb h.size))

theorem kept2.set {g b : Nat} {u w : World} (h : kept2 g b u w) (p : Addr) (hp : b ≤ p.block) (v : Value) : kept2 g b u (w.setCell p v) := h.trans (kept2.below ((Below.refl _ _).setCell (p := p) hp v))

set_option maxRecDepth 100000 in
set_option maxHeartbeats 2000000 in
theorem rd_l3Mail (g p b0 : Nat) (v : Value) (x : Pln) (w : World) (hr : rdr w g p) (hp : p ≤ 10000000000) (hv : ownP 9 b0 w v x) (hb0 : g < b0) (hd : drawnP x) :
    Calls Tryz.prog 159 #[.pointer (some ⟨g, 0, none⟩), v] w fun e w' => ∃ (v' : Value) (xs : List Ltr) (p' : Nat), e = .returned v' ∧ own 89 w.heap.size w' v' xs ∧ xs.length ≤ 14 ∧ (∀ y ∈ xs, y.code.size = 7) ∧ rdr w' g p' ∧ p' ≤ p + 300 ∧ w.grownBy w' (some g) := by
  have hlt := hr.lt
  obtain ⟨vo, rfl, i1, i2, ho⟩ := hv
  obtain ⟨_, _, _, _, hl1, hl2, hdc⟩ := hd
  rcases ho.form with ⟨_, h0⟩ | ⟨go, c0, rfl, hgo, hgl, hc0, hm0⟩
  · rw [h0] at hl1; simp at hl1
  unfold maxLen at hm0
  have HDC := Lib.hid hdc; clear hdc
  have hgo' : go ≠ g := by omega
  have hra := hr.alloc (Obj.cells #[.int .i64 x.bins, .int .i64 x.passes, .slice (some ⟨go, 0, none⟩) x.order.length c0] 25)
  obtain ⟨wb, hwb⟩ : ∃ u, u = w.alloc (Obj.cells #[.int .i64 x.bins, .int .i64 x.passes, .slice (some ⟨go, 0, none⟩) x.order.length c0] 25) := ⟨_, rfl⟩
  have hzb : wb.heap.size = w.heap.size + 1 := by rw [hwb]; simp
  have hbb : wb.heap[w.heap.size]? = some (.cells #[.int .i64 x.bins, .int .i64 x.passes, .slice (some ⟨go, 0, none⟩) x.order.length c0] 25 (0, 0)) := by rw [hwb]; exact heap_alloc_new w _
  have hgb : w.grownBy wb (some g) := by rw [hwb]; exact World.grownBy_alloc w _ _
  have hob : own 9 b0 wb (.slice (some ⟨go, 0, none⟩) x.order.length c0) x.order := by
    rw [hwb]; exact ho.below ((Below.refl _ _).alloc (Nat.le_refl _) _)
  have U2 : ∀ W, kept2 g wb.heap.size wb W → W.cell? ⟨w.heap.size, 2, none⟩ = some (.slice (some ⟨go, 0, none⟩) x.order.length c0) := fun W h => (h.cell ⟨w.heap.size, 2, none⟩ (by simp; omega) (by simp; omega)).trans (by rw [cell_of_row _ _ _ _ _ _ hbb]; rfl)
  have UO : Hid (∀ W, kept2 g wb.heap.size wb W → ∀ k (hk : k < x.order.length), W.cell? ⟨go, k, none⟩ = some (.string x.order[k])) := fun W h k hk => (h.cell ⟨go, k, none⟩ (by simp; omega) hgo').trans (own_cellStr hob k hk).2
  have HWB := Lib.hid hwb; have HBB := Lib.hid hbb; have HOB := Lib.hid hob
  rw [← hwb] at hra
  clear hwb hbb hob ho
  have hxo : (0 : Int) < (x.order.length : Int) := by omega
  go_enter Tryz.func159, Tryz.ntmps159
  go_wp2_with fail
  rw [← HWB.out]
  refine (rd_pick g p 4 _ hra (by omega) (by unfold isI64; omega)).mono ?_
  rintro e w1 ⟨y, rfl, hy, hr1, hg1⟩
  obtain ⟨y0, y1⟩ := hy.2 (by omega)
  obtain ⟨N, rfl⟩ := Int.eq_ofNat_of_zero_le y0
  have k1 : kept2 g wb.heap.size wb w1 := kept2.grown hg1 (Nat.le_refl _)
  replace hg1 := grown_trans hgb hg1
  clear hy hra hgb
  have hz1 := k1.size
  go_wp2_with fail
  refine (rd_l2Some g (p + 1) (1 + N) _ hr1 (by omega) (by omega) (by omega)).mono ?_
  rintro e w2 ⟨v2, xs0, q0, rfl, ho2, hx0, hx7, hr2, hq2, hg2⟩
  have k2 : kept2 g wb.heap.size wb w2 := k1.step hg2 (Nat.le_refl _)
  replace hg2 := grown_trans hg1 hg2
  have ho2' := ho2.base_ (base' := wb.heap.size) hz1
  have HO2 := Lib.hid ho2'
  have HX0 := Lib.hid hx7
  have HG2 := Lib.hid hg2
  clear ho2 hx7 hg1 hr1 k1 hg2
  rcases ho2'.form with ⟨rfl, rfl⟩ | ⟨gl, cl, rfl, hgl1, hgl2, hcl, hml⟩
  · clear ho2'
    go_wp2_with fail
    go_loopw [6] (fun i wr => i = .int .i64 0 ∧ wr = w2) (fun _ _ => 0)
    case atStart => exact ⟨rfl, rfl⟩
    case round =>
      obtain ⟨rfl, rfl⟩ := hrel
      go_wp2_with fail
      go_ret
      exact ⟨_, [], q0, rfl, own.nil_ _ _ _, by simp, fun y hy => by simp at hy, hr2, by omega, HG2.out⟩
  clear ho2'
  unfold maxLen at hml
  have hglg : gl ≠ g := by omega
  go_wp2_with fail
  go_loopw [6] (fun i wr => ∃ (k : Nat) (xs : List Ltr) (q : Nat), k ≤ xs0.length ∧ i = .int .i64 k ∧ Hid (xs.length = xs0.length) ∧ Hid (own 89 wb.heap.size wr (.slice (some ⟨gl, 0, none⟩) xs0.length cl) xs) ∧ Hid (∀ y ∈ xs, y.code.size = 7) ∧ rdr wr g q ∧ q ≤ q0 + 2 * k ∧ kept2 g wb.heap.size wb wr) (fun i _ => xs0.length - (intOf i).toNat)
  case atStart => exact ⟨0, xs0, q0, Nat.zero_le _, rfl, rfl, HO2.out, HX0.out, hr2, by omega, k2⟩
  case round =>
    obtain ⟨k, xs, q, hk, rfl, HL, HO, HX, hrq, hqb, kr⟩ := hrel
    obtain ⟨w3, rfl⟩ : ∃ w3 : World, w3 = wr := ⟨_, rfl⟩
    clear hr2 k2
    by_cases hkl : k < xs0.length
    · have hki : (k : Int) < (xs0.length : Int) := by omega
      go_wp2_with fail
      refine (rd_pick g q 6 _ hrq (by omega) (by unfold isI64; omega)).mono ?_
      rintro e w4 ⟨y, rfl, hy, hr4, hg4⟩
      have k4 : kept2 g wb.heap.size wb w4 := kr.step hg4 (Nat.le_refl _)
      have HO4 : Hid (own 89 wb.heap.size w4 (.slice (some ⟨gl, 0, none⟩) xs0.length cl) xs) := HO.out.grown hg4 (.inr (fun e => hglg (by injection e)))
      clear hg4 kr hrq
      by_cases hy0 : 0 < y
      · clear hy
        have c2 := U2 _ k4
        go_wp2_with fail
        clear c2
        have kd : kept2 g wb.heap.size wb w4.drew := ⟨k4.os, k4.tape, k4.output, k4.size, k4.block⟩
        have HR4 : Hid (rdr w4.drew g (q + 1)) := hr4.below ((Below.refl _ _).drew)
        have HOD : Hid (own 89 wb.heap.size w4.drew (.slice (some ⟨gl, 0, none⟩) xs0.length cl) xs) := HO4.out.below ((Below.refl _ _).drew)
        have hkx : k < xs.length := by have := HL.out; omega
        have hid := (own_ltr HO4.out k hkx).1.1
        have HSET := Lib.hid (fun (W : World) (s : ByteArray) (hs : s.size ≤ maxLen) (ho : own 89 wb.heap.size W (.slice (some ⟨gl, 0, none⟩) xs0.length cl) xs) => ho.setCell (k := k) (j := 1) hkx (by decide) (.string s) ⟨xs[k].id, s⟩ (fun ecs he => by
          obtain ⟨_, rfl⟩ := he
          exact ⟨⟨hid, hs⟩, rfl⟩))
        clear hid k4 hr4 HO4
        have cD := U2 _ kd
        have UD := Lib.hid U2; clear U2
        have cE := UO.out _ kd
        go_region_held3 (fun W => W.cell? ⟨w.heap.size, 2, none⟩ = some (.slice (some ⟨go, 0, none⟩) x.order.length c0) ∧ ∀ j (hj : j < x.order.length), W.cell? ⟨go, j, none⟩ = some (.string x.order[j])) (first | exact ⟨cD, cE⟩ | exact ⟨c5, cO⟩ | exact ⟨UD.out _ (k5.set ⟨gl, k * 2 + 1, none⟩ hgl1 _), UO.out _ (k5.set ⟨gl, k * 2 + 1, none⟩ hgl1 _)⟩) (first | (go_at_call 100; refine (rd_pick g (q + 1) x.order.length _ HR4.out (by omega) (by unfold isI64; omega)).mono ?_; rintro e w5 ⟨z, rfl, hz, hr5, hg5⟩; obtain ⟨z0, z1⟩ := hz.2 (by omega); obtain ⟨m, rfl⟩ := Int.eq_ofNat_of_zero_le z0; have k5 := kd.step hg5 (Nat.le_refl _); have c5 := UD.out _ k5; have hmo : m < x.order.length := (by omega); have cO := UO.out _ k5; have hs7 := HDC.out x.order[m] (List.getElem_mem _); have ho5 : own 89 wb.heap.size w5 (.slice (some ⟨gl, 0, none⟩) xs0.length cl) xs := HOD.out.grown hg5 (.inr (fun e => hglg (by injection e))); obtain ⟨u1, g1⟩ := ho5.cellAt (j := k * 2 + 1) (by show _ < _ * 2; omega); have f1 := ho5.freeAt (k * 2 + 1); have HO5 := Lib.hid ho5; have HS7 := Lib.hid hs7; have HR5 := Lib.hid hr5; clear hz hg5 ho5 hs7 hr5))
        clear cD cE c5 cO g1 f1
        have k6 := k5.set ⟨gl, k * 2 + 1, none⟩ hgl1 (.string x.order[m])
        have HO6 : Hid (own 89 wb.heap.size (w5.setCell ⟨gl, k * 2 + 1, none⟩ (.string x.order[m])) (.slice (some ⟨gl, 0, none⟩) xs0.length cl) (xs.set k ⟨xs[k].id, x.order[m]⟩)) := HSET.out w5 _ (by rw [HS7.out]; decide) HO5.out
        have HR6 := Lib.hid (HR5.out.grown (g' := gl) (grown_setCell (p := ⟨gl, k * 2 + 1, none⟩) (World.grownBy.refl w5 (some gl)) (.inl rfl) (.string x.order[m])) (by omega))
        go_wp2_with fail
        go_roundw
        case rel =>
          refine ⟨k + 1, _, q + 1 + 1, by omega, by go_num, ?_, HO6, ?_, HR6.out, by omega, k6⟩
          · show _ = _
            have := HL.out
            simpa using this
          · intro z hz
            rcases List.mem_or_eq_of_mem_set hz with h | h
            · exact HX.out z h
            · rw [h]; exact HS7.out
        case measure => simp [intOf]; omega
      · go_wp2_with fail
        go_roundw
        case rel => exact ⟨k + 1, xs, q + 1, by omega, by go_num, HL, HO4, HX, hr4, by omega, k4⟩
        case measure => simp [intOf]; omega
    · go_wp2_with fail
      go_ret
      refine ⟨_, xs, q, rfl, HO.out.base_ (by omega), by have := HL.out; omega, HX.out, hrq, by omega, ?_⟩
      exact ⟨kr.os.trans (by rw [HWB.out]; rfl), kr.tape.trans (by rw [HWB.out]; rfl), kr.output.trans (by rw [HWB.out]; rfl), by have := kr.size; omega, fun i hi hne => (kr.block i (by omega) (fun e => hne (by rw [e]))).trans (by rw [HWB.out]; exact heap_alloc_old w _ hi)⟩

end Go.Proofs.YtpinkbodbedajaaGreatDoor

namespace Go.Proofs.YtpinkbodbedajaaGreatDoor
open Go.RowKit

theorem Tryz.infoFwdI : (Tryz.prog.info? 94).map (fun i => (i.zero, i.size, i.bytes)) = some (some (.agg #[.string ⟨#[]⟩, .string ⟨#[]⟩]), 2, 32) := by kernel_rfl
theorem kept2.allocO {g : Nat} {u w : World} (h : kept2 g u.heap.size u w) (o : Obj) : kept2 g u.heap.size u (w.alloc o) := h.trans (kept2.below ((Below.refl _ _).alloc h.size o))
/-- Behind an append to a row of one's own. -/
theorem appendedA {α : Type} [Flat α] {T g q : Nat} {w0 W w4 : World} {v : Value} {ms : List α} {o : Obj} (hr : rdr W g q) (k : kept2 g w0.heap.size w0 W) (ho : own T w0.heap.size (W.alloc o) v ms) (hg : (W.alloc o).grownBy w4 v.ownBlock) (hlt : g < w0.heap.size) :
    rdr w4 g q ∧ kept2 g w0.heap.size w0 w4 :=
  ⟨(hr.alloc o).append ho hg hlt, k.trans (kept2.below (((Below.refl _ _).alloc k.size _).trans (below_append ho hg (by simp; have := k.size; omega))))⟩

set_option maxRecDepth 100000 in
set_option maxHeartbeats 400000 in
theorem rd_l4Code (g p : Nat) (w : World) (hr : rdr w g p) (hp : p ≤ 1000000000000) :
    Calls Tryz.prog 106 #[.pointer (some ⟨g, 0, none⟩)] w fun e w' => ∃ s : ByteArray, e = .returned (.string s) ∧ s.size = 7 ∧ rdr w' g (p + 1) ∧ w.grownBy w' (some g) := by
  have hlt := hr.lt
  go_enter Tryz.func106, Tryz.ntmps106
  go_wp2_with fail
  refine (rd_pick g p 9 _ hr (by omega) (by unfold isI64; omega)).mono ?_
  rintro e w1 ⟨y, rfl, hy, hr1, hg1⟩
  obtain ⟨y0, y1⟩ := hy.2 (by omega)
  obtain ⟨N, rfl⟩ := Int.eq_ofNat_of_zero_le y0
  clear hy
  go_wp2_with fail
  refine (spec_l1Show N 2 _ (by omega) (by omega)).mono ?_
  rintro e w2 ⟨rfl, b2⟩
  have hs := showB_size N 2
  generalize showB N 2 = s at *
  have hr2 := hr1.below b2
  have hg2 := grown_below hg1 b2
  have HS : Hid (((⟨#[49, 50, 48, 48, 49]⟩ : ByteArray) ++ s).size = 7) := by show _ = _; rw [ByteArray.size_append, hs]; rfl
  go_wp2_with fail
  go_ret
  exact ⟨_, rfl, HS.out, hr2, hg2⟩

def drawnF (fs : List Fwd) : Prop := ∀ x ∈ fs, x.src.size = 7 ∧ x.dst.size = 7
set_option maxRecDepth 100000 in
set_option maxHeartbeats 1000000 in
theorem rd_l4Some (g p : Nat) (w : World) (hr : rdr w g p) (hp : p ≤ 100000000000) :
    Calls Tryz.prog 105 #[.pointer (some ⟨g, 0, none⟩)] w fun e w' => ∃ (v : Value) (fs : List Fwd) (p' : Nat), e = .returned v ∧ own 94 w.heap.size w' v fs ∧ fs.length ≤ 8 ∧ drawnF fs ∧ rdr w' g p' ∧ p' ≤ p + 20 ∧ w.grownBy w' (some g) := by
  have hlt := hr.lt
  obtain ⟨i0, hi, hz0, hzz1, hzz2⟩ := info_parts Tryz.infoFwdI
  go_enter Tryz.func105, Tryz.ntmps105
  go_wp2_with fail
  have oE := own.made0 (α := Fwd) w 94 (Nat.le_refl _)
  have hrE := hr.alloc (Obj.cells #[] 94)
  have kE : kept2 g w.heap.size w (w.alloc (Obj.cells #[] 94)) := kept2.below ((Below.refl _ _).alloc (Nat.le_refl _) _)
  have hzA : w.heap.size + 1 = (w.alloc (Obj.cells #[] 94)).heap.size := by simp
  generalize w.alloc (Obj.cells #[] 94) = wA at *
  rw [hzA]
  have HZA := Lib.hid hzA; clear hzA
  have hltA := hrE.lt
  refine (rd_num 3 g p _ [4, 3, 6, 2, 8, 0] _ (hrE.alloc _) (by omega) (list_own 3 (g + 1) wA [4, 3, 6, 2, 8, 0] (by simp [isI64]) (by decide) (by omega)) (by decide)).mono ?_
  rintro e w1 ⟨n, hn, rfl, hr1, hg1⟩
  replace hg1 : wA.grownBy w1 (some g) := grown_trans (World.grownBy_alloc wA _ _) hg1
  have k1 := kE.step hg1 (Nat.le_refl _)
  have o1 := oE.grown hg1 (own_ne oE hlt)
  have hn2 : 0 ≤ n ∧ n ≤ 8 := by simp at hn; omega
  obtain ⟨hn0, hn1⟩ := hn2
  obtain ⟨N, rfl⟩ := Int.eq_ofNat_of_zero_le hn0
  clear hn oE hrE kE hg1
  go_wp2_with fail
  go_loopw [3, 4] (fun t i wr => ∃ (k : Nat) (fs : List Fwd) (q : Nat), k ≤ N ∧ i = .int .i64 k ∧ Hid (fs.length + k ≤ N) ∧ own 94 w.heap.size wr t fs ∧ Hid (drawnF fs) ∧ rdr wr g q ∧ q + 2 * k ≤ p + 1 + 2 * N ∧ kept2 g w.heap.size w wr) (fun _ i _ => (intOf i).toNat)
  case atStart => exact ⟨N, [], p + 1, Nat.le_refl _, rfl, by show _ ≤ _; simp, o1, fun x hx => by simp at hx, hr1, by omega, k1⟩
  case round =>
    obtain ⟨k, fs, q, hk, rfl, HXK, ho, HX, hrq, hqb, kr⟩ := hrel
    obtain ⟨w2, rfl⟩ : ∃ w2 : World, w2 = wr := ⟨_, rfl⟩
    clear o1 hr1 k1
    have hxl : fs.length ≤ 8 := by have := HXK.out; omega
    obtain ⟨A, m, c, hv, hm, _, _, _⟩ := ho.rd
    subst hm hv
    by_cases hk0 : 0 < k
    · go_wp2_with fail
      refine (rd_l4Code g q _ hrq (by omega)).mono ?_
      rintro e w3 ⟨s, rfl, hs7, hr3, hg3⟩
      have o3 := ho.grown hg3 (own_ne ho hlt)
      have k3 := kr.step hg3 (Nat.le_refl _)
      clear ho hg3 kr hrq
      go_wp2_with fail
      refine (rd_l4Code g (q + 1) _ hr3 (by omega)).mono ?_
      rintro e w4 ⟨t, rfl, ht7, hr4, hg4⟩
      have o4 := o3.grown hg4 (own_ne o3 hlt)
      have k4 := k3.step hg4 (Nat.le_refl _)
      have HS7 := Lib.hid hs7; have HT7 := Lib.hid ht7
      have hsl : s.size ≤ maxLen := by rw [hs7]; decide
      have htl : t.size ≤ maxLen := by rw [ht7]; decide
      have HOK : Hid (Fwd.ok ⟨s, t⟩) := ⟨hsl, htl⟩
      clear o3 hg4 k3 hr3 hs7 ht7
      obtain ⟨wb, hwb⟩ : ∃ u, u = w4.alloc (Obj.cells #[.string s, .string t] 94) := ⟨_, rfl⟩
      have hBb : Below w4.heap.size w4 wb := by rw [hwb]; exact (Below.refl _ _).alloc (Nat.le_refl _) _
      have o5 := o4.below hBb
      have r5 : rdr wb g (q + 1 + 1) := by rw [hwb]; exact hr4.alloc _
      have k5 : kept2 g w.heap.size w wb := by rw [hwb]; exact k4.allocO _
      have hbb : wb.heap[w4.heap.size]? = some (.cells #[.string s, .string t] 94 (0, 0)) := by rw [hwb]; exact heap_alloc_new w4 _
      have e0 : wb.cell? ⟨w4.heap.size, 0, none⟩ = some (.string s) := by rw [cell_of_row _ _ _ _ _ _ hbb]; rfl
      have e1 : wb.cell? ⟨w4.heap.size, 1, none⟩ = some (.string t) := by rw [cell_of_row _ _ _ _ _ _ hbb]; rfl
      have e0' := e0
      rw [hwb] at e0'
      have HWB := Lib.hid hwb
      clear hwb hbb hBb o4 hr4 k4
      go_wp2_with fail
      rw [← HWB.out]
      clear e0'
      refine (spec_l4Index _ fs s _ o5.rd).mono ?_
      obtain ⟨r, HRR⟩ : ∃ r, Hid (fwdI fs s = r) := ⟨_, rfl⟩
      rw [HRR.out]
      rintro e _ ⟨rfl, rfl⟩
      have hz5 := k5.size
      by_cases hr0 : r < 0
      · go_wp2_with (at_builtin; refine wpList_append1 (α := Fwd) rfl (.tmp 24) (.tmp 26) _ rfl w.heap.size 94 i0 _ 32 Tryz.underlying26 hi hz0 hzz1 hzz2 rfl (by decide) (.slice A fs.length c) fs ⟨s, t⟩ rfl (o5.alloc _) ⟨wb.heap.size, 0, none⟩ 1 (Fwd.cells ⟨s, t⟩) rfl ⟨HOK.out, rfl⟩ (news_at wb _ (Fwd.cells ⟨s, t⟩)) (by unfold maxLen; omega) (by omega) (by simp; omega) ?_; intro v' w6 o6 hg6 _)
        obtain ⟨hr6, k6⟩ := appendedA r5 k5 (o5.alloc _) hg6 hlt
        clear hg6
        go_wp2_with fail
        go_roundw
        case rel =>
          refine ⟨k - 1, _, q + 1 + 1, by omega, by go_num, by show _ ≤ _; have := HXK.out; simp; omega, o6, fun x hx => ?_, hr6, by omega, k6⟩
          rcases List.mem_append.1 hx with h | h
          · exact HX.out x h
          · rw [List.mem_singleton.1 h]; exact ⟨HS7.out, HT7.out⟩
        case measure => simp [intOf]; omega
      · go_wp2_with fail
        go_roundw
        case rel => exact ⟨k - 1, fs, q + 1 + 1, by omega, by go_num, by show _ ≤ _; have := HXK.out; omega, o5, HX.out, r5, by omega, k5⟩
        case measure => simp [intOf]; omega
    · go_wp2_with fail
      go_ret
      exact ⟨_, fs, q, rfl, ho, hxl, HX.out, hrq, by omega, kept2.back (World.grownBy.refl w (some g)) kr (Nat.le_refl _)⟩

end Go.Proofs.YtpinkbodbedajaaGreatDoor

namespace Go.Proofs.YtpinkbodbedajaaGreatDoor
open Go.RowKit

theorem own_fwd {T base g n c : Nat} {w : World} {xs : List Fwd} (h : own T base w (.slice (some ⟨g, 0, none⟩) n c) xs) (k : Nat) (hk : k < xs.length) :
    (xs[k]).ok ∧ w.cell? ⟨g, k * 2, none⟩ = some (.string (xs[k]).src) ∧ w.cell? ⟨g, k * 2 + 1, none⟩ = some (.string (xs[k]).dst) := by
  obtain ⟨A, n', c', hv, _, _, _, hrd⟩ := h.rd
  obtain ⟨b, o, hA, _, hok, c1, c2⟩ := hrd.fwdU k hk
  injection hv with e1 _ _
  subst e1
  injection hA with hA
  injection hA with hA1 hA2
  subst hA1 hA2
  have c1 := c1 w (Below.refl _ _)
  have c2 := c2 w (Below.refl _ _)
  rw [Nat.zero_add] at c1 c2
  exact ⟨hok, c1, c2⟩

/-- What l4Bad gives. -/
def l4BadPost (T g p b0 : Nat) (v : Value) (w : World) (e : Ending) (w' : World) : Prop :=
  ∃ (v' : Value) (ys : List Fwd) (p' : Nat), e = .returned v' ∧ own T b0 w' v' ys ∧ ys.length ≤ 31 ∧ rdr w' g p' ∧ p' ≤ p + 5 ∧ kept2 g b0 w w' ∧ keptS (fun k => k = g ∨ v.ownBlock = some k) w w' ∧ (∀ r, v'.ownBlock = some r → v.ownBlock = some r ∨ w.heap.size ≤ r)

set_option maxRecDepth 100000 in
set_option maxHeartbeats 1000000 in
theorem rd_l4Bad (g p b0 : Nat) (v : Value) (xs : List Fwd) (w : World) (hr : rdr w g p) (hp : p ≤ 100000000000) (hv : own 94 b0 w v xs) (hb0 : g < b0) (hx1 : xs.length ≤ 8) (hx2 : drawnF xs) :
    Calls Tryz.prog 102 #[.pointer (some ⟨g, 0, none⟩), v] w (l4BadPost 94 g p b0 v w) := by
  have hlt := hr.lt
  obtain ⟨i0, hi, hz0, hz1, hz2⟩ := info_parts Tryz.infoFwdI
  rcases hv.form with ⟨rfl, rfl⟩ | ⟨gg, c, rfl, hg, hgl, hc, hm⟩
  · go_enter Tryz.func102, Tryz.ntmps102
    go_wp2
    go_ret
    exact ⟨_, [], p, rfl, hv, by simp, hr, by omega, kept2.refl _ _ _, keptS.refl _ _, fun r e => .inl e⟩
  · by_cases h0 : xs.length = 0
    · have hl0 : ((xs.length : Int) == 0) = true := by rw [h0]; rfl
      clear h0
      go_enter Tryz.func102, Tryz.ntmps102
      go_wp2
      go_ret
      exact ⟨_, xs, p, rfl, hv, by omega, hr, by omega, kept2.refl _ _ _, keptS.refl _ _, fun r e => .inl e⟩
    have hl0 : ((xs.length : Int) == 0) = false := beq_eq_false_iff_ne.2 (by omega)
    have hpos : 0 < xs.length := by omega
    have hposi : (0 : Int) < (xs.length : Int) := by omega
    unfold maxLen at hm
    go_enter Tryz.func102, Tryz.ntmps102
    go_wp2_with fail
    refine (rd_pick g p 40 _ hr (by omega) (by unfold isI64; omega)).mono ?_
    rintro e w2 ⟨x, rfl, hx, hr2, hg2⟩
    have ho2 := hv.grown hg2 (own_ne hv hb0)
    clear hx
    have hbw : b0 ≤ w.heap.size := by omega
    have hzw := hg2.size
    have hB2 : kept2 g b0 w w2 := kept2.grown hg2 hbw
    have HS2 : keptS (fun k => k = g ∨ (Value.slice (some ⟨gg, 0, none⟩) xs.length c).ownBlock = some k) w w2 := (keptS.refl _ _).next hg2 fun r e => .inl (.inl (by injection e with e; exact e.symm))
    have hz2' := hr2.lt
    by_cases c0 : x = 0
    · have d0 : (x == 0) = true := by simp [c0]
      clear c0
      obtain ⟨⟨hi1, hi2⟩, c1, c2⟩ := own_fwd ho2 0 hpos
      rw [Nat.zero_mul] at c1 c2
      rw [Nat.zero_add] at c2
      have hcs := (hx2 xs[0] (List.getElem_mem _)).2
      have HCS := Lib.hid hcs; clear hcs
      obtain ⟨S0, hS0⟩ : ∃ S0, S0 = xs[0] := ⟨_, rfl⟩
      have HS0 := Lib.hid hS0
      rw [← hS0] at hi1 hi2 c1 c2
      have HCS2 : Hid (S0.dst.size = 7) := by show _ = _; rw [hS0]; exact HCS.out
      clear hS0
      have hcs7 : S0.dst.size ≤ 7 := by rw [HCS2.out]; omega
      have HQ8 : Hid ((S0.dst ++ (⟨#[49]⟩ : ByteArray)).size = 8) := by show _ = _; rw [ByteArray.size_append, HCS2.out]; rfl
      go_wp2_with fail
      refine (rd_l1Bad g (p + 1) _ _ hr2 (by omega) (by rw [HQ8.out]; omega) (by rw [HQ8.out]; omega)).mono ?_
      rintro e w3 ⟨t, rfl, ht, hr3, hg3⟩
      have ht' : t.size ≤ maxLen := by
        rw [HQ8.out] at ht
        unfold maxLen; omega
      have ho3 := ho2.grown hg3 (own_ne ho2 hb0)
      obtain ⟨u1, g1⟩ := ho3.cellAt (j := 1) (by show _ < _ * 2; omega)
      have f1 := ho3.freeAt 1
      have HO := Lib.hid (ho3.setCell (k := 0) (j := 1) hpos (by decide) (.string t) ⟨S0.src, t⟩ (fun ecs he => by
        obtain ⟨_, rfl⟩ := he
        refine ⟨⟨hi1, ht'⟩, ?_⟩
        rw [← HS0.out]
        rfl))
      have HR : Hid (rdr (w3.setCell ⟨gg, 1, none⟩ (.string t)) g (p + 1 + 1)) := hr3.grown (g' := gg) (grown_setCell (World.grownBy.refl _ _) (.inl rfl) _) (Nat.lt_of_lt_of_le hb0 hg)
      have HB : Hid (kept2 g b0 w (w3.setCell ⟨gg, 1, none⟩ (.string t))) := (hB2.trans (kept2.grown hg3 (by omega))).trans (kept2.below ((Below.refl _ _).setCell (p := ⟨gg, 1, none⟩) hg _))
      have HS3 := (HS2.next hg3 fun r e => .inl (.inl (by injection e with e; exact e.symm))).set ⟨gg, 1, none⟩ (.inl (.inr rfl)) (.string t)
      clear ho3 ht HS2
      go_wp2_with fail
      go_ret
      exact ⟨_, _, _, rfl, by simpa [El.size] using HO.out, by simp; omega, HR.out, by omega, HB.out, HS3, fun r e => .inl e⟩
    have d0 : (x == 0) = false := by simp [c0]
    by_cases c1 : x = 1
    · have d1 : (x == 1) = true := by simp [c1]
      clear c1 c0
      obtain ⟨hok, c1, c2⟩ := own_fwd ho2 0 hpos
      rw [Nat.zero_mul] at c1 c2
      rw [Nat.zero_add] at c2
      have HOK := Lib.hid hok; clear hok
      generalize xs[0] = y at *
      go_wp2_with (at_builtin; refine wpList_append1 (α := Fwd) rfl (.tmp 25) (.tmp 29) _ rfl b0 94 i0 _ 32 Tryz.underlying26 hi hz0 hz1 hz2 rfl (by decide) (.slice (some ⟨gg, 0, none⟩) xs.length c) xs y rfl (ho2.alloc _) ⟨w2.heap.size, 0, none⟩ 1 (Fwd.cells y) rfl ⟨HOK.out, rfl⟩ (news_at w2 _ (Fwd.cells y)) (by unfold maxLen; omega) (by omega) (by simp; omega) ?_; intro v' w4 ho4 hg4 ha4)
      have hr4 : rdr w4 g (p + 1) := (hr2.alloc _).append (ho2.alloc _) hg4 hb0
      have hB4 : kept2 g b0 w w4 := (hB2.trans (kept2.below ((Below.refl _ _).alloc (by omega) _))).trans (kept2.below (below_append (ho2.alloc _) hg4 (by simp; omega)))
      have hS4 := (HS2.alloc (Obj.cells (Fwd.cells y).toArray 94)).next hg4 fun r e => .inl (.inr e)
      have hT4 : Hid (∀ r, v'.ownBlock = some r → (Value.slice (some ⟨gg, 0, none⟩) xs.length c).ownBlock = some r ∨ w.heap.size ≤ r) := fun r e => by
        rcases ha4 with h | h
        · exact .inl (h.symm.trans e)
        · right
          rw [h] at e
          injection e with e
          simp at e
          omega
      clear hg4 ha4
      go_wp2_with fail
      go_ret
      exact ⟨_, _, _, rfl, ho4, by simp; omega, hr4, by omega, hB4, hS4, hT4.out⟩
    have d1 : (x == 1) = false := by simp [c1]
    by_cases c2 : x = 2
    · have d2 : (x == 2) = true := by simp [c2]
      clear c2 c1 c0
      go_wp2_with fail
      have HO2 := Lib.hid ho2; clear ho2
      go_loopw [1] (fun t wr => ∃ (ys : List Fwd), own 94 b0 wr t ys ∧ ys.length ≤ 31 ∧ rdr wr g (p + 1) ∧ kept2 g b0 w wr ∧ keptS (fun k => k = g ∨ (Value.slice (some ⟨gg, 0, none⟩) xs.length c).ownBlock = some k) w wr ∧ Hid (∀ r, t.ownBlock = some r → r = gg ∨ w.heap.size ≤ r)) (fun t wr => match t with | .slice _ n _ => 31 - n | _ => 0)
      case atStart => exact ⟨xs, HO2.out, by omega, hr2, hB2, HS2, fun r e => .inl (by injection e with e; exact e.symm)⟩
      case round =>
        obtain ⟨ys, ho, hy, hrr, hB, hS, HT⟩ := hrel
        obtain ⟨w3, rfl⟩ : ∃ w3 : World, w3 = wr := ⟨_, rfl⟩
        clear hr2 hB2 HS2
        obtain ⟨A, m, c', hv', hm', _, _, _⟩ := ho.rd
        subst hm' hv'
        have hlt3 := hrr.lt
        by_cases h61 : ys.length < 31
        · obtain ⟨N5, hN5⟩ : ∃ N5 : Nat, N5 = 5000 + ys.length := ⟨_, rfl⟩
          have hN6 : N5 ≤ 5031 := by omega
          have hws : IntKind.i64.wrap ((5000 : Int) + (ys.length : Int)) = (N5 : Int) := by rw [IntWalk.i64_in _ (by omega)]; omega
          clear hN5
          go_wp2_with fail
          refine (spec_l1Show N5 7 _ (by omega) (by omega)).mono ?_
          rintro e w5 ⟨rfl, b5⟩
          have hs := showB_size N5 7
          generalize showB N5 7 = s at *
          have ho5 := ho.below b5
          have hr5 := hrr.below b5
          have hB5 := hB.trans (kept2.below (b5.mono (by have := hB.size; omega) : Below b0 w3 w5))
          have hS5 := hS.below (b5.mono hS.size)
          have hb3 : b0 ≤ w5.heap.size := by have := hB5.size; omega
          have HOK : Hid (Fwd.ok ⟨s, ⟨#[49, 50, 48, 48, 49, 48, 48]⟩⟩) := ⟨by show s.size ≤ maxLen; rw [hs]; decide, by show 7 ≤ maxLen; decide⟩
          clear hs b5 ho hrr hB hS
          go_wp2_with (at_builtin; refine wpList_append1 (α := Fwd) rfl (.tmp 36) (.tmp 42) _ rfl b0 94 i0 _ 32 Tryz.underlying26 hi hz0 hz1 hz2 rfl (by decide) (.slice A ys.length c') ys ⟨s, ⟨#[49, 50, 48, 48, 49, 48, 48]⟩⟩ rfl (ho5.alloc _) ⟨w5.heap.size, 0, none⟩ 1 (Fwd.cells ⟨s, ⟨#[49, 50, 48, 48, 49, 48, 48]⟩⟩) rfl ⟨HOK.out, rfl⟩ (news_at w5 _ (Fwd.cells ⟨s, ⟨#[49, 50, 48, 48, 49, 48, 48]⟩⟩)) (by unfold maxLen; omega) (by omega) (by simp; omega) ?_; intro v' w4 ho4 hg4 ha4)
          have hr4 : rdr w4 g (p + 1) := (hr5.alloc _).append (ho5.alloc _) hg4 hb0
          have hB4 : kept2 g b0 w w4 := (hB5.trans (kept2.below ((Below.refl _ _).alloc hb3 _))).trans (kept2.below (below_append (ho5.alloc _) hg4 (by simp; omega)))
          have hS4 := (hS5.alloc (Obj.cells (Fwd.cells ⟨s, ⟨#[49, 50, 48, 48, 49, 48, 48]⟩⟩).toArray 94)).next hg4 fun r e => by
            rcases HT.out r e with h | h
            · exact .inl (.inr (by rw [h]; rfl))
            · exact .inr h
          have HT4 : Hid (∀ r, v'.ownBlock = some r → r = gg ∨ w.heap.size ≤ r) := fun r e => by
            rcases ha4 with h | h
            · exact HT.out r (h.symm.trans e)
            · right
              rw [h] at e
              injection e with e
              have hzz := hB5.size
              simp at e
              omega
          clear hg4 ha4
          obtain ⟨A4, m4, c4, hv4, hm4, _, _, _⟩ := ho4.rd
          subst hm4 hv4
          go_wp2_with fail
          go_roundw
          case rel => exact ⟨_, ho4, by simp; omega, hr4, hB4, hS4, HT4⟩
          case measure => simp; omega
        · go_wp2_with fail
          go_ret
          exact ⟨_, ys, _, rfl, ho, hy, hrr, by omega, hB, hS, fun r e => (HT.out r e).imp (fun h => by rw [h]; rfl) id⟩
    have d2 : (x == 2) = false := by simp [c2]
    clear c0 c1 c2
    go_wp2_with fail
    go_ret
    exact ⟨_, xs, _, rfl, ho2, by omega, hr2, by omega, hB2, HS2, fun r e => .inl e⟩

end Go.Proofs.YtpinkbodbedajaaGreatDoor
