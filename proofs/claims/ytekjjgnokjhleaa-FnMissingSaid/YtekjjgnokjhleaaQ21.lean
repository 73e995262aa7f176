/- UM DR -/
import Derived.Test.YtekjjgnokjhleaaQ20
import Derived.Test.YtekjjgnokjhleaaQ6
import Derived.Test.YtekjjgnokjhleaaQ12
import Derived.Deep.RegionHeld3
namespace Go.Proofs.Ytekjjgnokjhleaa
open Go.RowKit


/-! Frames of what marks: only blocks from lo on, before hi, turn. -/
structure OutI (lo hi : Nat) (w w' : World) : Prop where
  os : w'.os = w.os
  tape : w'.tape = w.tape
  output : w'.output = w.output
  size : w.heap.size ≤ w'.heap.size
  block : ∀ k, k < w.heap.size → k < lo ∨ hi ≤ k → w'.heap[k]? = w.heap[k]?
theorem OutI.refl (lo hi : Nat) (w : World) : OutI lo hi w w := ⟨rfl, rfl, rfl, Nat.le_refl _, fun _ _ _ => rfl⟩
theorem OutI.trans {lo hi : Nat} {a b c : World} (h : OutI lo hi a b) (k : OutI lo hi b c) : OutI lo hi a c :=
  ⟨k.os.trans h.os, k.tape.trans h.tape, k.output.trans h.output, Nat.le_trans h.size k.size, fun i hi hne => (k.block i (Nat.lt_of_lt_of_le hi h.size) hne).trans (h.block i hi hne)⟩
theorem OutI.of_below {lo hi : Nat} {w w' : World} (h : Below w.heap.size w w') : OutI lo hi w w' := ⟨h.os, h.tape, h.output, h.size, fun k hk _ => h.block k hk⟩
theorem OutI.of_grown {lo hi : Nat} {w w' : World} {row : Option Nat} (h : w.grownBy w' row) (hr : ∀ k, row = some k → lo ≤ k ∧ k < hi) : OutI lo hi w w' :=
  ⟨h.os, h.tape, h.output, h.size, fun k hk hne => h.block k hk (fun e => by have := hr k e.symm; omega)⟩
theorem OutI.later {lo hi : Nat} {a w w' : World} (h : OutI lo hi w w') (hb : Below a.heap.size a w) (hlo : a.heap.size ≤ lo) : Below a.heap.size a w' :=
  ⟨h.os.trans hb.os, h.tape.trans hb.tape, h.output.trans hb.output, Nat.le_trans hb.size h.size, fun k hk => (h.block k (Nat.lt_of_lt_of_le hk hb.size) (.inl (by omega))).trans (hb.block k hk)⟩
theorem own.keepBlk {α : Type} [Flat α] {T base : Nat} {w w' : World} {v : Value} {xs : List α} (h : own T base w v xs) (hk : ∀ k, v.ownBlock = some k → w'.heap[k]? = w.heap[k]?) : own T base w' v xs := by
  obtain ⟨css, ⟨h1, h2⟩, hl, he⟩ := h
  refine ⟨css, ⟨h1, ?_⟩, hl, fun k a b => Flat.free (he k a b)⟩
  rcases h2 with h2 | ⟨g, cap, cur, hv, hg, hh, r⟩
  · exact .inl h2
  · exact .inr ⟨g, cap, cur, hv, hg, by rw [hk g (by rw [hv]; rfl)]; exact hh, r⟩
/-- A row of the call's own, in blocks before hi. -/
def seg {α : Type} [El α] (T lo hi : Nat) (w : World) (v : Value) (xs : List α) : Prop := own T lo w v xs ∧ ∀ k, v.ownBlock = some k → k < hi
theorem seg.of {α : Type} [El α] {T lo : Nat} {w : World} {v : Value} {xs : List α} (h : own T lo w v xs) : seg T lo w.heap.size w v xs := ⟨h, fun k hk => (h.blk k hk).2⟩
theorem seg.below {α : Type} [El α] {T lo hi : Nat} {w w' : World} {v : Value} {xs : List α} (h : seg T lo hi w v xs) (hb : Below w.heap.size w w') : seg T lo hi w' v xs := ⟨h.1.below hb, h.2⟩
theorem seg.out {α : Type} [Flat α] {T lo hi a b : Nat} {w w' : World} {v : Value} {xs : List α} (h : seg T lo hi w v xs) (ho : OutI a b w w') (hd : hi ≤ a ∨ b ≤ lo) : seg T lo hi w' v xs :=
  ⟨h.1.keepBlk fun k hk => ho.block k (h.1.blk k hk).2 (by have h1 := (h.1.blk k hk).1; have h2 := h.2 k hk; omega), h.2⟩
theorem seg.rd {α : Type} [El α] {T lo hi : Nat} {w : World} {v : Value} {xs : List α} (h : seg T lo hi w v xs) : rd w w.heap.size v xs := h.1.rd
def segP (T lo hi : Nat) (w : World) (v : Value) (p : Pln) : Prop := ∃ vo, v = .agg #[.int .i64 p.bins, .int .i64 p.passes, vo] ∧ isI64 p.bins ∧ isI64 p.passes ∧ seg T lo hi w vo p.order
theorem segP.of {T lo : Nat} {w : World} {v : Value} {p : Pln} (h : ownP T lo w v p) : segP T lo w.heap.size w v p := by
  obtain ⟨vo, h1, h2, h3, h4⟩ := h
  exact ⟨vo, h1, h2, h3, seg.of h4⟩
theorem segP.below {T lo hi : Nat} {w w' : World} {v : Value} {p : Pln} (h : segP T lo hi w v p) (hb : Below w.heap.size w w') : segP T lo hi w' v p := by
  obtain ⟨vo, h1, h2, h3, h4⟩ := h
  exact ⟨vo, h1, h2, h3, h4.below hb⟩
theorem segP.out {T lo hi a b : Nat} {w w' : World} {v : Value} {p : Pln} (h : segP T lo hi w v p) (ho : OutI a b w w') (hd : hi ≤ a ∨ b ≤ lo) : segP T lo hi w' v p := by
  obtain ⟨vo, h1, h2, h3, h4⟩ := h
  exact ⟨vo, h1, h2, h3, h4.out ho hd⟩
theorem segP.rd {T lo hi : Nat} {w : World} {v : Value} {p : Pln} (h : segP T lo hi w v p) : rdP w w.heap.size v p := by
  obtain ⟨vo, h1, h2, h3, h4⟩ := h
  exact ⟨vo, h1, h2, h3, h4.rd⟩



end Go.Proofs.Ytekjjgnokjhleaa

namespace Go.Proofs.Ytekjjgnokjhleaa
open Go.RowKit

theorem own_cellStr {T base g n c : Nat} {w : World} {xs : List ByteArray} (h : own T base w (.slice (some ⟨g, 0, none⟩) n c) xs) (k : Nat) (hk : k < xs.length) : (xs[k]).size ≤ maxLen ∧ w.cell? ⟨g, k, none⟩ = some (.string xs[k]) := by
  obtain ⟨A, n', c', hv, _, _, _, hrd⟩ := h.rd
  obtain ⟨b, o, hA, _, hok, c1⟩ := hrd.str k hk
  injection hv with e1 _ _
  subst e1
  injection hA with hA
  injection hA with hA1 hA2
  subst hA1 hA2
  rw [Nat.zero_add] at c1
  exact ⟨hok, c1⟩

theorem kept2.cell {g b : Nat} {w w' : World} (h : kept2 g b w w') (p : Addr) (hp : p.block < b) (hne : p.block ≠ g) : w'.cell? p = w.cell? p :=
  World.cell?_of_block (h.block p.block hp hne)
theorem kept2.step {g b : Nat} {u w w' : World} (h : kept2 g b u w) (hg : w.grownBy w' (some g)) (hb : b ≤ u.heap.size) : kept2 g b u w' :=
  h.trans (kept2.grown hg (Nat.le_trans hb h.size))

theorem kept2.set {g b : Nat} {u w : World} (h : kept2 g b u w) (p : Addr) (hp : b ≤ p.block) (v : Value) : kept2 g b u (w.setCell p v) := h.trans (kept2.below ((Below.refl _ _).setCell (p := p) hp v))

set_option maxRecDepth 100000 in
set_option maxHeartbeats 2000000 in
theorem rd_l3Mail (g p b0 : Nat) (v : Value) (x : Pln) (w : World) (hr : rdr w g p) (hp : p ≤ 10000000000) (hv : ownP 9 b0 w v x) (hb0 : g < b0) (hd : drawnP x) :
    Calls Try.prog 105 #[.pointer (some ⟨g, 0, none⟩), v] w fun e w' => ∃ (v' : Value) (xs : List Ltr) (p' : Nat), e = .returned v' ∧ own 44 w.heap.size w' v' xs ∧ xs.length ≤ 14 ∧ (∀ y ∈ xs, y.code.size = 7) ∧ rdr w' g p' ∧ p' ≤ p + 300 ∧ w.grownBy w' (some g) := by
  have hlt := hr.lt
  obtain ⟨vo, rfl, i1, i2, ho⟩ := hv
  obtain ⟨_, _, _, _, hl1, hl2, hdc⟩ := hd
  rcases ho.form with ⟨_, h0⟩ | ⟨go, c0, rfl, hgo, hgl, hc0, hm0⟩
  · rw [h0] at hl1; simp at hl1
  unfold maxLen at hm0
  have HDC := Lib.hid hdc; clear hdc
  have hgo' : go ≠ g := by omega
  have hra := hr.alloc (Obj.cells #[.int .i64 x.bins, .int .i64 x.passes, .slice (some ⟨go, 0, none⟩) x.order.length c0] 25)
  obtain ⟨wb, hwb⟩ : ∃ u, u = w.alloc (Obj.cells #[.int .i64 x.bins, .int .i64 x.passes, .slice (some ⟨go, 0, none⟩) x.order.length c0] 25) := ⟨_, rfl⟩
  have hzb : wb.heap.size = w.heap.size + 1 := by rw [hwb]; simp
  have hbb : wb.heap[w.heap.size]? = some (.cells #[.int .i64 x.bins, .int .i64 x.passes, .slice (some ⟨go, 0, none⟩) x.order.length c0] 25 (0, 0)) := by rw [hwb]; exact heap_alloc_new w _
  have hgb : w.grownBy wb (some g) := by rw [hwb]; exact World.grownBy_alloc w _ _
  have hob : own 9 b0 wb (.slice (some ⟨go, 0, none⟩) x.order.length c0) x.order := by
    rw [hwb]; exact ho.below ((Below.refl _ _).alloc (Nat.le_refl _) _)
  have U2 : ∀ W, kept2 g wb.heap.size wb W → W.cell? ⟨w.heap.size, 2, none⟩ = some (.slice (some ⟨go, 0, none⟩) x.order.length c0) := fun W h => (h.cell ⟨w.heap.size, 2, none⟩ (by simp; omega) (by simp; omega)).trans (by rw [cell_of_row _ _ _ _ _ _ hbb]; rfl)
  have UO : Hid (∀ W, kept2 g wb.heap.size wb W → ∀ k (hk : k < x.order.length), W.cell? ⟨go, k, none⟩ = some (.string x.order[k])) := fun W h k hk => (h.cell ⟨go, k, none⟩ (by simp; omega) hgo').trans (own_cellStr hob k hk).2
  have HWB := Lib.hid hwb; have HBB := Lib.hid hbb; have HOB := Lib.hid hob
  rw [← hwb] at hra
  clear hwb hbb hob ho
  have hxo : (0 : Int) < (x.order.length : Int) := by omega
  go_enter Try.func105, Try.ntmps105
  go_wp2_with fail
  rw [← HWB.out]
  refine (rd_pick g p 4 _ hra (by omega) (by unfold isI64; omega)).mono ?_
  rintro e w1 ⟨y, rfl, hy, hr1, hg1⟩
  obtain ⟨y0, y1⟩ := hy.2 (by omega)
  obtain ⟨N, rfl⟩ := Int.eq_ofNat_of_zero_le y0
  have k1 : kept2 g wb.heap.size wb w1 := kept2.grown hg1 (Nat.le_refl _)
  replace hg1 := grown_trans hgb hg1
  clear hy hra hgb
  have hz1 := k1.size
  go_wp2_with fail
  refine (rd_l2Some g (p + 1) (1 + N) _ hr1 (by omega) (by omega) (by omega)).mono ?_
  rintro e w2 ⟨v2, xs0, q0, rfl, ho2, hx0, hx7, hr2, hq2, hg2⟩
  have k2 : kept2 g wb.heap.size wb w2 := k1.step hg2 (Nat.le_refl _)
  replace hg2 := grown_trans hg1 hg2
  have ho2' := ho2.base_ (base' := wb.heap.size) hz1
  have HO2 := Lib.hid ho2'
  have HX0 := Lib.hid hx7
  have HG2 := Lib.hid hg2
  clear ho2 hx7 hg1 hr1 k1 hg2
  rcases ho2'.form with ⟨rfl, rfl⟩ | ⟨gl, cl, rfl, hgl1, hgl2, hcl, hml⟩
  · clear ho2'
    go_wp2_with fail
    go_loopw [6] (fun i wr => i = .int .i64 0 ∧ wr = w2) (fun _ _ => 0)
    case atStart => exact ⟨rfl, rfl⟩
    case round =>
      obtain ⟨rfl, rfl⟩ := hrel
      go_wp2_with fail
      go_ret
      exact ⟨_, [], q0, rfl, own.nil_ _ _ _, by simp, fun y hy => by simp at hy, hr2, by omega, HG2.out⟩
  clear ho2'
  unfold maxLen at hml
  have hglg : gl ≠ g := by omega
  go_wp2_with fail
  go_loopw [6] (fun i wr => ∃ (k : Nat) (xs : List Ltr) (q : Nat), k ≤ xs0.length ∧ i = .int .i64 k ∧ Hid (xs.length = xs0.length) ∧ Hid (own 44 wb.heap.size wr (.slice (some ⟨gl, 0, none⟩) xs0.length cl) xs) ∧ Hid (∀ y ∈ xs, y.code.size = 7) ∧ rdr wr g q ∧ q ≤ q0 + 2 * k ∧ kept2 g wb.heap.size wb wr) (fun i _ => xs0.length - (intOf i).toNat)
  case atStart => exact ⟨0, xs0, q0, Nat.zero_le _, rfl, rfl, HO2.out, HX0.out, hr2, by omega, k2⟩
  case round =>
    obtain ⟨k, xs, q, hk, rfl, HL, HO, HX, hrq, hqb, kr⟩ := hrel
    obtain ⟨w3, rfl⟩ : ∃ w3 : World, w3 = wr := ⟨_, rfl⟩
    clear hr2 k2
    by_cases hkl : k < xs0.length
    · have hki : (k : Int) < (xs0.length : Int) := by omega
      go_wp2_with fail
      refine (rd_pick g q 6 _ hrq (by omega) (by unfold isI64; omega)).mono ?_
      rintro e w4 ⟨y, rfl, hy, hr4, hg4⟩
      have k4 : kept2 g wb.heap.size wb w4 := kr.step hg4 (Nat.le_refl _)
      have HO4 : Hid (own 44 wb.heap.size w4 (.slice (some ⟨gl, 0, none⟩) xs0.length cl) xs) := HO.out.grown hg4 (.inr (fun e => hglg (by injection e)))
      clear hg4 kr hrq
      by_cases hy0 : 0 < y
      · clear hy
        have c2 := U2 _ k4
        go_wp2_with fail
        clear c2
        have kd : kept2 g wb.heap.size wb w4.drew := ⟨k4.os, k4.tape, k4.output, k4.size, k4.block⟩
        have HR4 : Hid (rdr w4.drew g (q + 1)) := hr4.below ((Below.refl _ _).drew)
        have HOD : Hid (own 44 wb.heap.size w4.drew (.slice (some ⟨gl, 0, none⟩) xs0.length cl) xs) := HO4.out.below ((Below.refl _ _).drew)
        have hkx : k < xs.length := by have := HL.out; omega
        have hid := (own_ltr HO4.out k hkx).1.1
        have HSET := Lib.hid (fun (W : World) (s : ByteArray) (hs : s.size ≤ maxLen) (ho : own 44 wb.heap.size W (.slice (some ⟨gl, 0, none⟩) xs0.length cl) xs) => ho.setCell (k := k) (j := 1) hkx (by decide) (.string s) ⟨xs[k].id, s⟩ (fun ecs he => by
          obtain ⟨_, rfl⟩ := he
          exact ⟨⟨hid, hs⟩, rfl⟩))
        clear hid k4 hr4 HO4
        have cD := U2 _ kd
        have UD := Lib.hid U2; clear U2
        have cE := UO.out _ kd
        go_region_held3 (fun W => W.cell? ⟨w.heap.size, 2, none⟩ = some (.slice (some ⟨go, 0, none⟩) x.order.length c0) ∧ ∀ j (hj : j < x.order.length), W.cell? ⟨go, j, none⟩ = some (.string x.order[j])) (first | exact ⟨cD, cE⟩ | exact ⟨c5, cO⟩ | exact ⟨UD.out _ (k5.set ⟨gl, k * 2 + 1, none⟩ hgl1 _), UO.out _ (k5.set ⟨gl, k * 2 + 1, none⟩ hgl1 _)⟩) (first | (go_at_call 91; refine (rd_pick g (q + 1) x.order.length _ HR4.out (by omega) (by unfold isI64; omega)).mono ?_; rintro e w5 ⟨z, rfl, hz, hr5, hg5⟩; obtain ⟨z0, z1⟩ := hz.2 (by omega); obtain ⟨m, rfl⟩ := Int.eq_ofNat_of_zero_le z0; have k5 := kd.step hg5 (Nat.le_refl _); have c5 := UD.out _ k5; have hmo : m < x.order.length := (by omega); have cO := UO.out _ k5; have hs7 := HDC.out x.order[m] (List.getElem_mem _); have ho5 : own 44 wb.heap.size w5 (.slice (some ⟨gl, 0, none⟩) xs0.length cl) xs := HOD.out.grown hg5 (.inr (fun e => hglg (by injection e))); obtain ⟨u1, g1⟩ := ho5.cellAt (j := k * 2 + 1) (by show _ < _ * 2; omega); have f1 := ho5.freeAt (k * 2 + 1); have HO5 := Lib.hid ho5; have HS7 := Lib.hid hs7; have HR5 := Lib.hid hr5; clear hz hg5 ho5 hs7 hr5))
        clear cD cE c5 cO g1 f1
        have k6 := k5.set ⟨gl, k * 2 + 1, none⟩ hgl1 (.string x.order[m])
        have HO6 : Hid (own 44 wb.heap.size (w5.setCell ⟨gl, k * 2 + 1, none⟩ (.string x.order[m])) (.slice (some ⟨gl, 0, none⟩) xs0.length cl) (xs.set k ⟨xs[k].id, x.order[m]⟩)) := HSET.out w5 _ (by rw [HS7.out]; decide) HO5.out
        have HR6 := Lib.hid (HR5.out.grown (g' := gl) (grown_setCell (p := ⟨gl, k * 2 + 1, none⟩) (World.grownBy.refl w5 (some gl)) (.inl rfl) (.string x.order[m])) (by omega))
        go_wp2_with fail
        go_roundw
        case rel =>
          refine ⟨k + 1, _, q + 1 + 1, by omega, by go_num, ?_, HO6, ?_, HR6.out, by omega, k6⟩
          · show _ = _
            have := HL.out
            simpa using this
          · intro z hz
            rcases List.mem_or_eq_of_mem_set hz with h | h
            · exact HX.out z h
            · rw [h]; exact HS7.out
        case measure => simp [intOf]; omega
      · go_wp2_with fail
        go_roundw
        case rel => exact ⟨k + 1, xs, q + 1, by omega, by go_num, HL, HO4, HX, hr4, by omega, k4⟩
        case measure => simp [intOf]; omega
    · go_wp2_with fail
      go_ret
      refine ⟨_, xs, q, rfl, HO.out.base_ (by omega), by have := HL.out; omega, HX.out, hrq, by omega, ?_⟩
      exact ⟨kr.os.trans (by rw [HWB.out]; rfl), kr.tape.trans (by rw [HWB.out]; rfl), kr.output.trans (by rw [HWB.out]; rfl), by have := kr.size; omega, fun i hi hne => (kr.block i (by omega) (fun e => hne (by rw [e]))).trans (by rw [HWB.out]; exact heap_alloc_old w _ hi)⟩

end Go.Proofs.Ytekjjgnokjhleaa
