/- DR YA YB DS YC YD YE PV NY NZ GO NA NX NE M1 M2 N1 -/
import Derived.Test.YtpinkbodbedajaaGreatDoorQ12
import Derived.Test.YtpinkbodbedajaaGreatDoorQ11
import Derived.Deep.RegionHeld3
import Derived.Test.YtpinkbodbedajaaGreatDoorQ2
import Derived.Deep.RegionLaw
import Derived.Test.YtpinkbodbedajaaGreatDoorQ7
import Derived.Test.YtpinkbodbedajaaGreatDoorQ1
import Derived.Test.YtpinkbodbedajaaGreatDoorQ6
import Derived.Test.YtpinkbodbedajaaGreatDoorQ5
import Derived.StillTailTactics
namespace Go.Proofs.YtpinkbodbedajaaGreatDoor
open Go.RowKit

theorem own_cellStr {T base g n c : Nat} {w : World} {xs : List ByteArray} (h : own T base w (.slice (some ⟨g, 0, none⟩) n c) xs) (k : Nat) (hk : k < xs.length) : (xs[k]).size ≤ maxLen ∧ w.cell? ⟨g, k, none⟩ = some (.string xs[k]) := by
  obtain ⟨A, n', c', hv, _, _, _, hrd⟩ := h.rd
  obtain ⟨b, o, hA, _, hok, c1⟩ := hrd.str k hk
  injection hv with e1 _ _
  subst e1
  injection hA with hA
  injection hA with hA1 hA2
  subst hA1 hA2
  rw [Nat.zero_add] at c1
  exact ⟨hok, c1⟩

theorem kept2.cell {g b : Nat} {w w' : World} (h : kept2 g b w w') (p : Addr) (hp : p.block < b) (hne : p.block ≠ g) : w'.cell? p = w.cell? p :=
  World.cell?_of_block (h.block p.block hp hne)
theorem kept2.step {g b : Nat} {u w w' : World} (h : kept2 g b u w) (hg : w.grownBy w' (some g)) (hb : b ≤ u.heap.size) : kept2 g b u w' :=
  h.trans (kept2.grown hg (Nat.le_trans hb h.size))

theorem kept2.set {g b : Nat} {u w : World} (h : kept2 g b u w) (p : Addr) (hp : b ≤ p.block) (v : Value) : kept2 g b u (w.setCell p v) := h.trans (kept2.below ((Below.refl _ _).setCell (p := p) hp v))

set_option maxRecDepth 100000 in
set_option maxHeartbeats 2000000 in
theorem rd_l3Mail (g p b0 : Nat) (v : Value) (x : Pln) (w : World) (hr : rdr w g p) (hp : p ≤ 10000000000) (hv : ownP 9 b0 w v x) (hb0 : g < b0) (hd : drawnP x) :
    Calls Tryz.prog 159 #[.pointer (some ⟨g, 0, none⟩), v] w fun e w' => ∃ (v' : Value) (xs : List Ltr) (p' : Nat), e = .returned v' ∧ own 89 w.heap.size w' v' xs ∧ xs.length ≤ 14 ∧ (∀ y ∈ xs, y.code.size = 7) ∧ rdr w' g p' ∧ p' ≤ p + 300 ∧ w.grownBy w' (some g) := by
  have hlt := hr.lt
  obtain ⟨vo, rfl, i1, i2, ho⟩ := hv
  obtain ⟨_, _, _, _, hl1, hl2, hdc⟩ := hd
  rcases ho.form with ⟨_, h0⟩ | ⟨go, c0, rfl, hgo, hgl, hc0, hm0⟩
  · rw [h0] at hl1; simp at hl1
  unfold maxLen at hm0
  have HDC := Lib.hid hdc; clear hdc
  have hgo' : go ≠ g := by omega
  have hra := hr.alloc (Obj.cells #[.int .i64 x.bins, .int .i64 x.passes, .slice (some ⟨go, 0, none⟩) x.order.length c0] 25)
  obtain ⟨wb, hwb⟩ : ∃ u, u = w.alloc (Obj.cells #[.int .i64 x.bins, .int .i64 x.passes, .slice (some ⟨go, 0, none⟩) x.order.length c0] 25) := ⟨_, rfl⟩
  have hzb : wb.heap.size = w.heap.size + 1 := by rw [hwb]; simp
  have hbb : wb.heap[w.heap.size]? = some (.cells #[.int .i64 x.bins, .int .i64 x.passes, .slice (some ⟨go, 0, none⟩) x.order.length c0] 25 (0, 0)) := by rw [hwb]; exact heap_alloc_new w _
  have hgb : w.grownBy wb (some g) := by rw [hwb]; exact World.grownBy_alloc w _ _
  have hob : own 9 b0 wb (.slice (some ⟨go, 0, none⟩) x.order.length c0) x.order := by
    rw [hwb]; exact ho.below ((Below.refl _ _).alloc (Nat.le_refl _) _)
  have U2 : ∀ W, kept2 g wb.heap.size wb W → W.cell? ⟨w.heap.size, 2, none⟩ = some (.slice (some ⟨go, 0, none⟩) x.order.length c0) := fun W h => (h.cell ⟨w.heap.size, 2, none⟩ (by simp; omega) (by simp; omega)).trans (by rw [cell_of_row _ _ _ _ _ _ hbb]; rfl)
  have UO : Hid (∀ W, kept2 g wb.heap.size wb W → ∀ k (hk : k < x.order.length), W.cell? ⟨go, k, none⟩ = some (.string x.order[k])) := fun W h k hk => (h.cell ⟨go, k, none⟩ (by simp; omega) hgo').trans (own_cellStr hob k hk).2
  have HWB := Lib.hid hwb; have HBB := Lib.hid hbb; have HOB := Lib.hid hob
  rw [← hwb] at hra
  clear hwb hbb hob ho
  have hxo : (0 : Int) < (x.order.length : Int) := by omega
  go_enter Tryz.func159, Tryz.ntmps159
  go_wp2_with fail
  rw [← HWB.out]
  refine (rd_pick g p 4 _ hra (by omega) (by unfold isI64; omega)).mono ?_
  rintro e w1 ⟨y, rfl, hy, hr1, hg1⟩
  obtain ⟨y0, y1⟩ := hy.2 (by omega)
  obtain ⟨N, rfl⟩ := Int.eq_ofNat_of_zero_le y0
  have k1 : kept2 g wb.heap.size wb w1 := kept2.grown hg1 (Nat.le_refl _)
  replace hg1 := grown_trans hgb hg1
  clear hy hra hgb
  have hz1 := k1.size
  go_wp2_with fail
  refine (rd_l2Some g (p + 1) (1 + N) _ hr1 (by omega) (by omega) (by omega)).mono ?_
  rintro e w2 ⟨v2, xs0, q0, rfl, ho2, hx0, hx7, hr2, hq2, hg2⟩
  have k2 : kept2 g wb.heap.size wb w2 := k1.step hg2 (Nat.le_refl _)
  replace hg2 := grown_trans hg1 hg2
  have ho2' := ho2.base_ (base' := wb.heap.size) hz1
  have HO2 := Lib.hid ho2'
  have HX0 := Lib.hid hx7
  have HG2 := Lib.hid hg2
  clear ho2 hx7 hg1 hr1 k1 hg2
  rcases ho2'.form with ⟨rfl, rfl⟩ | ⟨gl, cl, rfl, hgl1, hgl2, hcl, hml⟩
  · clear ho2'
    go_wp2_with fail
    go_loopw [6] (fun i wr => i = .int .i64 0 ∧ wr = w2) (fun _ _ => 0)
    case atStart => exact ⟨rfl, rfl⟩
    case round =>
      obtain ⟨rfl, rfl⟩ := hrel
      go_wp2_with fail
      go_ret
      exact ⟨_, [], q0, rfl, own.nil_ _ _ _, by simp, fun y hy => by simp at hy, hr2, by omega, HG2.out⟩
  clear ho2'
  unfold maxLen at hml
  have hglg : gl ≠ g := by omega
  go_wp2_with fail
  go_loopw [6] (fun i wr => ∃ (k : Nat) (xs : List Ltr) (q : Nat), k ≤ xs0.length ∧ i = .int .i64 k ∧ Hid (xs.length = xs0.length) ∧ Hid (own 89 wb.heap.size wr (.slice (some ⟨gl, 0, none⟩) xs0.length cl) xs) ∧ Hid (∀ y ∈ xs, y.code.size = 7) ∧ rdr wr g q ∧ q ≤ q0 + 2 * k ∧ kept2 g wb.heap.size wb wr) (fun i _ => xs0.length - (intOf i).toNat)
  case atStart => exact ⟨0, xs0, q0, Nat.zero_le _, rfl, rfl, HO2.out, HX0.out, hr2, by omega, k2⟩
  case round =>
    obtain ⟨k, xs, q, hk, rfl, HL, HO, HX, hrq, hqb, kr⟩ := hrel
    obtain ⟨w3, rfl⟩ : ∃ w3 : World, w3 = wr := ⟨_, rfl⟩
    clear hr2 k2
    by_cases hkl : k < xs0.length
    · have hki : (k : Int) < (xs0.length : Int) := by omega
      go_wp2_with fail
      refine (rd_pick g q 6 _ hrq (by omega) (by unfold isI64; omega)).mono ?_
      rintro e w4 ⟨y, rfl, hy, hr4, hg4⟩
      have k4 : kept2 g wb.heap.size wb w4 := kr.step hg4 (Nat.le_refl _)
      have HO4 : Hid (own 89 wb.heap.size w4 (.slice (some ⟨gl, 0, none⟩) xs0.length cl) xs) := HO.out.grown hg4 (.inr (fun e => hglg (by injection e)))
      clear hg4 kr hrq
      by_cases hy0 : 0 < y
      · clear hy
        have c2 := U2 _ k4
        go_wp2_with fail
        clear c2
        have kd : kept2 g wb.heap.size wb w4.drew := ⟨k4.os, k4.tape, k4.output, k4.size, k4.block⟩
        have HR4 : Hid (rdr w4.drew g (q + 1)) := hr4.below ((Below.refl _ _).drew)
        have HOD : Hid (own 89 wb.heap.size w4.drew (.slice (some ⟨gl, 0, none⟩) xs0.length cl) xs) := HO4.out.below ((Below.refl _ _).drew)
        have hkx : k < xs.length := by have := HL.out; omega
        have hid := (own_ltr HO4.out k hkx).1.1
        have HSET := Lib.hid (fun (W : World) (s : ByteArray) (hs : s.size ≤ maxLen) (ho : own 89 wb.heap.size W (.slice (some ⟨gl, 0, none⟩) xs0.length cl) xs) => ho.setCell (k := k) (j := 1) hkx (by decide) (.string s) ⟨xs[k].id, s⟩ (fun ecs he => by
          obtain ⟨_, rfl⟩ := he
          exact ⟨⟨hid, hs⟩, rfl⟩))
        clear hid k4 hr4 HO4
        have cD := U2 _ kd
        have UD := Lib.hid U2; clear U2
        have cE := UO.out _ kd
        go_region_held3 (fun W => W.cell? ⟨w.heap.size, 2, none⟩ = some (.slice (some ⟨go, 0, none⟩) x.order.length c0) ∧ ∀ j (hj : j < x.order.length), W.cell? ⟨go, j, none⟩ = some (.string x.order[j])) (first | exact ⟨cD, cE⟩ | exact ⟨c5, cO⟩ | exact ⟨UD.out _ (k5.set ⟨gl, k * 2 + 1, none⟩ hgl1 _), UO.out _ (k5.set ⟨gl, k * 2 + 1, none⟩ hgl1 _)⟩) (first | (go_at_call 100; refine (rd_pick g (q + 1) x.order.length _ HR4.out (by omega) (by unfold isI64; omega)).mono ?_; rintro e w5 ⟨z, rfl, hz, hr5, hg5⟩; obtain ⟨z0, z1⟩ := hz.2 (by omega); obtain ⟨m, rfl⟩ := Int.eq_ofNat_of_zero_le z0; have k5 := kd.step hg5 (Nat.le_refl _); have c5 := UD.out _ k5; have hmo : m < x.order.length := (by omega); have cO := UO.out _ k5; have hs7 := HDC.out x.order[m] (List.getElem_mem _); have ho5 : own 89 wb.heap.size w5 (.slice (some ⟨gl, 0, none⟩) xs0.length cl) xs := HOD.out.grown hg5 (.inr (fun e => hglg (by injection e))); obtain ⟨u1, g1⟩ := ho5.cellAt (j := k * 2 + 1) (by show _ < _ * 2; omega); have f1 := ho5.freeAt (k * 2 + 1); have HO5 := Lib.hid ho5; have HS7 := Lib.hid hs7; have HR5 := Lib.hid hr5; clear hz hg5 ho5 hs7 hr5))
        clear cD cE c5 cO g1 f1
        have k6 := k5.set ⟨gl, k * 2 + 1, none⟩ hgl1 (.string x.order[m])
        have HO6 : Hid (own 89 wb.heap.size (w5.setCell ⟨gl, k * 2 + 1, none⟩ (.string x.order[m])) (.slice (some ⟨gl, 0, none⟩) xs0.length cl) (xs.set k ⟨xs[k].id, x.order[m]⟩)) := HSET.out w5 _ (by rw [HS7.out]; decide) HO5.out
        have HR6 := Lib.hid (HR5.out.grown (g' := gl) (grown_setCell (p := ⟨gl, k * 2 + 1, none⟩) (World.grownBy.refl w5 (some gl)) (.inl rfl) (.string x.order[m])) (by omega))
        go_wp2_with fail
        go_roundw
        case rel =>
          refine ⟨k + 1, _, q + 1 + 1, by omega, by go_num, ?_, HO6, ?_, HR6.out, by omega, k6⟩
          · show _ = _
            have := HL.out
            simpa using this
          · intro z hz
            rcases List.mem_or_eq_of_mem_set hz with h | h
            · exact HX.out z h
            · rw [h]; exact HS7.out
        case measure => simp [intOf]; omega
      · go_wp2_with fail
        go_roundw
        case rel => exact ⟨k + 1, xs, q + 1, by omega, by go_num, HL, HO4, HX, hr4, by omega, k4⟩
        case measure => simp [intOf]; omega
    · go_wp2_with fail
      go_ret
      refine ⟨_, xs, q, rfl, HO.out.base_ (by omega), by have := HL.out; omega, HX.out, hrq, by omega, ?_⟩
      exact ⟨kr.os.trans (by rw [HWB.out]; rfl), kr.tape.trans (by rw [HWB.out]; rfl), kr.output.trans (by rw [HWB.out]; rfl), by have := kr.size; omega, fun i hi hne => (kr.block i (by omega) (fun e => hne (by rw [e]))).trans (by rw [HWB.out]; exact heap_alloc_old w _ hi)⟩

end Go.Proofs.YtpinkbodbedajaaGreatDoor

namespace Go.Proofs.YtpinkbodbedajaaGreatDoor
open Go.RowKit

end Go.Proofs.YtpinkbodbedajaaGreatDoor

namespace Go.Proofs.YtpinkbodbedajaaGreatDoor
open Go.RowKit

end Go.Proofs.YtpinkbodbedajaaGreatDoor

namespace Go.Proofs.YtpinkbodbedajaaGreatDoor
open Go.RowKit

theorem own.none_ {α : Type} [El α] {T base g n c : Nat} {w : World} {xs : List α} (h : own T base w (.slice (some ⟨g, 0, none⟩) n c) xs) : own (α := α) T base w (.slice (some ⟨g, 0, none⟩) 0 c) [] := by
  obtain ⟨css, ⟨h1, h2⟩, hl, he⟩ := h
  rcases h2 with ⟨h2, _⟩ | ⟨g', cap, cur, hv, hg, hh, h3, h4, h5, h6⟩
  · cases h2
  · injection hv with e1 e2 e3
    injection e1 with e1
    injection e1 with e1
    subst e1 e3
    exact ⟨[], ⟨by simp, .inr ⟨g, c, cur, rfl, hg, hh, Nat.zero_le _, h4, h5, by simp⟩⟩, rfl, fun k hk => absurd hk (Nat.not_lt_zero k)⟩

theorem own_setText {T base g n c : Nat} {w : World} {xs : List ByteArray} (h : own T base w (.slice (some ⟨g, 0, none⟩) n c) xs) {k : Nat} (hk : k < xs.length) (y : ByteArray) (hy : y.size ≤ maxLen) :
    own T base (w.setCell ⟨g, k, none⟩ (.string y)) (.slice (some ⟨g, 0, none⟩) n c) (xs.set k y) := by
  have h1 := h.setCell (k := k) (j := 0) hk (by decide) (.string y) y (fun ecs he => by
    obtain ⟨_, rfl⟩ := he
    exact ⟨hy, rfl⟩)
  rw [show k * El.size ByteArray + 0 = k from Nat.mul_one k] at h1
  exact h1

/-- The block of a plan's order. -/
def planBlk (v : Value) (k : Nat) : Prop := ∃ a b vo, v = .agg #[a, b, vo] ∧ vo.ownBlock = some k
def l3BadPost (T : TypeId) (g p b0 : Nat) (S : Nat → Prop) (w : World) (e : Ending) (w' : World) : Prop :=
  ∃ (v : Value) (y : Pln) (p' : Nat), e = .returned v ∧ ownP T b0 w' v y ∧ y.order.length ≤ 101 ∧ rdr w' g p' ∧ p' ≤ p + 5 ∧ kept2 g b0 w w' ∧ keptS S w w' ∧ ∀ k, planBlk v k → S k ∨ w.heap.size ≤ k

theorem l3BadPost_of {T g p q b0 h : _} {S : Nat → Prop} {w W : World} {y : Pln} {vo : Value} {a b d : Value} (hh : b0 ≤ h) (hg : g < b0) (h1 : isI64 y.bins) (h2 : isI64 y.passes) (ho : own T b0 W vo y.order) (hl : y.order.length ≤ 101) (hne : vo.ownBlock ≠ some h)
    (hr : rdr W g q) (hq : q ≤ p + 5) (hk : kept2 g b0 w W) (hS : keptS S w W) (hwh : w.heap.size ≤ h) (hpb : ∀ k, vo.ownBlock = some k → S k ∨ w.heap.size ≤ k) (ha : a = .int .i64 y.bins) (hb : b = .int .i64 y.passes) (hd : d = vo) :
    l3BadPost T g p b0 S w (.returned (.agg #[a, b, d])) (((W.setCell ⟨h, 0, none⟩ a).setCell ⟨h, 1, none⟩ b).setCell ⟨h, 2, none⟩ d) := by
  subst ha hb hd
  have HG := grown_setCell (p := ⟨h, 2, none⟩) (grown_setCell (p := ⟨h, 1, none⟩) (grown_setCell (p := ⟨h, 0, none⟩) (World.grownBy.refl W (some h)) (.inl rfl) (.int .i64 y.bins)) (.inl rfl) (.int .i64 y.passes)) (.inl rfl) d
  exact ⟨_, y, q, rfl, ⟨_, rfl, h1, h2, ho.grown HG (.inr hne)⟩, hl, hr.grown HG (by omega), hq, ((hk.set ⟨h, 0, none⟩ hh _).set ⟨h, 1, none⟩ hh _).set ⟨h, 2, none⟩ hh _, ((hS.set ⟨h, 0, none⟩ (.inr hwh) _).set ⟨h, 1, none⟩ (.inr hwh) _).set ⟨h, 2, none⟩ (.inr hwh) _, fun k hk => by
    obtain ⟨a, b, vo', e, hk⟩ := hk
    injection e with e
    injection e with e
    simp only [List.cons.injEq, and_true] at e
    rw [← e.2.2] at hk
    exact hpb k hk⟩

theorem cells3 {W : World} {h T : Nat} {a b d : Value} (hb : W.heap[h]? = some (.cells #[a, b, d] T (0, 0))) :
    W.cell? ⟨h, 0, none⟩ = some a ∧ W.cell? ⟨h, 1, none⟩ = some b ∧ W.cell? ⟨h, 2, none⟩ = some d ∧ W.frozen? ⟨h, 0, none⟩ = false ∧ W.frozen? ⟨h, 1, none⟩ = false ∧ W.frozen? ⟨h, 2, none⟩ = false :=
  ⟨by rw [cell_of_row _ _ _ _ _ _ hb]; rfl, by rw [cell_of_row _ _ _ _ _ _ hb]; rfl, by rw [cell_of_row _ _ _ _ _ _ hb]; rfl, by simp [World.frozen?, hb], by simp [World.frozen?, hb], by simp [World.frozen?, hb]⟩

set_option maxRecDepth 100000 in
set_option maxHeartbeats 2000000 in
theorem rd_l3Bad (g p b0 : Nat) (v : Value) (x : Pln) (w : World) (hr : rdr w g p) (hp : p ≤ 10000000000) (hv : ownP 9 b0 w v x) (hb0 : g < b0) (hd : drawnP x) :
    Calls Tryz.prog 101 #[.pointer (some ⟨g, 0, none⟩), v] w (l3BadPost 9 g p b0 (fun k => k = g ∨ planBlk v k) w) := by
  have hlt := hr.lt
  obtain ⟨vo, rfl, i1, i2, ho⟩ := hv
  obtain ⟨_, _, _, _, hl1, hl2, hdc⟩ := hd
  rcases ho.form with ⟨_, h0⟩ | ⟨go, c0, rfl, hgo, hgl, hc0, hm0⟩
  · rw [h0] at hl1; simp at hl1
  unfold maxLen at hm0
  have HDC := Lib.hid hdc; clear hdc
  have hgo' : go ≠ g := by omega
  have hr0 := (hr.alloc (Obj.cells #[.int .i64 x.bins, .int .i64 x.passes, .slice (some ⟨go, 0, none⟩) x.order.length c0] 25)).alloc (Obj.cells #[.int .i64 0, .int .i64 0, .slice none 0 0] 25)
  obtain ⟨wb, hwb⟩ : ∃ u, u = (w.alloc (Obj.cells #[.int .i64 x.bins, .int .i64 x.passes, .slice (some ⟨go, 0, none⟩) x.order.length c0] 25)).alloc (Obj.cells #[.int .i64 0, .int .i64 0, .slice none 0 0] 25) := ⟨_, rfl⟩
  rw [← hwb] at hr0
  have hzb : wb.heap.size = w.heap.size + 2 := by rw [hwb]; simp
  have hb1 : wb.heap[w.heap.size]? = some (.cells #[.int .i64 x.bins, .int .i64 x.passes, .slice (some ⟨go, 0, none⟩) x.order.length c0] 25 (0, 0)) := by rw [hwb]; exact heap_alloc2_old w _ _
  have hb2 : wb.heap[w.heap.size + 1]? = some (.cells #[.int .i64 0, .int .i64 0, .slice none 0 0] 25 (0, 0)) := by rw [hwb]; exact heap_alloc2_new w _ _
  have hB : Below w.heap.size w wb := by rw [hwb]; exact ((Below.refl _ _).alloc (Nat.le_refl _) _).alloc (by simp) _
  have hbw : b0 ≤ w.heap.size := by omega
  have HSG : Hid ((fun k => k = g ∨ planBlk (.agg #[.int .i64 x.bins, .int .i64 x.passes, .slice (some ⟨go, 0, none⟩) x.order.length c0]) k) go) := .inr ⟨_, _, _, rfl, rfl⟩
  have HSg : Hid (∀ r, some g = some r → (fun k => k = g ∨ planBlk (.agg #[.int .i64 x.bins, .int .i64 x.passes, .slice (some ⟨go, 0, none⟩) x.order.length c0]) k) r ∨ w.heap.size ≤ r) := fun r e => .inl (.inl (by injection e with e; exact e.symm))
  have HPG : Hid (∀ (n c k : Nat), (Value.slice (some ⟨go, 0, none⟩) n c).ownBlock = some k → (fun k => k = g ∨ planBlk (.agg #[.int .i64 x.bins, .int .i64 x.passes, .slice (some ⟨go, 0, none⟩) x.order.length c0]) k) k ∨ w.heap.size ≤ k) := fun n c k e => .inl (by have e' : some go = some k := e; injection e' with e'; rw [← e']; exact HSG.out)
  have j0 := (keptS.refl (fun k => k = g ∨ planBlk (.agg #[.int .i64 x.bins, .int .i64 x.passes, .slice (some ⟨go, 0, none⟩) x.order.length c0]) k) w).below hB
  generalize (fun k => k = g ∨ planBlk (.agg #[.int .i64 x.bins, .int .i64 x.passes, .slice (some ⟨go, 0, none⟩) x.order.length c0]) k) = S at *
  have k0 : kept2 g b0 w wb := kept2.below ⟨hB.os, hB.tape, hB.output, hB.size, fun k hk => hB.block k (by omega)⟩
  have HWB := Lib.hid hwb
  have hob := ho.below hB
  clear hwb hB ho
  go_enter Tryz.func101, Tryz.ntmps101
  go_wp2_with fail
  rw [← HWB.out]
  refine (rd_pick g p 40 _ hr0 (by omega) (by unfold isI64; omega)).mono ?_
  rintro e w1 ⟨y, rfl, hy, hr1, hg1⟩
  have k1 : kept2 g b0 w w1 := k0.step hg1 hbw
  have J1 := Lib.hid (j0.next hg1 HSg.out)
  clear j0
  have hb1' := (hg1.block w.heap.size (by omega) (fun e => by injection e; omega)).trans hb1
  have hb2' := (hg1.block (w.heap.size + 1) (by omega) (fun e => by injection e; omega)).trans hb2
  have HO1 := Lib.hid (hob.grown hg1 (.inr (fun e => hgo' (by injection e))))
  have hz1 := hg1.size
  clear hy hr0 k0 hb1 hb2 hob hg1
  have HB1 := Lib.hid hb1'; have HB2 := Lib.hid hb2'
  obtain ⟨c10, c11, c12, f10, f11, f12⟩ := cells3 hb1'
  obtain ⟨c20, c21, c22, f20, f21, f22⟩ := cells3 hb2'
  clear hb1' hb2'
  by_cases y0 : y = 0
  · have t0 : (y == 0) = true := by simp [y0]
    have n1 : (y == 1) = false := by simp [y0]
    have n2 : (y == 2) = false := by simp [y0]
    have n3 : (y == 3) = false := by simp [y0]
    have n4 : (y == 4) = false := by simp [y0]
    clear y0
    go_wp2_with fail
    refine (rd_num 3 g (p + 1) _ [1, 17, 16, -1, 9223372036854775807] _ (hr1.alloc _) (by omega) (list_own 3 (g + 1) w1 [1, 17, 16, -1, 9223372036854775807] (by simp [isI64]) (by decide) (by omega)) (by decide)).mono ?_
    rintro e w2 ⟨n, hn, rfl, hr2, hg2⟩
    replace hg2 : w1.grownBy w2 (some g) := grown_trans (World.grownBy_alloc w1 _ _) hg2
    have hni : isI64 n := by simp at hn; unfold isI64; omega
    have hb1 := (hg2.block w.heap.size (by omega) (fun e => by injection e; omega)).trans HB1.out
    have hb2 := (hg2.block (w.heap.size + 1) (by omega) (fun e => by injection e; omega)).trans HB2.out
    clear c10 c11 c12 f10 f11 f12 c20 c21 c22 f20 f21 f22 hn
    obtain ⟨c10, c11, c12, f10, f11, f12⟩ := cells3 hb1
    obtain ⟨c20, c21, c22, f20, f21, f22⟩ := cells3 hb2
    have hb3 : (w2.setCell ⟨w.heap.size, 0, none⟩ (.int .i64 n)).heap[w.heap.size + 1]? = _ := (heap_setCell_other w2 ⟨w.heap.size, 0, none⟩ (w.heap.size + 1) (.int .i64 n) (by simp)).trans hb2
    have HB3 := Lib.hid hb3
    have hG := grown_setCell (p := ⟨w.heap.size, 0, none⟩) (World.grownBy.refl w2 (some w.heap.size)) (.inl rfl) (.int .i64 n)
    have HO3 := Lib.hid ((HO1.out.grown hg2 (.inr (fun e => hgo' (by injection e)))).grown hG (.inr (fun e => by have e' : some go = some w.heap.size := e; simp at e'; omega)))
    have HR3 := Lib.hid (hr2.grown hG hlt)
    have HK3 := Lib.hid ((k1.step hg2 hbw).set ⟨w.heap.size, 0, none⟩ hbw (.int .i64 n))
    have HJ3 := Lib.hid ((J1.out.next hg2 HSg.out).set ⟨w.heap.size, 0, none⟩ (.inr (Nat.le_refl _)) (.int .i64 n))
    have HNI := Lib.hid hni
    clear hb1 hb2 hb3 hG hr2 hg2 hr1 hni
    go_wp2_with fail
    refine ret_box rfl rfl (three_set HB3.out) Tryz.underlying25 rfl Tryz.sizePln rfl ?_
    exact l3BadPost_of (y := ⟨n, x.passes, x.order⟩) (Nat.le_trans hbw (Nat.le_succ _)) hb0 HNI.out i2 HO3.out (by show x.order.length ≤ _; omega) (fun e => by have e' : some go = some (w.heap.size + 1) := e; simp at e'; omega) HR3.out (by omega) HK3.out HJ3.out (Nat.le_succ _) (HPG.out _ _) rfl rfl rfl
  have t0 : (y == 0) = false := by simpa using y0
  by_cases y1 : y = 1
  · have t1 : (y == 1) = true := by simp [y1]
    clear y0 y1
    go_wp2_with fail
    refine (rd_num 3 g (p + 1) _ [0, 5, 4, 1] _ (hr1.alloc _) (by omega) (list_own 3 (g + 1) w1 [0, 5, 4, 1] (by simp [isI64]) (by decide) (by omega)) (by decide)).mono ?_
    rintro e w2 ⟨n, hn, rfl, hr2, hg2⟩
    replace hg2 : w1.grownBy w2 (some g) := grown_trans (World.grownBy_alloc w1 _ _) hg2
    have hni : isI64 n := by simp at hn; unfold isI64; omega
    have hb1 := (hg2.block w.heap.size (by omega) (fun e => by injection e; omega)).trans HB1.out
    have hb2 := (hg2.block (w.heap.size + 1) (by omega) (fun e => by injection e; omega)).trans HB2.out
    clear c10 c11 c12 f10 f11 f12 c20 c21 c22 f20 f21 f22 hn
    obtain ⟨c10, c11, c12, f10, f11, f12⟩ := cells3 hb1
    obtain ⟨c20, c21, c22, f20, f21, f22⟩ := cells3 hb2
    have hb3 : (w2.setCell ⟨w.heap.size, 1, none⟩ (.int .i64 n)).heap[w.heap.size + 1]? = _ := (heap_setCell_other w2 ⟨w.heap.size, 1, none⟩ (w.heap.size + 1) (.int .i64 n) (by simp)).trans hb2
    have HB3 := Lib.hid hb3
    have hG := grown_setCell (p := ⟨w.heap.size, 1, none⟩) (World.grownBy.refl w2 (some w.heap.size)) (.inl rfl) (.int .i64 n)
    have HO3 := Lib.hid ((HO1.out.grown hg2 (.inr (fun e => hgo' (by injection e)))).grown hG (.inr (fun e => by have e' : some go = some w.heap.size := e; simp at e'; omega)))
    have HR3 := Lib.hid (hr2.grown hG hlt)
    have HK3 := Lib.hid ((k1.step hg2 hbw).set ⟨w.heap.size, 1, none⟩ hbw (.int .i64 n))
    have HJ3 := Lib.hid ((J1.out.next hg2 HSg.out).set ⟨w.heap.size, 1, none⟩ (.inr (Nat.le_refl _)) (.int .i64 n))
    have HNI := Lib.hid hni
    clear hb1 hb2 hb3 hG hr2 hg2 hr1 hni
    go_wp2_with fail
    refine ret_box rfl rfl (three_set HB3.out) Tryz.underlying25 rfl Tryz.sizePln rfl ?_
    exact l3BadPost_of (y := ⟨x.bins, n, x.order⟩) (Nat.le_trans hbw (Nat.le_succ _)) hb0 i1 HNI.out HO3.out (by show x.order.length ≤ _; omega) (fun e => by have e' : some go = some (w.heap.size + 1) := e; simp at e'; omega) HR3.out (by omega) HK3.out HJ3.out (Nat.le_succ _) (HPG.out _ _) rfl rfl rfl
  have t1 : (y == 1) = false := by simpa using y1
  by_cases y2 : y = 2
  · have t2 : (y == 2) = true := by simp [y2]
    have n3 : (y == 3) = false := by simp [y2]
    have n4 : (y == 4) = false := by simp [y2]
    clear y0 y1 y2
    obtain ⟨hs0, hc0'⟩ := own_cellStr HO1.out 0 (by omega)
    generalize x.order[0] = s0 at *
    obtain ⟨i0, hi, hz0, hzz1, hzz2⟩ := info_parts Tryz.infoStr
    have HR1 := Lib.hid hr1; clear hr1
    have hpos : 0 < x.order.length := by omega
    have HNE : Hid (some w.heap.size ≠ (Value.slice (some ⟨go, 0, none⟩) x.order.length c0).ownBlock) := fun e => by
      have e' : some w.heap.size = some go := e
      simp at e'; omega
    have hzw : w.heap.size < w1.heap.size := by omega
    have hzg : go < w1.heap.size := by omega
    have HCA : Hid (∀ o : Obj, (w1.alloc o).drew.cell? ⟨w.heap.size, 2, none⟩ = some (.slice (some ⟨go, 0, none⟩) x.order.length c0)) := fun o => (cells3 (W := (w1.alloc o).drew) ((heap_alloc_old w1 o (by omega)).trans HB1.out)).2.2.1
    have HFA : Hid (∀ o : Obj, (w1.alloc o).drew.frozen? ⟨w.heap.size, 2, none⟩ = false) := fun o => (cells3 (W := (w1.alloc o).drew) ((heap_alloc_old w1 o (by omega)).trans HB1.out)).2.2.2.2.2
    go_wp2_with fail
    go_region_law (go_loud ((refine step_append1 (α := ByteArray) (by rfl) (.tmp 22) (.tmp 27) 23 (by rfl) b0 9 i0 _ 16 Tryz.underlying23 hi hz0 hzz1 hzz2 rfl (by decide) (.slice (some ⟨go, 0, none⟩) x.order.length c0) x.order s0 (by rfl) ((HO1.out.alloc _).drew) ⟨w1.heap.size, 0, none⟩ 1 [.string s0] (by rfl) ⟨hs0, rfl⟩ (news_drew w1 _ [.string s0]) (by unfold maxLen; omega) (by omega) (by simp; omega) ?_; intro g' cap w4 ho4 hg4 ha4 hl4; have hc4 : w4.cell? ⟨w.heap.size, 2, none⟩ = some (.slice (some ⟨go, 0, none⟩) x.order.length c0) := (hg4.cell_far ⟨w.heap.size, 2, none⟩ (by simp; omega) HNE.out).trans (HCA.out _); have hf4 : w4.frozen? ⟨w.heap.size, 2, none⟩ = false := (hg4.frozen_far ⟨w.heap.size, 2, none⟩ (by simp; omega) HNE.out).trans (HFA.out _))))
    all_goals
      have hWA : Below b0 w1 (w1.alloc (Obj.cells #[Value.string s0] 9)).drew := ((Below.refl _ _).alloc (by omega) _).drew
      have hJA : Below w.heap.size w1 (w1.alloc (Obj.cells #[Value.string s0] 9)).drew := ((Below.refl _ _).alloc (by omega) _).drew
      have HRA : Hid (rdr (w1.alloc (Obj.cells #[Value.string s0] 9)).drew g (p + 1)) := (HR1.out.alloc _).below ((Below.refl _ _).drew)
      have HOA : Hid (own 9 b0 (w1.alloc (Obj.cells #[Value.string s0] 9)).drew (.slice (some ⟨go, 0, none⟩) x.order.length c0) x.order) := (HO1.out.alloc _).drew
      have hb2A : (w1.alloc (Obj.cells #[Value.string s0] 9)).drew.heap[w.heap.size + 1]? = some (.cells #[.int .i64 0, .int .i64 0, .slice none 0 0] 25 (0, 0)) := (heap_alloc_old w1 _ (by omega)).trans HB2.out
      have hzA : (w1.alloc (Obj.cells #[Value.string s0] 9)).drew.heap.size = w1.heap.size + 1 := by simp
      have hb1A : (w1.alloc (Obj.cells #[Value.string s0] 9)).drew.heap[w.heap.size]? = some (.cells #[.int .i64 x.bins, .int .i64 x.passes, .slice (some ⟨go, 0, none⟩) x.order.length c0] 25 (0, 0)) := (heap_alloc_old w1 _ (by omega)).trans HB1.out
      generalize (w1.alloc (Obj.cells #[Value.string s0] 9)).drew = wA at *
      have h14 := (hg4.block w.heap.size (by omega) (fun e => by have e' : some w.heap.size = some go := e; simp at e'; omega)).trans hb1A
      clear c10 c11 c12 f10 f11 f12 c20 c21 c22 f20 f21 f22 hc0'
      obtain ⟨c10, c11, c12, f10, f11, f12⟩ := cells3 h14
      have h24 := (hg4.block (w.heap.size + 1) (by omega) (fun e => by have e' : some (w.heap.size + 1) = some go := e; simp at e'; omega)).trans hb2A
      obtain ⟨c20, c21, c22, f20, f21, f22⟩ := cells3 h24
      have hk4 : kept2 g b0 w w4 := k1.trans (kept2.below (hWA.trans (below_append HOA.out hg4 (by omega))))
      have HJ4 := Lib.hid ((J1.out.below hJA).next hg4 fun r e => .inl (by have e' : some go = some r := e; injection e' with e'; rw [← e']; exact HSG.out))
      clear hJA
      have HR4 := Lib.hid (HRA.out.append HOA.out hg4 hb0)
      have hgn : g' ≠ w.heap.size ∧ g' ≠ w.heap.size + 1 := by
        rcases ha4 with h | h
        · have e' : some g' = some go := h
          simp at e'; omega
        · omega
      have HPB : Hid (∀ k, (Value.slice (some ⟨g', 0, none⟩) (x.order.length + 1) cap).ownBlock = some k → S k ∨ w.heap.size ≤ k) := fun k e => by
        have e' : some g' = some k := e
        injection e' with e'
        rcases ha4 with h | h
        · have e2 : some g' = some go := h
          injection e2 with e2
          exact .inl (by rw [← e', e2]; exact HSG.out)
        · exact .inr (by omega)
      have HO4 := Lib.hid ho4
      have hb3 : (w4.setCell ⟨w.heap.size, 2, none⟩ (.slice (some ⟨g', 0, none⟩) (x.order.length + 1) cap)).heap[w.heap.size + 1]? = _ := (heap_setCell_other w4 ⟨w.heap.size, 2, none⟩ (w.heap.size + 1) (.slice (some ⟨g', 0, none⟩) (x.order.length + 1) cap) (by simp)).trans h24
      have HB3 := Lib.hid hb3
      have hG := grown_setCell (p := ⟨w.heap.size, 2, none⟩) (World.grownBy.refl w4 (some w.heap.size)) (.inl rfl) (.slice (some ⟨g', 0, none⟩) (x.order.length + 1) cap)
      have HO3 := Lib.hid (HO4.out.grown hG (.inr (fun e => by have e' : some g' = some w.heap.size := e; simp at e'; omega)))
      have HR3 := Lib.hid (HR4.out.grown hG hlt)
      have HK3 := Lib.hid (hk4.set ⟨w.heap.size, 2, none⟩ hbw (.slice (some ⟨g', 0, none⟩) (x.order.length + 1) cap))
      have HJ3 := Lib.hid (HJ4.out.set ⟨w.heap.size, 2, none⟩ (.inr (Nat.le_refl _)) (.slice (some ⟨g', 0, none⟩) (x.order.length + 1) cap))
      clear hb3 hG hk4 h24 h14 hb1A hb2A hg4 ho4 ha4 hWA
      go_wp2_with fail
      refine ret_box rfl rfl (three_set HB3.out) Tryz.underlying25 rfl Tryz.sizePln rfl ?_
      exact l3BadPost_of (y := ⟨x.bins, x.passes, x.order ++ [s0]⟩) (Nat.le_trans hbw (Nat.le_succ _)) hb0 i1 i2 HO3.out (by simp; omega) (fun e => by have e' : some g' = some (w.heap.size + 1) := e; simp at e'; omega) HR3.out (by omega) HK3.out HJ3.out (Nat.le_succ _) HPB.out rfl rfl rfl
  have t2 : (y == 2) = false := by simpa using y2
  by_cases y3 : y = 3
  · have t3 : (y == 3) = true := by simp [y3]
    have n4 : (y == 4) = false := by simp [y3]
    clear y0 y1 y2 y3
    have hpos : 0 < x.order.length := by omega
    obtain ⟨hs0, hcO⟩ := own_cellStr HO1.out 0 hpos
    have hfO : w1.frozen? ⟨go, 0, none⟩ = false := HO1.out.freeAt 0
    have hs7 : x.order[0].size = 7 := HDC.out _ (List.getElem_mem hpos)
    obtain ⟨s0, hs0e⟩ : ∃ z, z = x.order[0] := ⟨_, rfl⟩
    rw [← hs0e] at hcO hs7
    clear hs0 hs0e
    have HR1 := Lib.hid hr1; clear hr1
    have hzw : w.heap.size < w1.heap.size := by omega
    have hzg : go < w1.heap.size := by omega
    have HCO := Lib.hid hcO; have HFO := Lib.hid hfO
    have HC12 := Lib.hid c12
    have HS8 : Hid ((s0 ++ (⟨#[49]⟩ : ByteArray)).size = 8) := by show _ = _; rw [ByteArray.size_append, hs7]; rfl
    have HC1 : Hid (Calls Tryz.prog 81 #[.pointer (some ⟨g, 0, none⟩), .string (s0 ++ (⟨#[49]⟩ : ByteArray))] w1.drew fun e w' => ∃ (t : ByteArray), e = .returned (.string t) ∧ t.size ≤ 9 ∧ rdr w' g (p + 2) ∧ w1.grownBy w' (some g)) := by
      refine (rd_l1Bad g (p + 1) _ _ (HR1.out.below ((Below.refl _ _).drew)) (by omega) (by rw [HS8.out]; omega) (by rw [HS8.out]; omega)).mono ?_
      rintro e w' ⟨t, h1, h2, h3, h4⟩
      exact ⟨t, h1, by rw [HS8.out] at h2; exact h2, h3, ⟨h4.os, h4.tape, h4.output, h4.size, h4.block⟩⟩
    have hzi : (0 : Int) < (x.order.length : Int) := by omega
    have HN1 : Hid (some w.heap.size ≠ some g) := fun e => by injection e; omega
    have HN2 : Hid (some go ≠ some g) := fun e => hgo' (by injection e)
    go_wp2_with fail
    go_region_law (first | (go_simp; go_at_call 81; refine HC1.out.mono ?_; rintro e w2 ⟨t, rfl, ht, hr2, hg2⟩; have cb2 : w2.cell? ⟨w.heap.size, 2, none⟩ = some (.slice (some ⟨go, 0, none⟩) x.order.length c0) := (hg2.cell_far ⟨w.heap.size, 2, none⟩ hzw HN1.out).trans HC12.out; have co2 : w2.cell? ⟨go, 0, none⟩ = some (.string s0) := (hg2.cell_far ⟨go, 0, none⟩ hzg HN2.out).trans HCO.out; have fo2 : w2.frozen? ⟨go, 0, none⟩ = false := (hg2.frozen_far ⟨go, 0, none⟩ hzg HN2.out).trans HFO.out))
    all_goals
      have hb1 := (hg2.block w.heap.size (by omega) HN1.out).trans HB1.out
      have hb2 := (hg2.block (w.heap.size + 1) (by omega) (fun e => by injection e; omega)).trans HB2.out
      have hb3 : (w2.setCell ⟨go, 0, none⟩ (.string t)).heap[w.heap.size]? = _ := (heap_setCell_other w2 ⟨go, 0, none⟩ w.heap.size (.string t) (by show w.heap.size ≠ go; omega)).trans hb1
      have hb4 : (w2.setCell ⟨go, 0, none⟩ (.string t)).heap[w.heap.size + 1]? = _ := (heap_setCell_other w2 ⟨go, 0, none⟩ (w.heap.size + 1) (.string t) (by show w.heap.size + 1 ≠ go; omega)).trans hb2
      clear c10 c11 c12 f10 f11 f12 c20 c21 c22 f20 f21 f22 hcO hfO cb2 co2 fo2
      obtain ⟨c10, c11, c12, f10, f11, f12⟩ := cells3 hb3
      obtain ⟨c20, c21, c22, f20, f21, f22⟩ := cells3 hb4
      have HB4 := Lib.hid hb4
      have HO3 := Lib.hid (own_setText (HO1.out.grown hg2 (.inr HN2.out)) hpos t (by unfold maxLen; omega))
      have hG := grown_setCell (p := ⟨go, 0, none⟩) (World.grownBy.refl w2 (some go)) (.inl rfl) (.string t)
      have HR3 := Lib.hid (hr2.grown hG (by omega))
      have HK3 := Lib.hid ((k1.step hg2 hbw).set ⟨go, 0, none⟩ hgo (.string t))
      have HJ3 := Lib.hid ((J1.out.next hg2 HSg.out).set ⟨go, 0, none⟩ (.inl HSG.out) (.string t))
      clear hb1 hb2 hb3 hb4 hG hr2 hg2
      go_wp2_with fail
      refine ret_box rfl rfl (three_set HB4.out) Tryz.underlying25 rfl Tryz.sizePln rfl ?_
      exact l3BadPost_of (y := ⟨x.bins, x.passes, x.order.set 0 t⟩) (Nat.le_trans hbw (Nat.le_succ _)) hb0 i1 i2 HO3.out (by simp; omega) (fun e => by have e' : some go = some (w.heap.size + 1) := e; simp at e'; omega) HR3.out (by omega) HK3.out HJ3.out (Nat.le_succ _) (HPG.out _ _) rfl rfl rfl
  have t3 : (y == 3) = false := by simpa using y3
  by_cases y4 : y = 4
  · have t4 : (y == 4) = true := by simp [y4]
    clear y0 y1 y2 y3 y4
    have hb3 : (w1.setCell ⟨w.heap.size, 2, none⟩ (.slice (some ⟨go, 0, none⟩) 0 c0)).heap[w.heap.size + 1]? = _ := (heap_setCell_other w1 ⟨w.heap.size, 2, none⟩ (w.heap.size + 1) (.slice (some ⟨go, 0, none⟩) 0 c0) (by simp)).trans HB2.out
    have HB3 := Lib.hid hb3
    have hG := grown_setCell (p := ⟨w.heap.size, 2, none⟩) (World.grownBy.refl w1 (some w.heap.size)) (.inl rfl) (.slice (some ⟨go, 0, none⟩) 0 c0)
    have HO3 := Lib.hid (HO1.out.none_.grown hG (.inr (fun e => by have e' : some go = some w.heap.size := e; simp at e'; omega)))
    have HR3 := Lib.hid (hr1.grown hG hlt)
    have HK3 := Lib.hid (k1.set ⟨w.heap.size, 2, none⟩ hbw (.slice (some ⟨go, 0, none⟩) 0 c0))
    have HJ3 := Lib.hid (J1.out.set ⟨w.heap.size, 2, none⟩ (.inr (Nat.le_refl _)) (.slice (some ⟨go, 0, none⟩) 0 c0))
    clear hb3 hG hr1
    go_wp2_with fail
    refine ret_box rfl rfl (three_set HB3.out) Tryz.underlying25 rfl Tryz.sizePln rfl ?_
    exact l3BadPost_of (y := ⟨x.bins, x.passes, []⟩) (Nat.le_trans hbw (Nat.le_succ _)) hb0 i1 i2 HO3.out (by simp) (fun e => by have e' : some go = some (w.heap.size + 1) := e; simp at e'; omega) HR3.out (by omega) HK3.out HJ3.out (Nat.le_succ _) (HPG.out _ _) rfl rfl rfl
  have t4 : (y == 4) = false := by simpa using y4
  clear y0 y1 y2 y3 y4
  go_wp2_with fail
  refine ret_box rfl rfl (three_set HB2.out) Tryz.underlying25 rfl Tryz.sizePln rfl ?_
  exact l3BadPost_of (y := x) (Nat.le_trans hbw (Nat.le_succ _)) hb0 i1 i2 HO1.out (by omega) (fun e => by have e' : some go = some (w.heap.size + 1) := e; simp at e'; omega) hr1 (by omega) k1 J1.out (Nat.le_succ _) (HPG.out _ _) rfl rfl rfl

end Go.Proofs.YtpinkbodbedajaaGreatDoor

namespace Go.Proofs.YtpinkbodbedajaaGreatDoor
open Go.RowKit


end Go.Proofs.YtpinkbodbedajaaGreatDoor

namespace Go.Proofs.YtpinkbodbedajaaGreatDoor
open Go.RowKit

end Go.Proofs.YtpinkbodbedajaaGreatDoor

namespace Go.Proofs.YtpinkbodbedajaaGreatDoor
open Go.RowKit

/-- Texts of one's own, just made. -/
theorem list_str (T base : Nat) (w : World) (xs : List ByteArray) (hx : ∀ x ∈ xs, x.size ≤ maxLen) (hm : xs.length ≤ maxLen) (hb : base ≤ w.heap.size) :
    own T base (w.alloc (Obj.cells (xs.map Value.string).toArray T)) (.slice (some ⟨w.heap.size, 0, none⟩) xs.length xs.length) xs := by
  have h1 : (xs.map fun x => [Value.string x]).flatten = xs.map Value.string := by
    clear hm hx
    induction xs with
    | nil => rfl
    | cons x xs ih => simp [ih]
  refine ⟨xs.map fun x => [Value.string x], ⟨?_, .inr ⟨w.heap.size, xs.length, _, rfl, hb, heap_alloc_new w _, Nat.le_refl _, hm, by simp [El.size], ?_⟩⟩, by simp, fun k hk hk' => ?_⟩
  · rw [h1]
    simp [El.size]
  · rw [h1]
    simp only [El.size, Nat.mul_one]
    exact List.take_of_length_le (by simp)
  · simp only [List.getElem_map]
    exact ⟨hx _ (List.getElem_mem hk), rfl⟩
end Go.Proofs.YtpinkbodbedajaaGreatDoor

namespace Go.Proofs.YtpinkbodbedajaaGreatDoor
open Go.RowKit

/-- Drawn rules: beginnings of codes, all of them different, and names out of a list. -/
def drawnR (ns : List ByteArray) (rs : List Fwd) : Prop := (∀ x ∈ rs, isPfx x.src = true ∧ x.dst ∈ ns) ∧ rs.Pairwise fun x y => x.src ≠ y.src
theorem drawnR.nil (ns : List ByteArray) : drawnR ns [] := ⟨fun _ h => by simp at h, List.Pairwise.nil⟩
theorem drawnR.snoc {ns : List ByteArray} {rs : List Fwd} {s t : ByteArray} (h : drawnR ns rs) (hs : isPfx s = true) (ht : t ∈ ns) (hn : fwdI rs s < 0) : drawnR ns (rs ++ [⟨s, t⟩]) := by
  refine ⟨fun x hx => ?_, List.pairwise_append.2 ⟨h.2, List.pairwise_singleton _ _, fun x hx y hy => ?_⟩⟩
  · rcases List.mem_append.1 hx with hx | hx
    · exact h.1 x hx
    · simp at hx; subst hx; exact ⟨hs, ht⟩
  · simp at hy; subst hy; exact sEq_false.1 (fiI_neg hn x hx)
theorem drawnR.ok {ns : List ByteArray} {rs : List Fwd} (h : drawnR ns rs) (hl : rs.length ≤ 20) (hns : ∀ x ∈ ns, isName x = true) : rulesOk rs = true :=
  rulesOk_iff.2 ⟨hl, fun k hk => ⟨(h.1 _ (List.getElem_mem hk)).1, hns _ (h.1 _ (List.getElem_mem hk)).2, fun j hj => List.pairwise_iff_getElem.1 h.2 j k (by omega) hk hj⟩⟩
def abcd : List ByteArray := [⟨#[97]⟩, ⟨#[98]⟩, ⟨#[99]⟩, ⟨#[100]⟩]
def netNs (n : Nat) : List ByteArray := ([hereW, hereW] : List ByteArray) ++ abcd.take n
theorem netNs_name (n : Nat) : ∀ x ∈ netNs n, isName x = true := fun x hx => by
  have h1 : x ∈ [hereW, hereW] ++ abcd := by
    rcases List.mem_append.1 hx with h | h
    · exact List.mem_append.2 (.inl h)
    · exact List.mem_append.2 (.inr (List.mem_of_mem_take h))
  have h2 : ∀ x ∈ [hereW, hereW] ++ abcd, isName x = true := by decide
  exact h2 x h1
/-- A drawn network: office j is called a, b, c, d, and its rules send to the offices or home. -/
def drawnN (n : Nat) (net : List Ofc) : Prop := ∀ j (h : j < net.length), net[j].name = abcd[j]?.getD ⟨#[]⟩ ∧ drawnR (netNs n) net[j].rules ∧ net[j].rules.length ≤ 6
theorem drawnN.nil (n : Nat) : drawnN n [] := fun j h => absurd h (Nat.not_lt_zero j)
theorem drawnN.snoc {n : Nat} {net : List Ofc} {nm : ByteArray} {rs : List Fwd} (h : drawnN n net) (hnm : nm = abcd[net.length]?.getD ⟨#[]⟩) (hr : drawnR (netNs n) rs) (hl : rs.length ≤ 6) : drawnN n (net ++ [⟨nm, rs⟩]) := fun j hj => by
  by_cases hj2 : j < net.length
  · rw [List.getElem_append_left hj2]; exact h j hj2
  · rw [List.getElem_append_right (by omega)]
    have e : j - net.length = 0 := by simp at hj; omega
    have e2 : j = net.length := by simp at hj; omega
    simp only [e, List.getElem_cons_zero]
    rw [e2]
    exact ⟨hnm, hr, hl⟩
theorem abcd_good {j : Nat} (h : j < 4) : isName (abcd[j]?.getD ⟨#[]⟩) = true ∧ abcd[j]?.getD ⟨#[]⟩ ≠ hereW ∧ ∀ i, i < j → abcd[i]?.getD ⟨#[]⟩ ≠ abcd[j]?.getD ⟨#[]⟩ := by
  have : ∀ j, j < 4 → isName (abcd[j]?.getD ⟨#[]⟩) = true ∧ abcd[j]?.getD ⟨#[]⟩ ≠ hereW ∧ ∀ i, i < j → abcd[i]?.getD ⟨#[]⟩ ≠ abcd[j]?.getD ⟨#[]⟩ := by decide
  exact this j h
theorem abcd_mem {n : Nat} {x : ByteArray} (hn : n ≤ 4) (h : x ∈ abcd.take n) : ∃ j, j < n ∧ abcd[j]?.getD ⟨#[]⟩ = x := by
  obtain ⟨j, hj, rfl⟩ := List.mem_take_iff_getElem.1 h
  exact ⟨j, by omega, by rw [List.getElem?_eq_getElem (by omega)]; rfl⟩
theorem drawnN.ok {net : List Ofc} (h : drawnN net.length net) (h1 : 1 ≤ net.length) (h4 : net.length ≤ 4) : netOk net = true := by
  refine netOk_iff.2 ⟨⟨h1, by omega⟩, fun k hk => ?_⟩
  obtain ⟨a, b, c⟩ := h k hk
  obtain ⟨g1, g2, g3⟩ := abcd_good (j := k) (by omega)
  refine ⟨by rw [a]; exact g1, by rw [a]; exact g2, fun j hj => by rw [(h j (by omega)).1, a]; exact g3 j hj, b.ok (by omega) (netNs_name _), fun r hr => ?_⟩
  rcases List.mem_append.1 (b.1 r hr).2 with h | hm
  · left; simp at h; exact h
  · right
    obtain ⟨i, hi, e⟩ := abcd_mem h4 hm
    have hx : ¬ offI net r.dst < 0 := fun hneg => by
      have := sEq_false.1 (fiI_neg hneg net[i] (List.getElem_mem hi))
      exact this ((h i hi).1.trans e)
    omega

end Go.Proofs.YtpinkbodbedajaaGreatDoor

namespace Go.Proofs.YtpinkbodbedajaaGreatDoor
open Go.RowKit

/-- Behind the drawing of a rule: it lies in a block B of its own. -/
structure midR (T g q : Nat) (w0 : World) (s t : ByteArray) (B : Nat) (W : World) : Prop where
  hB : w0.heap.size ≤ B
  hrow : W.heap[B]? = some (.cells #[.string s, .string t] T (0, 0))
  hr : rdr W g q
  hk : kept2 g w0.heap.size w0 W
end Go.Proofs.YtpinkbodbedajaaGreatDoor

namespace Go.Proofs.YtpinkbodbedajaaGreatDoor
open Go.RowKit

section
variable {T1 T2 base G n c : Nat} {w w1 : World} {net : List Ofc} {os : List OfV}
/-- An office more. -/
theorem isN.snoc {v u : Value} {g m cap : Nat} {nm : ByteArray} {ys : List Fwd} (h : isN T1 T2 base w v net os) (ho : own T2 base w u ys) (hf : apart u v) (hfs : ∀ k (hk : k < os.length), apart u os[k].val)
    (hn : own T1 base w1 (.slice (some ⟨g, 0, none⟩) m cap) (os ++ [⟨nm, u⟩])) (hg : w.grownBy w1 v.ownBlock) (ha : some g = v.ownBlock ∨ g = w.heap.size) :
    isN T1 T2 base w1 (.slice (some ⟨g, 0, none⟩) m cap) (net ++ [⟨nm, ys⟩]) (os ++ [⟨nm, u⟩]) := by
  obtain ⟨h1, h2, h3, h4, h5⟩ := h
  have hfu : ∀ k (hk : k < (os ++ [(⟨nm, u⟩ : OfV)]).length), apart (os ++ [(⟨nm, u⟩ : OfV)])[k].val v := fun k hk => by
    by_cases hkv : k < os.length
    · rw [List.getElem_append_left hkv]; exact h5 k hkv
    · rw [List.getElem_append_right (by omega)]
      have : k - os.length = 0 := by simp at hk; omega
      simp only [this, List.getElem_cons_zero]; exact hf
  have hlt : ∀ k (hk : k < (os ++ [(⟨nm, u⟩ : OfV)]).length) j, (os ++ [(⟨nm, u⟩ : OfV)])[k].val.ownBlock = some j → j < w.heap.size := fun k hk j => by
    by_cases hkv : k < os.length
    · rw [List.getElem_append_left hkv]; exact fun e => ((h3 k hkv (by omega)).2.blk j e).2
    · rw [List.getElem_append_right (by omega)]
      have : k - os.length = 0 := by simp at hk; omega
      simp only [this, List.getElem_cons_zero]; exact fun e => (ho.blk j e).2
  refine ⟨hn, by simp [h2], fun k hk hk' => ?_, fun j k hj hk hne => ?_, fun k hk => ?_⟩
  · by_cases hkv : k < os.length
    · rw [List.getElem_append_left hkv, List.getElem_append_left (by omega)]
      exact ⟨(h3 k hkv (by omega)).1, (h3 k hkv (by omega)).2.grown hg (h5 k hkv)⟩
    · have e1 : k - os.length = 0 := by simp at hk; omega
      have e2 : k - net.length = 0 := by omega
      rw [List.getElem_append_right (by omega), List.getElem_append_right (by omega)]
      simp only [e1, e2, List.getElem_cons_zero]
      exact ⟨trivial, ho.grown hg hf⟩
  · by_cases hjv : j < os.length
    · by_cases hkv : k < os.length
      · rw [List.getElem_append_left hjv, List.getElem_append_left hkv]; exact h4 j k hjv hkv hne
      · have e1 : k - os.length = 0 := by simp at hk; omega
        rw [List.getElem_append_left hjv, List.getElem_append_right (by omega)]
        simp only [e1, List.getElem_cons_zero]; exact apart_symm (hfs j hjv)
    · have e1 : j - os.length = 0 := by simp at hj; omega
      by_cases hkv : k < os.length
      · rw [List.getElem_append_right (by omega), List.getElem_append_left hkv]
        simp only [e1, List.getElem_cons_zero]; exact hfs k hkv
      · exfalso; simp at hj hk; omega
  · exact apart_symm (apart_app (apart_symm (hfu k hk)) ha fun j hj => hlt k hk j hj)
end

end Go.Proofs.YtpinkbodbedajaaGreatDoor

namespace Go.Proofs.YtpinkbodbedajaaGreatDoor
open Go.RowKit







end Go.Proofs.YtpinkbodbedajaaGreatDoor

namespace Go.Proofs.YtpinkbodbedajaaGreatDoor
open Go.RowKit

theorem kept2.mono {g b b' : Nat} {u w : World} (h : kept2 g b' u w) (hb : b ≤ b') : kept2 g b u w := ⟨h.os, h.tape, h.output, h.size, fun k hk hne => h.block k (by omega) hne⟩
theorem isN.keepBlk {T1 T2 base : Nat} {w w' : World} {v : Value} {net : List Ofc} {os : List OfV} (h : isN T1 T2 base w v net os) (hk : ∀ k, base ≤ k → k < w.heap.size → w'.heap[k]? = w.heap[k]?) : isN T1 T2 base w' v net os :=
  ⟨h.1.keepBlk fun k e => hk k (h.1.blk k e).1 (h.1.blk k e).2, h.2.1, fun k a b => ⟨(h.2.2.1 k a b).1, (h.2.2.1 k a b).2.keepBlk fun j e => hk j ((h.2.2.1 k a b).2.blk j e).1 ((h.2.2.1 k a b).2.blk j e).2⟩, h.2.2.2.1, h.2.2.2.2⟩
theorem isN.none_ {T1 T2 base : Nat} {w : World} {v : Value} (h : own (α := OfV) T1 base w v []) : isN T1 T2 base w v [] [] :=
  ⟨h, rfl, fun k h => absurd h (Nat.not_lt_zero k), fun j _ h => absurd h (Nat.not_lt_zero j), fun k h => absurd h (Nat.not_lt_zero k)⟩

end Go.Proofs.YtpinkbodbedajaaGreatDoor

namespace Go.Proofs.YtpinkbodbedajaaGreatDoor
open Go.RowKit

/-! ### Who comes home -/
end Go.Proofs.YtpinkbodbedajaaGreatDoor

namespace Go.Proofs.YtpinkbodbedajaaGreatDoor
open Go.RowKit


/-! ### Paths -/



end Go.Proofs.YtpinkbodbedajaaGreatDoor

namespace Go.Proofs.YtpinkbodbedajaaGreatDoor
open Go.RowKit

def osStep (n : Int) (x : Ltr) : Int := (31 * n + x.id) % 9973
def sStep (n : Int) (x : Ltr) : Int := (n + x.id * x.id) % 9973
def osL (xs : List Ltr) : Int := xs.foldl osStep 0
def sL (xs : List Ltr) : Int := xs.foldl sStep 0
theorem fold_take {α β : Type} (f : β → α → β) (b : β) (xs : List α) (k : Nat) (h : k < xs.length) : (xs.take (k + 1)).foldl f b = f ((xs.take k).foldl f b) xs[k] := by
  rw [List.take_succ_eq_append_getElem h, List.foldl_append]; rfl
theorem okB_at {xs : List Ltr} (h : okB xs = true) (k : Nat) (hk : k < xs.length) : 1 ≤ xs[k].id ∧ xs[k].id ≤ 9999 := by
  have := (okB_iff.1 h).2 k hk
  exact ⟨this.1, this.2.1⟩
theorem sq_bound {a : Int} (h1 : 1 ≤ a) (h2 : a ≤ 9999) : 0 ≤ a * a ∧ a * a ≤ 99980001 :=
  ⟨Int.mul_nonneg (by omega) (by omega), by have := Int.mul_le_mul h2 h2 (by omega) (by omega); omega⟩

def orOf (b : Bool) (n : Int) : Int := if b then n else -1

set_option maxHeartbeats 400000 in
theorem impl_OrderSeal (v : Value) (xs : List Ltr) (w : World) (hv : rd w w.heap.size v xs) :
    Calls Tryz.prog 41 #[v] w fun e w' => e = .returned (.int .i64 (orOf (okB xs) (osL xs))) ∧ Below w.heap.size w w' := by
  have hv0 := hv
  obtain ⟨A, n, c, rfl, hn, hc, hm, hr⟩ := hv
  subst hn
  unfold maxLen at hm
  have HR := Lib.hid hr; clear hr
  go_enter Tryz.func41, Tryz.ntmps41
  go_wp2_with fail
  refine (impl_BatchValid _ _ _ hv0).mono ?_
  rintro e w0 ⟨rfl, hb0⟩
  clear hv0
  cases hok : okB xs
  · have HOK := Lib.hid hok; clear hok
    go_wp2
    go_ret
    exact ⟨ret_int (by rw [HOK.out]; rfl), hb0⟩
  · have HOK := Lib.hid hok; clear hok
    go_wp2
    go_loopw [3, 11] (fun t i wr => ∃ (k : Nat) (m : Int), k ≤ xs.length ∧ i = .int .i64 k ∧ t = .int .i64 m ∧ 0 ≤ m ∧ m < 9973 ∧ Hid (m = (xs.take k).foldl osStep 0) ∧ Below w.heap.size w wr) (fun _ i _ => xs.length - (intOf i).toNat)
    case atStart => exact ⟨0, 0, Nat.zero_le _, rfl, rfl, by omega, by omega, rfl, hb0⟩
    case round =>
      obtain ⟨k, m, hk, rfl, rfl, m0, m1, HM, hbl⟩ := hrel
      obtain ⟨w1, rfl⟩ : ∃ w1 : World, w1 = wr := ⟨_, rfl⟩
      have hbz := hbl.size
      clear hb0
      by_cases hlt : k < xs.length
      · obtain ⟨b, o, rfl, hb, _, c1, c2⟩ := HR.out.ltr k hlt
        obtain ⟨i1, i2⟩ := okB_at HOK.out k hlt
        have HS := Lib.hid (fold_take osStep 0 xs k hlt)
        generalize xs[k] = x at *
        have c1' : w1.cell? ⟨b, o + k * 2, none⟩ = some (.int .i64 x.id) := (hbl.cell (p := ⟨b, o + k * 2, none⟩) hb).trans c1
        have c2' : w1.cell? ⟨b, o + k * 2 + 1, none⟩ = some (.string x.code) := (hbl.cell (p := ⟨b, o + k * 2 + 1, none⟩) hb).trans c2
        clear c1 c2
        go_wp2
        go_roundw
        case rel => exact ⟨k + 1, (31 * m + x.id) % 9973, by omega, by go_num, rfl, by omega, by omega, by show _ = _; rw [HS.out, ← HM.out]; rfl, hbl.alloc hbz _⟩
        case measure => simp [intOf]; omega
      · have HE := Lib.hid (show k = xs.length by omega)
        go_wp2
        go_ret
        exact ⟨ret_int (by rw [HM.out, HE.out, List.take_length, HOK.out]; rfl), hbl⟩

set_option maxHeartbeats 400000 in
theorem impl_SealOf (v : Value) (xs : List Ltr) (w : World) (hv : rd w w.heap.size v xs) :
    Calls Tryz.prog 40 #[v] w fun e w' => e = .returned (.int .i64 (orOf (okB xs) (sL xs))) ∧ Below w.heap.size w w' := by
  have hv0 := hv
  obtain ⟨A, n, c, rfl, hn, hc, hm, hr⟩ := hv
  subst hn
  unfold maxLen at hm
  have HR := Lib.hid hr; clear hr
  go_enter Tryz.func40, Tryz.ntmps40
  go_wp2_with fail
  refine (impl_BatchValid _ _ _ hv0).mono ?_
  rintro e w0 ⟨rfl, hb0⟩
  clear hv0
  cases hok : okB xs
  · have HOK := Lib.hid hok; clear hok
    go_wp2
    go_ret
    exact ⟨ret_int (by rw [HOK.out]; rfl), hb0⟩
  · have HOK := Lib.hid hok; clear hok
    go_wp2
    go_loopw [3, 11] (fun t i wr => ∃ (k : Nat) (m : Int), k ≤ xs.length ∧ i = .int .i64 k ∧ t = .int .i64 m ∧ 0 ≤ m ∧ m < 9973 ∧ Hid (m = (xs.take k).foldl sStep 0) ∧ Below w.heap.size w wr) (fun _ i _ => xs.length - (intOf i).toNat)
    case atStart => exact ⟨0, 0, Nat.zero_le _, rfl, rfl, by omega, by omega, rfl, hb0⟩
    case round =>
      obtain ⟨k, m, hk, rfl, rfl, m0, m1, HM, hbl⟩ := hrel
      obtain ⟨w1, rfl⟩ : ∃ w1 : World, w1 = wr := ⟨_, rfl⟩
      have hbz := hbl.size
      clear hb0
      by_cases hlt : k < xs.length
      · obtain ⟨b, o, rfl, hb, _, c1, c2⟩ := HR.out.ltr k hlt
        obtain ⟨i1, i2⟩ := okB_at HOK.out k hlt
        obtain ⟨q1, q2⟩ := sq_bound i1 i2
        have HS := Lib.hid (fold_take sStep 0 xs k hlt)
        generalize xs[k] = x at *
        have c1' : w1.cell? ⟨b, o + k * 2, none⟩ = some (.int .i64 x.id) := (hbl.cell (p := ⟨b, o + k * 2, none⟩) hb).trans c1
        have c2' : w1.cell? ⟨b, o + k * 2 + 1, none⟩ = some (.string x.code) := (hbl.cell (p := ⟨b, o + k * 2 + 1, none⟩) hb).trans c2
        clear c1 c2
        go_wp2
        go_roundw
        case rel => exact ⟨k + 1, (m + x.id * x.id) % 9973, by omega, by go_num, rfl, by omega, by omega, by show _ = _; rw [HS.out, ← HM.out]; rfl, hbl.alloc hbz _⟩
        case measure => simp [intOf]; omega
      · have HE := Lib.hid (show k = xs.length by omega)
        go_wp2
        go_ret
        exact ⟨ret_int (by rw [HM.out, HE.out, List.take_length, HOK.out]; rfl), hbl⟩


end Go.Proofs.YtpinkbodbedajaaGreatDoor

namespace Go.Proofs.YtpinkbodbedajaaGreatDoor
open Go.RowKit

/-- Every element whose index is a multiple of k + 1, behind n that are passed over. -/
def every (k : Nat) : List Ltr → Nat → List Ltr
  | [], _ => []
  | x :: xs, 0 => x :: every k xs k
  | _ :: xs, n + 1 => every k xs n
end Go.Proofs.YtpinkbodbedajaaGreatDoor

namespace Go.Proofs.YtpinkbodbedajaaGreatDoor
open Go.RowKit

theorem own_setLtr {T base g n c : Nat} {w : World} {xs : List Ltr} (h : own T base w (.slice (some ⟨g, 0, none⟩) n c) xs) {k : Nat} (hk : k < xs.length) (y : Ltr) (hy : y.ok) :
    own T base ((w.setCell ⟨g, k * 2, none⟩ (.int .i64 y.id)).setCell ⟨g, k * 2 + 1, none⟩ (.string y.code)) (.slice (some ⟨g, 0, none⟩) n c) (xs.set k y) := by
  have h1 := h.setCell (k := k) (j := 0) hk (by decide) (.int .i64 y.id) ⟨y.id, xs[k].code⟩ (fun ecs he => by
    obtain ⟨⟨_, q⟩, rfl⟩ := he
    exact ⟨⟨hy.1, q⟩, rfl⟩)
  have h2 := h1.setCell (k := k) (j := 1) (by simpa using hk) (by decide) (.string y.code) y (fun ecs he => by
    obtain ⟨_, rfl⟩ := he
    refine ⟨hy, ?_⟩
    simp [Ltr.cells])
  rw [List.set_set] at h2
  exact h2

end Go.Proofs.YtpinkbodbedajaaGreatDoor
