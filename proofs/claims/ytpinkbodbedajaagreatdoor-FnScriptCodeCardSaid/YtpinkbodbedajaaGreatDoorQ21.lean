/- GR NU NH -/
import Derived.Test.YtpinkbodbedajaaGreatDoorQ15
import Derived.Test.YtpinkbodbedajaaGreatDoorQ11
import Derived.Test.YtpinkbodbedajaaGreatDoorQ19
import Derived.Test.YtpinkbodbedajaaGreatDoorQ13
import Derived.Test.YtpinkbodbedajaaGreatDoorQ5
namespace Go.Proofs.YtpinkbodbedajaaGreatDoor
open Go.RowKit



theorem Tryz.infoRul : (Tryz.prog.info? 174).map (fun i => (i.zero, i.size, i.bytes)) = some (some (.agg #[.string ⟨#[]⟩, .string ⟨#[]⟩]), 2, 32) := by kernel_rfl







end Go.Proofs.YtpinkbodbedajaaGreatDoor

namespace Go.Proofs.YtpinkbodbedajaaGreatDoor
open Go.RowKit

theorem hops_take {net : List Ofc} (h : netOk net = true) {i : Nat} (hi : i < net.length) (xs : List Ltr) (k : Nat) (hx : xs.length ≤ 60) : 0 ≤ hops net i (xs.take k) ∧ hops net i (xs.take k) ≤ 480 := by
  have h1 := hops_le h hi (xs.take k)
  have h2 := (netOk_iff.1 h).1.2
  have h3 : ((xs.take k).length : Int) ≤ 60 := by rw [List.length_take]; omega
  refine ⟨h1.1, Int.le_trans h1.2 ?_⟩
  have h4 : ((xs.take k).length : Int) * net.length ≤ 60 * 8 := Int.mul_le_mul h3 (by omega) (by omega) (by omega)
  omega
theorem tcI_no {net : List Ofc} {s : ByteArray} {xs : List Ltr} (h : tcOk net s xs = false) : tcI net s xs = -1 := by unfold tcI; rw [h]; rfl



end Go.Proofs.YtpinkbodbedajaaGreatDoor

namespace Go.Proofs.YtpinkbodbedajaaGreatDoor
open Go.RowKit

theorem take_any_succ {α : Type} {p : α → Bool} (xs : List α) (m : Nat) (h : m < xs.length) : (xs.take (m + 1)).any p = ((xs.take m).any p || p xs[m]) := by
  rw [List.take_succ_eq_append_getElem h, List.any_append]; simp
theorem any_at {α : Type} {p : α → Bool} (xs : List α) (m : Nat) (h : m < xs.length) (hp : p xs[m] = true) : xs.any p = true := List.any_eq_true.2 ⟨_, List.getElem_mem h, hp⟩

set_option maxHeartbeats 800000 in
theorem impl_longerRule (v : Value) (rs : List Fwd) (p : ByteArray) (w : World) (hv : rd w w.heap.size v rs) (hp : p.size ≤ maxLen) :
    Calls Tryz.prog 157 #[v, .string p] w fun e w' => e = .returned (.bool (rs.any (longR p))) ∧ Below w.heap.size w w' := by
  obtain ⟨A, n, cp, rfl, hn, hc, hm, hr⟩ := hv
  subst hn
  unfold maxLen at hm
  have hpz := hp
  unfold maxLen at hpz
  have HR := Lib.hid hr; clear hr
  have l0 := Below.refl w.heap.size w
  go_enter Tryz.func157, Tryz.ntmps157
  go_wp2
  go_loopw [9] (fun i wr => ∃ k : Nat, k ≤ rs.length ∧ i = .int .i64 k ∧ Below w.heap.size w wr ∧ Hid ((rs.take k).any (longR p) = false)) (fun i _ => rs.length - (intOf i).toNat)
  case atStart => exact ⟨0, Nat.zero_le _, rfl, l0, rfl⟩
  case round =>
    obtain ⟨k, hk, rfl, lr, HG⟩ := hrel
    obtain ⟨w1, rfl⟩ : ∃ w1 : World, w1 = wr := ⟨_, rfl⟩
    clear l0
    by_cases hlt : k < rs.length
    · obtain ⟨b, o, rfl, hb, ⟨ok1, ok2⟩, y1, y2⟩ := HR.out.fwdU k hlt
      have HS := Lib.hid (take_any_succ (p := longR p) rs k hlt)
      have HA := Lib.hid (any_at (p := longR p) rs k hlt)
      generalize rs[k] = x at *
      have HLR : Hid (longR p x = (decide (p.size < x.src.size) && pre x.src p)) := rfl
      have ok1z := ok1
      unfold maxLen at ok1
      have hki : (k : Int) < (rs.length : Int) := by omega
      obtain ⟨wo, hwo⟩ : ∃ wo : World, wo = w1.alloc (Obj.cells #[.string x.src, .string x.dst] 174) := ⟨_, rfl⟩
      have lo : Below w.heap.size w wo := later_trans lr (box_later hwo).1
      have z0 := box_cells hwo 0 (.string x.src) rfl
      have z1 := box_cells hwo 1 (.string x.dst) rfl
      have lb := Below.refl wo.heap.size wo
      have HWO := Lib.hid hwo; clear hwo
      by_cases hlen : p.size < x.src.size
      · have hlen' : (p.size : Int) < (x.src.size : Int) := by omega
        go_wp2_with fail
        rw [← HWO.out]
        refine (strings_HasPrefix x.src p _ ok1z hp).mono ?_
        rintro e w2 ⟨rfl, rfl⟩
        cases hpr : pre x.src p
        · have HP : Hid (longR p x = false) := by show _ = _; rw [HLR.out, hpr]; simp
          clear hpr
          go_wp2_with fail
          go_roundw
          case rel => exact ⟨k + 1, by omega, by go_num, lo, by show _ = _; rw [HS.out, HG.out, HP.out]; rfl⟩
          case measure => simp [intOf]; omega
        · have HP : Hid (longR p x = true) := by show _ = _; rw [HLR.out, hpr, decide_eq_true hlen]; rfl
          clear hpr
          go_wp2_with fail
          go_ret
          exact ⟨ret_bool (HA.out HP.out).symm, lo⟩
      · have hlen' : ¬ (p.size : Int) < (x.src.size : Int) := by omega
        have HP : Hid (longR p x = false) := by show _ = _; rw [HLR.out, decide_eq_false hlen]; rfl
        go_wp2_with fail
        rw [← HWO.out]
        try go_wp2
        go_roundw
        case rel => exact ⟨k + 1, by omega, by go_num, lo, by show _ = _; rw [HS.out, HG.out, HP.out]; rfl⟩
        case measure => simp [intOf]; omega
    · have HE : Hid (rs.any (longR p) = false) := by have := HG.out; rw [List.take_of_length_le (by omega)] at this; exact this
      go_wp2
      go_ret
      exact ⟨ret_bool HE.out.symm, lr⟩


theorem impl_firstWith (p : ByteArray) (w : World) (hp : p.size ≤ 7) :
    Calls Tryz.prog 158 #[.string p] w fun e w' => e = .returned (.string (firstW p)) ∧ w = w' := by
  have hp' : (p.size : Int) ≤ 7 := by omega
  have hs : (ByteArray.mk #[48, 48, 48, 48, 48, 48, 48]).size = 7 := rfl
  go_enter Tryz.func158, Tryz.ntmps158
  go_wp2
  go_ret
  exact ⟨ret_str rfl, rfl⟩

def fbPost (T : TypeId) (L : List ByteArray) (w : World) (e : Ending) (w' : World) : Prop := ∃ v', e = .returned v' ∧ own T w.heap.size w' v' L ∧ Below w.heap.size w w'
theorem ten_pow {f : Nat} (h : f ≤ 7) : 10 ^ f ≤ 10000000 := by
  have := Nat.pow_le_pow_right (n := 10) (by omega) h
  exact this

set_option maxRecDepth 100000 in
set_option maxHeartbeats 3200000 in
theorem impl_faultyBelow (net : List Ofc) (s : Nat) (hk : netOk net = true) (hs : s < net.length) : ∀ (f : Nat) (p : ByteArray) (v : Value) (w : World), p.size + f = 8 → 1 ≤ f → rd w w.heap.size v net →
    Calls Tryz.prog 90 #[v, .int .i64 s, .string p] w (fbPost 9 (faultsN net s f p) w) := by
  intro f
  induction f with
  | zero => intro p v w _ h; omega
  | succ f ih =>
  intro p v w hpf _ hv
  have HIH := Lib.hid ih; clear ih
  obtain ⟨A, n, cp, rfl, hn, hc, hm, hr⟩ := hv
  have hv0 := Lib.hid (show rd w w.heap.size (.slice A n cp) net from ⟨A, n, cp, rfl, hn, hc, hm, hr⟩)
  subst hn
  unfold maxLen at hm
  have HR := Lib.hid hr; clear hr
  have l0 := Below.refl w.heap.size w
  have hn8 := (netOk_iff.1 hk).1
  have HK := Lib.hid hk; clear hk
  have hp7 : p.size ≤ 7 := by omega
  have hpm : p.size ≤ maxLen := by unfold maxLen; omega
  obtain ⟨i0, hi, hz0, hz1, hz2⟩ := info_parts Tryz.infoStr
  go_enter Tryz.func90, Tryz.ntmps90
  go_wp2
  go_loopw [7, 19] (fun t i wr => ∃ k : Nat, k ≤ net.length ∧ i = .int .i64 k ∧ t = .bool ((net.take k).any (longO p)) ∧ Below w.heap.size w wr) (fun _ i _ => net.length - (intOf i).toNat)
  case atStart => exact ⟨0, Nat.zero_le _, rfl, rfl, l0⟩
  case round =>
    obtain ⟨k, hk, rfl, rfl, lr⟩ := hrel
    obtain ⟨w1, rfl⟩ : ∃ w1 : World, w1 = wr := ⟨_, rfl⟩
    clear l0
    by_cases hlt : k < net.length
    · obtain ⟨b, o, A2, k2, rfl, hb, hok, hu, c1, c2⟩ := HR.out.ofcU k hlt
      have HS := Lib.hid (take_any_succ (p := longO p) net k hlt)
      generalize net[k] = x at *
      have hki : (k : Int) < (net.length : Int) := by omega
      obtain ⟨wo, hwo⟩ : ∃ wo : World, wo = w1.alloc (Obj.cells #[.string x.name, .slice A2 x.rules.length k2] 102) := ⟨_, rfl⟩
      have lo : Below w.heap.size w wo := later_trans lr (box_later hwo).1
      have y0 := box_cells hwo 0 (.string x.name) rfl
      have y1 := box_cells hwo 1 (.slice A2 x.rules.length k2) rfl
      have lb := Below.refl wo.heap.size wo
      have HU := Lib.hid (hu.on lo)
      have HWO := Lib.hid hwo; clear hwo hu
      have HLO : Hid (longO p x = x.rules.any (longR p)) := rfl
      cases hq : (net.take k).any (longO p)
      · have HQ := Lib.hid hq; clear hq
        go_wp2_with fail
        rw [← HWO.out]
        refine (impl_longerRule _ x.rules p _ (HU.out.on lb) hpm).mono ?_
        rw [← HLO.out]
        rintro e w2 ⟨rfl, b2⟩
        have l2 := later_trans lo b2
        obtain ⟨r, hr⟩ : ∃ r, longO p x = r := ⟨_, rfl⟩
        rw [hr]
        have HRR := Lib.hid hr; clear hr
        go_wp2_with fail
        go_roundw
        case rel => exact ⟨k + 1, by omega, by go_num, by rw [HS.out, HQ.out, HRR.out] <;> rfl, l2⟩
        case measure => simp [intOf]; omega
      · have HQ := Lib.hid hq; clear hq
        go_wp2_with fail
        rw [← HWO.out]
        go_roundw
        case rel => exact ⟨k + 1, by omega, by go_num, by rw [HS.out, HQ.out] <;> rfl, lo⟩
        case measure => simp [intOf]; omega
    · have HE : Hid ((net.take k).any (longO p) = longN net p) := by show _ = _; rw [List.take_of_length_le (by omega)]; rfl
      rw [HE.out]
      cases hln : longN net p
      · have HLN := Lib.hid hln; clear hln
        go_wp2_with fail
        refine (impl_firstWith p _ hp7).mono ?_
        rintro e w2 ⟨rfl, rfl⟩
        have HFZ : Hid ((firstW p).size ≤ maxLen) := by
          show _ ≤ _
          unfold firstW maxLen
          rw [ByteArray.size_append, ByteArray.size_extract]
          omega
        go_wp2_with fail
        refine (impl_routeOf _ net s (firstW p) _ (hv0.out.on lr) HK.out hs HFZ.out).mono ?_
        obtain ⟨r, hr⟩ : ∃ r, (route net (firstW p) s).2 = r := ⟨_, rfl⟩
        rw [hr]
        have HRR := Lib.hid hr; clear hr
        rintro e w3 ⟨v3, rfl, o3, b3⟩
        have l3 := later_trans lr b3
        clear o3 b3
        by_cases hr0 : r = 0
        · have HF : Hid (faultsN net s (f + 1) p = []) := faults_home HLN.out (by rw [HRR.out]; exact hr0)
          have hrb : (r == 0) = true := by simp [hr0]
          clear hr0
          go_wp2_with fail
          go_ret
          exact ⟨_, rfl, by rw [HF.out]; exact own.nil_ _ _ _, l3⟩
        · have HF : Hid (faultsN net s (f + 1) p = [p]) := faults_bad HLN.out (by rw [HRR.out]; exact hr0)
          have hrb : (r == 0) = false := by simp [hr0]
          have HO : Hid (own (α := ByteArray) 9 w.heap.size (w3.alloc (Obj.cells #[.string p] 9)) (.slice (some ⟨w3.heap.size, 0, none⟩) 1 1) [p]) := own.made1 (α := ByteArray) w3 9 [.string p] p ⟨hpm, rfl⟩ l3.size
          clear hr0
          go_wp2_with fail
          go_ret
          exact ⟨_, rfl, by rw [HF.out]; exact HO.out, later_alloc l3 _⟩
      · have hp6 := long_size HK.out hln
        have HLN := Lib.hid hln; clear hln
        obtain ⟨g, rfl⟩ : ∃ g, f = g + 1 := ⟨f - 1, by omega⟩
        have hg7 : g + 1 ≤ 7 := by omega
        have HTP := Lib.hid (ten_pow hg7)
        have hl0 := own.nil_ (α := ByteArray) w1 9 w.heap.size
        have HL0 := Lib.hid hl0; clear hl0
        go_wp2_with fail
        go_loopw [12, 13, 45] (fun t u i wr => ∃ (k m : Nat), k ≤ 10 ∧ i = .int .i64 k ∧ u = .int .i64 m ∧ m ≤ 10 ∧ Hid (m = cntN net s (g + 1) p k) ∧ Below w.heap.size w wr ∧ own 9 w.heap.size wr t (catN net s (g + 1) p k)) (fun _ _ i _ => 10 - (intOf i).toNat)
        case atStart => exact ⟨0, 0, Nat.zero_le _, rfl, rfl, Nat.zero_le _, rfl, lr, HL0.out⟩
        case round =>
          obtain ⟨k, m, hk, rfl, rfl, hm10, HM, lq, ho⟩ := hrel
          obtain ⟨w4, rfl⟩ : ∃ w4 : World, w4 = wr := ⟨_, rfl⟩
          clear lr
          have HCL := Lib.hid (catN_len net s (g + 1) p k)
          obtain ⟨zs, hzs⟩ : ∃ zs, catN net s (g + 1) p k = zs := ⟨_, rfl⟩
          rw [hzs] at ho HCL
          have HZ := Lib.hid hzs; clear hzs
          have HO := Lib.hid ho
          by_cases hlt : k < 10
          · have HST := Lib.hid (catN_succ net s (g + 1) p k)
            have HCN := Lib.hid (cntN_succ net s (g + 1) p k)
            have HCB := Lib.hid (cntN_all net s (g + 1) p (k + 1)).1
            have hki : (k : Int) < 10 := by omega
            have hdsz : (dgB k).size = 1 := rfl
            have HFL := Lib.hid (faults_len net s (g + 1) (dgt p k))
            have HDZ : Hid ((dgt p k).size + (g + 1) = 8) := by show _ = _; rw [dgt_size]; omega
            obtain ⟨d, hd⟩ : ∃ d, dgt p k = d := ⟨_, rfl⟩
            have HDP : Hid (p ++ dgB k = d) := hd
            rw [hd] at HST HCN HFL HDZ
            clear hd
            obtain ⟨ys, hys⟩ : ∃ ys, faultsN net s (g + 1) d = ys := ⟨_, rfl⟩
            rw [hys] at HST HCN HFL
            have HYS := Lib.hid hys; clear hys
            rw [HZ.out] at HST
            obtain ⟨A3, n3, c3, rfl, hn3, _, _, _⟩ := ho.rd
            subst hn3
            clear ho
            go_wp2_with fail
            refine (impl_padded1 k _ hlt).mono ?_
            rintro e w5 ⟨rfl, b5⟩
            have l5 := later_trans lq b5
            have HO5 := Lib.hid (HO.out.below b5)
            clear b5 lq
            go_wp2_with fail
            rw [HDP.out]
            refine (HIH.out d _ _ HDZ.out (by omega) (hv0.out.on l5)).mono ?_
            rw [HYS.out]
            rintro e w6 ⟨v6, rfl, o6, b6⟩
            have l6 := later_trans l5 b6
            have HO6 := Lib.hid (HO5.out.below b6)
            obtain ⟨A6, n6, c6, rfl, hn6, _, _, hra⟩ := o6.rd
            subst hn6
            have HY6 := Lib.hid o6.rd
            clear o6 b6 l5
            have hs6 := l6.size
            have hzl : zs.length + ys.length ≤ 200000000 := by
              have h1 := HCL.out; have h2 := HFL.out; have h3 := HTP.out
              have h4 : k * 10 ^ (g + 1) ≤ 10 * 10000000 := Nat.mul_le_mul (by omega) h3
              omega
            have happ : ∀ q : Bool, q = oneIs d ys → True := fun _ _ => trivial
            clear happ
            by_cases hy1 : ys.length = 1
            · have HON := Lib.hid (oneIs_one (p := d) hy1)
              obtain ⟨b', o', rfl, hb', hyz, d1⟩ := hra.strU 0 (by omega)
              clear hyz
              simp only [Nat.add_zero] at d1
              obtain ⟨y, hy⟩ : ∃ y, ys[0]'(by omega) = y := ⟨_, rfl⟩
              rw [hy] at d1 HON
              have hy1b : ((ys.length : Int) == 1) = true := by rw [hy1]; rfl
              have lw6 := Below.refl w6.heap.size w6
              clear hra hy
              have hpos : (0 : Int) < (ys.length : Int) := by omega
              have HY1 := Lib.hid hy1; clear hy1
              cases hse : sEq y d
              · have HSE : Hid (oneIs d ys = false) := by show _ = _; rw [HON.out, hse]
                unfold sEq at hse
                go_wp2_with (at_builtin; refine wpList_appendAll (α := ByteArray) rfl (.tmp 68) (.tmp 69) 23 rfl w.heap.size 9 i0 _ 16 Tryz.underlying23 hi hz0 hz1 hz2 rfl (by decide) (.slice A3 zs.length c3) zs rfl HO6.out (.slice (some ⟨b', o', none⟩) ys.length c6) ys rfl w6.heap.size HY6.out (by unfold maxLen; omega) (by omega) hs6 ?_; intro v7 w7 ho7 hg7 _)
                have l7 : Below w.heap.size w w7 := l6.grown hg7 hs6 fun q hq => (HO6.out.blk q hq).1
                have HO7 := Lib.hid ho7; clear ho7
                go_wp2
                go_roundw
                case rel => exact ⟨k + 1, m, by omega, by go_num, by go_num, hm10, by show _ = _; rw [HCN.out, HSE.out, HM.out]; rfl, l7, by rw [HST.out]; exact HO7.out⟩
                case measure => simp [intOf]; omega
              · have HSE : Hid (oneIs d ys = true) := by show _ = _; rw [HON.out, hse]
                unfold sEq at hse
                go_wp2_with (at_builtin; refine wpList_appendAll (α := ByteArray) rfl (.tmp 68) (.tmp 69) 23 rfl w.heap.size 9 i0 _ 16 Tryz.underlying23 hi hz0 hz1 hz2 rfl (by decide) (.slice A3 zs.length c3) zs rfl HO6.out (.slice (some ⟨b', o', none⟩) ys.length c6) ys rfl w6.heap.size HY6.out (by unfold maxLen; omega) (by omega) hs6 ?_; intro v7 w7 ho7 hg7 _)
                have l7 : Below w.heap.size w w7 := l6.grown hg7 hs6 fun q hq => (HO6.out.blk q hq).1
                have HO7 := Lib.hid ho7; clear ho7
                go_wp2
                go_roundw
                case rel => exact ⟨k + 1, m + 1, by omega, by go_num, by go_num, by have h1 := HCB.out; rw [HCN.out, HSE.out, ← HM.out, if_pos rfl] at h1; omega, by show _ = _; rw [HCN.out, HSE.out, HM.out]; rfl, l7, by rw [HST.out]; exact HO7.out⟩
                case measure => simp [intOf]; omega
            · have hy1b : ((ys.length : Int) == 1) = false := by simp; omega
              have HSE : Hid (oneIs d ys = false) := oneIs_len hy1
              clear hra hy1
              go_wp2_with (at_builtin; refine wpList_appendAll (α := ByteArray) rfl (.tmp 68) (.tmp 69) 23 rfl w.heap.size 9 i0 _ 16 Tryz.underlying23 hi hz0 hz1 hz2 rfl (by decide) (.slice A3 zs.length c3) zs rfl HO6.out (.slice A6 ys.length c6) ys rfl w6.heap.size HY6.out (by unfold maxLen; omega) (by omega) hs6 ?_; intro v7 w7 ho7 hg7 _)
              have l7 : Below w.heap.size w w7 := l6.grown hg7 hs6 fun q hq => (HO6.out.blk q hq).1
              have HO7 := Lib.hid ho7; clear ho7
              go_wp2
              go_roundw
              case rel => exact ⟨k + 1, m, by omega, by go_num, by go_num, hm10, by show _ = _; rw [HCN.out, HSE.out, HM.out]; rfl, l7, by rw [HST.out]; exact HO7.out⟩
              case measure => simp [intOf]; omega
          · obtain rfl : k = 10 := by omega
            have HAL := Lib.hid (cntN_all net s (g + 1) p 10).2
            rw [← HM.out] at HAL
            have HFF := Lib.hid (faults_long (net := net) (i := s) (f := g + 1) HLN.out)
            rw [HZ.out] at HFF
            by_cases hm0 : m = 10
            · have hmb : ((m : Int) == 10) = true := by rw [hm0]; rfl
              have HF : Hid (faultsN net s (g + 1 + 1) p = [p]) := by show _ = _; rw [HFF.out, if_pos (HAL.out.2 hm0)]
              have HO : Hid (own (α := ByteArray) 9 w.heap.size (w4.alloc (Obj.cells #[.string p] 9)) (.slice (some ⟨w4.heap.size, 0, none⟩) 1 1) [p]) := own.made1 (α := ByteArray) w4 9 [.string p] p ⟨hpm, rfl⟩ lq.size
              clear hm0 ho
              go_wp2_with fail
              go_ret
              exact ⟨_, rfl, by rw [HF.out]; exact HO.out, later_alloc lq _⟩
            · have hmb : ((m : Int) == 10) = false := by simp; omega
              have HF : Hid (faultsN net s (g + 1 + 1) p = zs) := by show _ = _; rw [HFF.out, if_neg fun h => hm0 (HAL.out.1 h)]
              clear hm0 ho
              go_wp2_with fail
              go_ret
              exact ⟨_, rfl, by rw [HF.out]; exact HO.out, lq⟩

end Go.Proofs.YtpinkbodbedajaaGreatDoor
