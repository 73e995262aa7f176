/- NP NQ -/
import Derived.Test.YtmangjjaijhcnaaQ17
import Derived.Test.YtmangjjaijhcnaaQ10
namespace Go.Proofs.Ytmangjjaijhcnaa
open Go.RowKit

theorem pre_short {c p : ByteArray} (h : ¬ p.size ≤ c.size) : pre c p = false := by unfold pre; rw [decide_eq_false h]; rfl
theorem pre_long {c p : ByteArray} (h : p.size ≤ c.size) {b : Bool} (hb : sEq (c.extract 0 p.size) p = b) : pre c p = b := by unfold pre; rw [decide_eq_true h, hb]; rfl

theorem lite_HasPrefix (c p : ByteArray) (w : World) (hc : c.size ≤ maxLen) (hp : p.size ≤ maxLen) :
    Calls Try.prog 183 #[.string c, .string p] w fun e w' => e = .returned (.bool (pre c p)) ∧ w = w' := by
  unfold maxLen at hc hp
  go_enter Try.func183, Try.ntmps183
  by_cases h : p.size ≤ c.size
  · have h' : (p.size : Int) ≤ (c.size : Int) := by omega
    cases hb : sEq (c.extract 0 p.size) p
    · have HB := Lib.hid (pre_long h hb)
      unfold sEq at hb
      go_wp2
      go_ret
      exact ⟨ret_bool HB.out.symm, rfl⟩
    · have HB := Lib.hid (pre_long h hb)
      unfold sEq at hb
      go_wp2
      go_ret
      exact ⟨ret_bool HB.out.symm, rfl⟩
  · have h' : ¬ (p.size : Int) ≤ (c.size : Int) := by omega
    have HB := Lib.hid (pre_short h)
    go_wp2
    go_ret
    exact ⟨ret_bool HB.out.symm, rfl⟩
theorem strings_HasPrefix (c p : ByteArray) (w : World) (hc : c.size ≤ maxLen) (hp : p.size ≤ maxLen) :
    Calls Try.prog 172 #[.string c, .string p] w fun e w' => e = .returned (.bool (pre c p)) ∧ w = w' := by
  go_enter Try.func172, Try.ntmps172
  go_wp2_with fail
  refine (lite_HasPrefix c p _ hc hp).mono ?_
  rintro e w1 ⟨rfl, rfl⟩
  obtain ⟨r, HR⟩ : ∃ r, Hid (pre c p = r) := ⟨_, rfl⟩
  rw [HR.out]
  go_wp2_with fail
  go_ret
  exact ⟨ret_bool HR.out.symm, rfl⟩
theorem spec_l2Begins (c p : ByteArray) (w : World) (hc : c.size ≤ maxLen) (hp : p.size ≤ maxLen) :
    Calls Try.prog 182 #[.string c, .string p] w fun e w' => e = .returned (.bool (pre c p)) ∧ w = w' := by
  unfold maxLen at hc hp
  go_enter Try.func182, Try.ntmps182
  by_cases h : p.size ≤ c.size
  · have h' : (p.size : Int) ≤ (c.size : Int) := by omega
    cases hb : sEq (c.extract 0 p.size) p
    · have HB := Lib.hid (pre_long h hb)
      unfold sEq at hb
      go_wp2
      go_ret
      exact ⟨ret_bool HB.out.symm, rfl⟩
    · have HB := Lib.hid (pre_long h hb)
      unfold sEq at hb
      go_wp2
      go_ret
      exact ⟨ret_bool HB.out.symm, rfl⟩
  · have h' : ¬ (p.size : Int) ≤ (c.size : Int) := by omega
    have HB := Lib.hid (pre_short h)
    go_wp2
    go_ret
    exact ⟨ret_bool HB.out.symm, rfl⟩

set_option maxRecDepth 100000 in
set_option maxHeartbeats 1600000 in
theorem impl_longestRule (v : Value) (rs : List Fwd) (c : ByteArray) (w : World) (hv : rd w w.heap.size v rs) (hcz : c.size ≤ maxLen) :
    Calls Try.prog 167 #[v, .string c, .int .i64 (-1)] w fun e w' => e = .returned (.int .i64 (bestI rs c)) ∧ Below w.heap.size w w' := by
  obtain ⟨A, n, cp, rfl, hn, hc, hm, hr⟩ := hv
  subst hn
  unfold maxLen at hm
  have HR := Lib.hid hr; clear hr
  have l0 := Below.refl w.heap.size w
  go_enter Try.func167, Try.ntmps167
  go_wp2
  go_loopw [7, 12] (fun t i wr => ∃ k : Nat, k ≤ rs.length ∧ i = .int .i64 k ∧ t = .int .i64 (bestN rs c k) ∧ Below w.heap.size w wr) (fun _ i _ => rs.length - (intOf i).toNat)
  case atStart => exact ⟨0, Nat.zero_le _, rfl, rfl, l0⟩
  case round =>
    obtain ⟨k, hk, rfl, rfl, lr⟩ := hrel
    obtain ⟨w1, rfl⟩ : ∃ w1 : World, w1 = wr := ⟨_, rfl⟩
    clear l0
    have hbr := bestN_range rs c k
    obtain ⟨q, hq⟩ : ∃ q, bestN rs c k = q := ⟨_, rfl⟩
    rw [hq] at hbr
    have HQ := Lib.hid hq
    rw [HQ.out]
    clear hq
    by_cases hlt : k < rs.length
    · obtain ⟨b, o, rfl, hb, ⟨ok1, ok2⟩, y1, y2⟩ := HR.out.fwdU k hlt
      have HM := Lib.hid (fun h => bestN_miss (c := c) hlt HQ.out h)
      have HT := Lib.hid (fun h h' => bestN_take (c := c) hlt h h')
      have HKP := Lib.hid (fun (u : Nat) (hu : u < rs.length) (e : q = u) (h : ¬ rs[u].src.size < rs[k].src.size) => bestN_keep (c := c) hlt hu (HQ.out.trans e) h)
      generalize hxe : rs[k] = x at *
      have HXE := Lib.hid hxe; clear hxe
      have ok1z := ok1
      unfold maxLen at ok1
      obtain ⟨wo, hwo⟩ : ∃ wo : World, wo = w1.alloc (Obj.cells #[.string x.src, .string x.dst] 67) := ⟨_, rfl⟩
      have lo : Below w.heap.size w wo := later_trans lr (box_later hwo).1
      have z0 := box_cells hwo 0 (.string x.src) rfl
      have z1 := box_cells hwo 1 (.string x.dst) rfl
      have lb := Below.refl wo.heap.size wo
      have HWO := Lib.hid hwo; clear hwo
      have hkn : ((k : Int) == -1) = false := by simp
      go_wp2_with fail
      rw [← HWO.out]
      refine (strings_HasPrefix c x.src _ hcz ok1z).mono ?_
      rintro e w2 ⟨rfl, rfl⟩
      cases hp : pre c x.src
      · have HP := Lib.hid hp; clear hp
        go_wp2_with fail
        go_roundw
        case rel => exact ⟨k + 1, by omega, by go_num, by rw [HM.out HP.out], lo⟩
        case measure => simp [intOf]; omega
      have HP := Lib.hid hp; clear hp
      by_cases hneg : q < 0
      · have hnegb : decide (q < 0) = true := decide_eq_true hneg
        have HNG := Lib.hid hneg
        go_wp2
        go_quiet (fail)
        go_wp2
        go_roundw
        case rel => exact ⟨k + 1, by omega, by go_num, by rw [HT.out HP.out (.inl (by rw [HQ.out]; exact HNG.out))], below_drewN lo _⟩
        case measure => simp [intOf]; omega
      obtain ⟨u, hu⟩ := Int.eq_ofNat_of_zero_le (show 0 ≤ q by omega)
      have hul : u < rs.length := by omega
      obtain ⟨b', o', hA, _, ⟨ok1', _⟩, d1, d2⟩ := HR.out.fwdU u hul
      injection hA with hA
      injection hA with hA1 hA2
      subst hA1 hA2
      subst hu
      have HT2 : Hid (rs[u].src.size < x.src.size → bestN rs c (k + 1) = k) := fun h => HT.out HP.out (.inr ⟨u, hul, HQ.out, h⟩)
      have HK2 := Lib.hid (HKP.out u hul rfl)
      clear HT HKP HM
      generalize rs[u] = y at *
      unfold maxLen at ok1'
      have hui : (u : Int) < (rs.length : Int) := by omega
      have hnegb : decide ((u : Int) < 0) = false := decide_eq_false (by omega)
      by_cases hs : y.src.size < x.src.size
      · have hs' : (y.src.size : Int) < (x.src.size : Int) := by omega
        have HS := Lib.hid hs
        go_wp2
        go_quiet (fail)
        go_wp2
        go_roundw
        case rel => exact ⟨k + 1, by omega, by go_num, by rw [HT2.out HS.out], below_drewN lo _⟩
        case measure => simp [intOf]; omega
      · have hs' : ¬ (y.src.size : Int) < (x.src.size : Int) := by omega
        have HS := Lib.hid hs
        go_wp2
        go_quiet (fail)
        go_wp2
        go_roundw
        case rel => exact ⟨k + 1, by omega, by go_num, by rw [HK2.out HS.out], below_drewN lo _⟩
        case measure => simp [intOf]; omega
    · have HE : Hid (bestI rs c = q) := by show _ = _; rw [← HQ.out, show k = rs.length by omega]; rfl
      go_wp2_with fail
      go_ret
      exact ⟨ret_int HE.out.symm, lr⟩

theorem beginsS_is {c p : ByteArray} {r : Bool} {w : World} (hc : c.size ≤ maxLen) (hp : p.size ≤ maxLen) (h : pre c p = r) : Calls Try.prog 182 #[.string c, .string p] w fun e w' => e = .returned (.bool r) ∧ w = w' := by
  rw [← h]; exact spec_l2Begins c p w hc hp
set_option maxRecDepth 100000 in
set_option maxHeartbeats 1600000 in
theorem spec_l6Best (v : Value) (rs : List Fwd) (c : ByteArray) (w : World) (hv : rd w w.heap.size v rs) (hcz : c.size ≤ maxLen) :
    Calls Try.prog 163 #[v, .string c] w fun e w' => e = .returned (.int .i64 (bestI rs c)) ∧ Below w.heap.size w w' := by
  obtain ⟨A, n, cp, rfl, hn, hc, hm, hr⟩ := hv
  subst hn
  unfold maxLen at hm
  have HR := Lib.hid hr; clear hr
  have l0 := Below.refl w.heap.size w
  go_enter Try.func163, Try.ntmps163
  go_wp2
  go_loopw [5, 6] (fun t i wr => ∃ k : Nat, k ≤ rs.length ∧ i = .int .i64 k ∧ t = .int .i64 (bestN rs c k) ∧ Below w.heap.size w wr) (fun _ i _ => rs.length - (intOf i).toNat)
  case atStart => exact ⟨0, Nat.zero_le _, rfl, rfl, l0⟩
  case round =>
    obtain ⟨k, hk, rfl, rfl, lr⟩ := hrel
    obtain ⟨w1, rfl⟩ : ∃ w1 : World, w1 = wr := ⟨_, rfl⟩
    clear l0
    have hbr := bestN_range rs c k
    obtain ⟨q, hq⟩ : ∃ q, bestN rs c k = q := ⟨_, rfl⟩
    rw [hq] at hbr
    have HQ := Lib.hid hq
    rw [HQ.out]
    clear hq
    by_cases hlt : k < rs.length
    · obtain ⟨b, o, rfl, hb, ⟨ok1, ok2⟩, y1, y2⟩ := HR.out.fwdU k hlt
      have HM := Lib.hid (fun h => bestN_miss (c := c) hlt HQ.out h)
      have HT := Lib.hid (fun h h' => bestN_take (c := c) hlt h h')
      have HKP := Lib.hid (fun (u : Nat) (hu : u < rs.length) (e : q = u) (h : ¬ rs[u].src.size < rs[k].src.size) => bestN_keep (c := c) hlt hu (HQ.out.trans e) h)
      generalize hxe : rs[k] = x at *
      have HXE := Lib.hid hxe; clear hxe
      have ok1z := ok1
      unfold maxLen at ok1
      have hki : (k : Int) < (rs.length : Int) := by omega
      cases hp : pre c x.src
      · have HP := Lib.hid hp; clear hp
        have CB := Lib.hid (fun w => beginsS_is (w := w) hcz ok1z HP.out)
        go_wp2
        go_quiet (first | (go_at_call 182; refine quiet_c (CB.out _)))
        go_wp2
        go_roundw
        case rel => exact ⟨k + 1, by omega, by go_num, by rw [HM.out HP.out], below_drewN lr _⟩
        case measure => simp [intOf]; omega
      have HP := Lib.hid hp; clear hp
      have CB := Lib.hid (fun w => beginsS_is (w := w) hcz ok1z HP.out)
      by_cases hneg : q < 0
      · have hnegb : decide (q < 0) = true := decide_eq_true hneg
        have HNG := Lib.hid hneg
        go_wp2
        go_quiet (first | (go_at_call 182; refine quiet_c (CB.out _)))
        go_wp2
        go_roundw
        case rel => exact ⟨k + 1, by omega, by go_num, by rw [HT.out HP.out (.inl (by rw [HQ.out]; exact HNG.out))], below_drewN lr _⟩
        case measure => simp [intOf]; omega
      obtain ⟨u, hu⟩ := Int.eq_ofNat_of_zero_le (show 0 ≤ q by omega)
      have hul : u < rs.length := by omega
      obtain ⟨b', o', hA, _, ⟨ok1', _⟩, d1, d2⟩ := HR.out.fwdU u hul
      injection hA with hA
      injection hA with hA1 hA2
      subst hA1 hA2
      subst hu
      have HT2 : Hid (rs[u].src.size < x.src.size → bestN rs c (k + 1) = k) := fun h => HT.out HP.out (.inr ⟨u, hul, HQ.out, h⟩)
      have HK2 := Lib.hid (HKP.out u hul rfl)
      clear HT HKP HM
      generalize rs[u] = y at *
      unfold maxLen at ok1'
      have hui : (u : Int) < (rs.length : Int) := by omega
      have hnegb : decide ((u : Int) < 0) = false := decide_eq_false (by omega)
      by_cases hs : y.src.size < x.src.size
      · have hs' : (y.src.size : Int) < (x.src.size : Int) := by omega
        have HS := Lib.hid hs
        go_wp2
        go_quiet (first | (go_at_call 182; refine quiet_c (CB.out _)))
        go_wp2
        go_roundw
        case rel => exact ⟨k + 1, by omega, by go_num, by rw [HT2.out HS.out], below_drewN lr _⟩
        case measure => simp [intOf]; omega
      · have hs' : ¬ (y.src.size : Int) < (x.src.size : Int) := by omega
        have HS := Lib.hid hs
        go_wp2
        go_quiet (first | (go_at_call 182; refine quiet_c (CB.out _)))
        go_wp2
        go_roundw
        case rel => exact ⟨k + 1, by omega, by go_num, by rw [HK2.out HS.out], below_drewN lr _⟩
        case measure => simp [intOf]; omega
    · have HE : Hid (bestI rs c = q) := by show _ = _; rw [← HQ.out, show k = rs.length by omega]; rfl
      go_wp2_with fail
      go_ret
      exact ⟨ret_int HE.out.symm, lr⟩

theorem impl_nextOf (v : Value) (rs : List Fwd) (c : ByteArray) (w : World) (hv : rd w w.heap.size v rs) (hcz : c.size ≤ maxLen) :
    Calls Try.prog 119 #[v, .string c] w fun e w' => e = .returned (.tuple #[.string (nextS rs c), .bool (decide (0 ≤ bestI rs c))]) ∧ Below w.heap.size w w' := by
  obtain ⟨A, n, cp, rfl, hn, hc, hm, hr⟩ := hv
  have hv0 := Lib.hid (show rd w w.heap.size (.slice A n cp) rs from ⟨A, n, cp, rfl, hn, hc, hm, hr⟩)
  subst hn
  unfold maxLen at hm
  have HR := Lib.hid hr; clear hr
  have hbr := bestN_range rs c rs.length
  obtain ⟨q, hq⟩ : ∃ q, bestI rs c = q := ⟨_, rfl⟩
  have hq' : bestN rs c rs.length = q := hq
  rw [hq'] at hbr
  have HQ := Lib.hid hq; clear hq hq'
  rw [HQ.out]
  go_enter Try.func119, Try.ntmps119
  go_wp2_with fail
  refine (impl_longestRule _ rs c _ hv0.out hcz).mono ?_
  rw [HQ.out]
  rintro e w1 ⟨rfl, b1⟩
  by_cases hneg : q < 0
  · have HS : Hid (nextS rs c = ⟨#[]⟩) := nextS_none (by rw [HQ.out]; exact hneg)
    have HD : Hid (decide (0 ≤ q) = false) := decide_eq_false (by omega)
    go_wp2_with fail
    go_ret2
    exact ⟨ret_tup (by rw [HS.out, HD.out] <;> rfl), b1⟩
  · obtain ⟨u, hu⟩ := Int.eq_ofNat_of_zero_le (show 0 ≤ q by omega)
    subst hu
    have hul : u < rs.length := by omega
    obtain ⟨b, o, rfl, hb, ⟨ok1, ok2⟩, y1, y2⟩ := HR.out.fwdU u hul
    have HS := Lib.hid (nextS_at HQ.out hul)
    have HD : Hid (decide (0 ≤ (u : Int)) = true) := decide_eq_true (by omega)
    generalize rs[u] = y at *
    have hui : (u : Int) < (rs.length : Int) := by omega
    go_wp2_with fail
    go_ret2
    exact ⟨ret_tup (by rw [HS.out, HD.out] <;> rfl), b1⟩
theorem spec_l6Next (v : Value) (rs : List Fwd) (c : ByteArray) (w : World) (hv : rd w w.heap.size v rs) (hcz : c.size ≤ maxLen) :
    Calls Try.prog 115 #[v, .string c] w fun e w' => e = .returned (.string (nextS rs c)) ∧ Below w.heap.size w w' := by
  obtain ⟨A, n, cp, rfl, hn, hc, hm, hr⟩ := hv
  have hv0 := Lib.hid (show rd w w.heap.size (.slice A n cp) rs from ⟨A, n, cp, rfl, hn, hc, hm, hr⟩)
  subst hn
  unfold maxLen at hm
  have HR := Lib.hid hr; clear hr
  have lr := Below.refl w.heap.size w
  have hbr := bestN_range rs c rs.length
  obtain ⟨q, hq⟩ : ∃ q, bestI rs c = q := ⟨_, rfl⟩
  have hq' : bestN rs c rs.length = q := hq
  rw [hq'] at hbr
  have HQ := Lib.hid hq; clear hq hq'
  go_enter Try.func115, Try.ntmps115
  go_wp2_with fail
  refine (spec_l6Best _ rs c _ hv0.out hcz).mono ?_
  rw [HQ.out]
  rintro e w1 ⟨rfl, b1⟩
  by_cases hneg : q < 0
  · have HS : Hid (nextS rs c = ⟨#[]⟩) := nextS_none (by rw [HQ.out]; exact hneg)
    go_wp2_with fail
    go_ret
    exact ⟨ret_str HS.out.symm, b1⟩
  · obtain ⟨u, hu⟩ := Int.eq_ofNat_of_zero_le (show 0 ≤ q by omega)
    subst hu
    have hul : u < rs.length := by omega
    obtain ⟨b, o, rfl, hb, ⟨ok1, ok2⟩, y1, y2⟩ := HR.out.fwdU u hul
    have HS := Lib.hid (nextS_at HQ.out hul)
    generalize rs[u] = y at *
    have hui : (u : Int) < (rs.length : Int) := by omega
    go_wp2_with fail
    go_ret
    exact ⟨ret_str HS.out.symm, b1⟩

end Go.Proofs.Ytmangjjaijhcnaa

namespace Go.Proofs.Ytmangjjaijhcnaa
open Go.RowKit

/-! ### Paths: how a step is told -/
def ints (p : List Nat) : List Int := p.map fun (n : Nat) => (n : Int)
def nameAt (net : List Ofc) (i : Nat) : ByteArray := ((net[i]?).map Ofc.name).getD ⟨#[]⟩
theorem nameAt_of {net : List Ofc} {i : Nat} (h : i < net.length) : nameAt net i = net[i].name := by unfold nameAt; rw [List.getElem?_eq_getElem h]; rfl
theorem ints_snoc (p : List Nat) (i : Nat) : ints (p ++ [i]) = ints p ++ [(i : Int)] := by simp [ints]
theorem ints_len (p : List Nat) : (ints p).length = p.length := by simp [ints]
theorem ints_mem (p : List Nat) (j : Nat) : decide (0 ≤ fiI (fun y : Int => y == (j : Int)) (ints p)) = decide (j ∈ p) := by
  rw [fiI_ge]
  by_cases h : j ∈ p
  · rw [decide_eq_true h]
    simp only [Bool.not_eq_true', List.all_eq_false]
    exact ⟨(j : Int), List.mem_map.2 ⟨j, h, rfl⟩, by simp⟩
  · rw [decide_eq_false h]
    simp only [Bool.not_eq_false', List.all_eq_true]
    intro y hy
    obtain ⟨n, hn, rfl⟩ := List.mem_map.1 hy
    have : ¬ n = j := fun e => h (e ▸ hn)
    simp; omega
theorem rk_mem {cs : List ByteArray} {c : ByteArray} : 0 ≤ rkI cs c ↔ c ∈ cs := by
  by_cases h : rk cs c < cs.length
  · rw [rkI_pos h]
    have := sEq_iff.1 (rk_at cs c h)
    refine ⟨fun _ => ?_, fun _ => by omega⟩
    rw [← this]
    exact List.getElem_mem _
  · rw [rkI_neg h]
    refine ⟨fun h => by omega, fun hm => ?_⟩
    obtain ⟨k, hk, e⟩ := List.getElem_of_mem hm
    have h1 := rk_le cs c
    have := rk_before cs c k hk (by omega)
    rw [e, sEq_refl] at this
    cases this
theorem names_mem {net : List Ofc} (h : netOk net = true) {p : List Nat} {i : Nat} (hp : ∀ x ∈ p, x < net.length) (hi : i < net.length) : decide (0 ≤ rkI (p.map (nameAt net)) (nameAt net i)) = decide (i ∈ p) := by
  refine decide_eq_decide.2 (rk_mem.trans ⟨fun hm => ?_, fun hm => List.mem_map.2 ⟨i, hm, rfl⟩⟩)
  obtain ⟨j, hj, e⟩ := List.mem_map.1 hm
  rw [nameAt_of (hp j hj), nameAt_of hi] at e
  exact names_inj h (hp j hj) hi e ▸ hj
theorem hop_lost {net : List Ofc} {c : ByteArray} {i : Nat} (hi : i < net.length) (h : bestI net[i].rules c < 0) : hop net c i = -2 := by
  unfold hop; rw [List.getElem?_eq_getElem hi]; dsimp only; rw [if_pos h]
theorem hop_home {net : List Ofc} {c : ByteArray} {i : Nat} (hi : i < net.length) (h : 0 ≤ bestI net[i].rules c) (h2 : sEq (nextS net[i].rules c) hereW = true) : hop net c i = -1 := by
  unfold hop; rw [List.getElem?_eq_getElem hi]; dsimp only; rw [if_neg (by omega), if_pos h2]
theorem hop_to {net : List Ofc} (hk : netOk net = true) {c : ByteArray} {i : Nat} (hi : i < net.length) (h : 0 ≤ bestI net[i].rules c) (h2 : sEq (nextS net[i].rules c) hereW = false) : ∃ j : Nat, j < net.length ∧ hop net c i = j ∧ offI net (nextS net[i].rules c) = j ∧ nameAt net j = nextS net[i].rules c := by
  have e : hop net c i = offI net (nextS net[i].rules c) := by
    unfold hop; rw [List.getElem?_eq_getElem hi]; dsimp only; rw [if_neg (by omega), h2]; rfl
  obtain ⟨k, hkk⟩ := Int.eq_ofNat_of_zero_le h
  have hr := (bestN_range net[i].rules c net[i].rules.length).2
  have hk' : bestN net[i].rules c net[i].rules.length = k := hkk
  have hkl : k < net[i].rules.length := by omega
  have hn : nextS net[i].rules c = (net[i].rules[k]).dst := nextS_at hkk hkl
  have ho := ((netOk_iff.1 hk).2 i hi).2.2.2.2 (net[i].rules[k]) (List.getElem_mem _)
  rw [← hn] at ho
  rcases ho with ho | ho
  · exact absurd ho (sEq_false.1 h2)
  · obtain ⟨j, hj⟩ := Int.eq_ofNat_of_zero_le ho
    obtain ⟨hjl, hjn⟩ := offI_at hj
    exact ⟨j, hjl, by rw [e, hj], hj, by rw [nameAt_of hjl, hjn]⟩
theorem nextS_empty {rs : List Fwd} (h : rulesOk rs = true) (c : ByteArray) : sEq (nextS rs c) ⟨#[]⟩ = decide (bestI rs c < 0) := by
  by_cases hb : bestI rs c < 0
  · rw [decide_eq_true hb, nextS_none hb]; exact sEq_refl _
  · rw [decide_eq_false hb]
    obtain ⟨k, hkk⟩ := Int.eq_ofNat_of_zero_le (Int.not_lt.1 hb)
    have hr := (bestN_range rs c rs.length).2
    have hk' : bestN rs c rs.length = k := hkk
    have hkl : k < rs.length := by omega
    rw [nextS_at hkk hkl]
    have := (isName_iff.1 ((rulesOk_iff.1 h).2 k hkl).2.1).2.1
    refine sEq_false.2 fun e => ?_
    rw [e] at this
    exact absurd this (by decide)
theorem nextS_ok {rs : List Fwd} (h : rulesOk rs = true) (c : ByteArray) : (nextS rs c).size ≤ 8 := nextS_size fun x hx => by
  obtain ⟨k, hk, rfl⟩ := List.getElem_of_mem hx
  exact (isName_iff.1 ((rulesOk_iff.1 h).2 k hk).2.1).2.2
theorem route_again {net : List Ofc} {c : ByteArray} {f : Nat} {p : List Nat} {i : Nat} (h : i ∈ p) : routeN net c (f + 1) p i = (p ++ [i], 2) := by
  unfold routeN; rw [if_pos h]
theorem route_lost {net : List Ofc} {c : ByteArray} {f : Nat} {p : List Nat} {i : Nat} (h : ¬ i ∈ p) (h1 : hop net c i = -2) : routeN net c (f + 1) p i = (p ++ [i], 1) := by
  unfold routeN; rw [if_neg h, if_pos h1]
theorem route_home {net : List Ofc} {c : ByteArray} {f : Nat} {p : List Nat} {i : Nat} (h : ¬ i ∈ p) (h1 : hop net c i = -1) : routeN net c (f + 1) p i = (p ++ [i], 0) := by
  unfold routeN; rw [if_neg h, if_neg (by omega), if_pos h1]
theorem route_on {net : List Ofc} {c : ByteArray} {f : Nat} {p : List Nat} {i j : Nat} (h : ¬ i ∈ p) (h1 : hop net c i = j) : routeN net c (f + 1) p i = routeN net c f (p ++ [i]) j := by
  rw [routeN, if_neg h, if_neg (by omega), if_neg (by omega), h1, Int.toNat_natCast]
/-- The length of a slice. -/
def lenV : Value → Nat
  | .slice _ n _ => n
  | _ => 0

end Go.Proofs.Ytmangjjaijhcnaa
