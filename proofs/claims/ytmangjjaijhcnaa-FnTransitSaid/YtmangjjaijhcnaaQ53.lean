/- NE NS R2 -/
import Derived.Test.YtmangjjaijhcnaaQ52
import Derived.Test.YtmangjjaijhcnaaQ42
import Derived.Test.YtmangjjaijhcnaaQ5
import Derived.Test.YtmangjjaijhcnaaQ48
import Derived.Test.YtmangjjaijhcnaaQ38
import Derived.Test.YtmangjjaijhcnaaQ4
namespace Go.Proofs.Ytmangjjaijhcnaa
open Go.RowKit

set_option maxHeartbeats 400000 in
theorem so_texts (v v' : Value) (xs ys : List ByteArray) (w : World) (hv : rd w w.heap.size v xs) (hv' : rd w w.heap.size v' ys) :
    Calls Try.prog 28 #[v, v'] w fun e w' => e = .returned (.bool (eqBy sEq xs ys)) ∧ Below w.heap.size w w' := by
  obtain ⟨A, n, c, rfl, hn, hc, hm, hr⟩ := hv
  obtain ⟨A', n', c', rfl, hn', hc', hm', hr'⟩ := hv'
  subst hn hn'
  unfold maxLen at hm hm'
  have HR := Lib.hid hr; clear hr
  have HR' := Lib.hid hr'; clear hr'
  go_enter Try.func28, Try.ntmps28
  by_cases hl : xs.length = ys.length
  · have hl1 : ((xs.length : Int) != (ys.length : Int)) = false := by simp [hl]
    have HL := Lib.hid hl; clear hl
    go_wp2
    go_loopw [5] (fun i wr => ∃ k : Nat, k ≤ xs.length ∧ i = .int .i64 k ∧ Below w.heap.size w wr ∧ Hid (∀ j (h1 : j < xs.length) (h2 : j < ys.length), j < k → sEq xs[j] ys[j] = true)) (fun i _ => xs.length - (intOf i).toNat)
    case atStart => exact ⟨0, Nat.zero_le _, rfl, Below.refl _ _, fun j _ _ hj => absurd hj (Nat.not_lt_zero j)⟩
    case round =>
      obtain ⟨k, hk, rfl, hbl, HG⟩ := hrel
      obtain ⟨w1, rfl⟩ : ∃ w1 : World, w1 = wr := ⟨_, rfl⟩
      by_cases hlt : k < xs.length
      · have hlt' : k < ys.length := by rw [← HL.out]; exact hlt
        obtain ⟨b, o, rfl, hb, _, c1⟩ := HR.out.str k hlt
        obtain ⟨b', o', rfl, hb', _, d1⟩ := HR'.out.str k hlt'
        have hbad := Lib.hid (fun h => eqBy_bad (p := sEq) k hlt hlt' h)
        have HX : Hid (∀ h : sEq xs[k] ys[k] = true, ∀ j (h1 : j < xs.length) (h2 : j < ys.length), j < k + 1 → sEq xs[j] ys[j] = true) := fun h j h1 h2 hj => by
          by_cases hjk : j < k
          · exact HG.out j h1 h2 hjk
          · obtain rfl : j = k := by omega
            exact h
        generalize xs[k] = x at *
        generalize ys[k] = y at *
        have c1' : w1.cell? ⟨b, o + k, none⟩ = some (.string x) := (hbl.cell (p := ⟨b, o + k, none⟩) hb).trans c1
        have d1' : w1.cell? ⟨b', o' + k, none⟩ = some (.string y) := (hbl.cell (p := ⟨b', o' + k, none⟩) hb').trans d1
        clear c1 d1
        have hki : (k : Int) < (xs.length : Int) := by omega
        have hki' : (k : Int) < (ys.length : Int) := by omega
        cases he : sEq x y
        · have he' := Lib.hid he
          have hq : (x.toList == y.toList) = false := he
          clear he
          go_wp2
          go_quiet (fail)
          go_wp2
          go_ret
          exact ⟨ret_bool (hbad.out he'.out).symm, below_drewN hbl _⟩
        · have he' := Lib.hid he
          have hq : (x.toList == y.toList) = true := he
          clear he
          go_wp2
          go_quiet (fail)
          go_wp2
          go_roundw
          case rel => exact ⟨k + 1, by omega, by go_num, below_drewN hbl _, HX.out he'.out⟩
          case measure => simp [intOf]; omega
      · have HE := Lib.hid (show k = xs.length by omega)
        go_wp2
        go_ret
        exact ⟨ret_bool (eqBy_good HL.out fun j h1 h2 => HG.out j h1 h2 (by rw [HE.out]; exact h1)).symm, hbl⟩
  · have hl1 : ((xs.length : Int) != (ys.length : Int)) = true := by simp; omega
    have HL := Lib.hid hl; clear hl
    go_wp2
    go_ret
    exact ⟨ret_bool (eqBy_len HL.out).symm, Below.refl _ _⟩
theorem so_begins (c p : ByteArray) (w : World) (hc : c.size ≤ maxLen) (hp : p.size ≤ maxLen) :
    Calls Try.prog 30 #[.string c, .string p] w fun e w' => e = .returned (.bool (pre c p)) ∧ w = w' := by
  unfold maxLen at hc hp
  go_enter Try.func30, Try.ntmps30
  by_cases h : p.size ≤ c.size
  · have h' : (p.size : Int) ≤ (c.size : Int) := by omega
    cases hb : sEq (c.extract 0 p.size) p
    · have HB := Lib.hid (pre_long h hb)
      unfold sEq at hb
      go_wp2
      go_ret
      exact ⟨ret_bool HB.out.symm, rfl⟩
    · have HB := Lib.hid (pre_long h hb)
      unfold sEq at hb
      go_wp2
      go_ret
      exact ⟨ret_bool HB.out.symm, rfl⟩
  · have h' : ¬ (p.size : Int) ≤ (c.size : Int) := by omega
    have HB := Lib.hid (pre_short h)
    go_wp2
    go_ret
    exact ⟨ret_bool HB.out.symm, rfl⟩

/-! ### Paths -/
theorem route_end {net : List Ofc} (h : netOk net = true) {c : ByteArray} : ∀ (f : Nat) (p : List Nat) (i : Nat), onPath net f p i → 0 ≤ (routeN net c f p i).2 ∧ (routeN net c f p i).2 ≤ 2
  | 0, p, i, ho => by obtain ⟨g, hg⟩ := onPath_fuel ho; omega
  | f + 1, p, i, ho => by
    unfold routeN
    by_cases hm : i ∈ p
    · rw [if_pos hm]; exact ⟨by simp, by simp⟩
    rw [if_neg hm]
    split
    · exact ⟨by simp, by simp⟩
    · split
      · exact ⟨by simp, by simp⟩
      · rename_i h1 h2
        obtain ⟨j, hj, e, _⟩ := hop_nat h ho.2.2.1 h1 h2
        rw [e, Int.toNat_natCast]
        exact route_end h (c := c) f (p ++ [i]) j (onPath_step ho hm hj)
def pathOk (net : List Ofc) (s c : ByteArray) : Bool := netOk net && decide (0 ≤ offI net s) && isCode c
def pathR (net : List Ofc) (s c : ByteArray) : List Nat × Int := if pathOk net s c = true then route net c (offI net s).toNat else ([], 3)
theorem pathR_no {net : List Ofc} {s c : ByteArray} (h : pathOk net s c = false) : pathR net s c = ([], 3) := by unfold pathR; rw [h]; rfl
theorem pathR_yes {net : List Ofc} {s c : ByteArray} {q : Nat} (h : netOk net = true) (hq : offI net s = q) (hc : isCode c = true) : pathR net s c = route net c q := by
  unfold pathR pathOk
  rw [h, hq, hc, decide_eq_true (by omega), Int.toNat_natCast]; rfl
theorem pathR_len (net : List Ofc) (s c : ByteArray) : (pathR net s c).1.length ≤ 9 ∧ -1 ≤ (pathR net s c).2 ∧ (pathR net s c).2 ≤ 3 ∧ ((pathR net s c).2 ≠ 3 → 1 ≤ (pathR net s c).1.length) := by
  cases h : pathOk net s c
  · rw [pathR_no h]; exact ⟨by decide, by decide, by decide, fun h => absurd rfl h⟩
  · unfold pathOk at h
    simp only [Bool.and_eq_true, decide_eq_true_iff] at h
    obtain ⟨⟨h1, h2⟩, h3⟩ := h
    obtain ⟨q, hq⟩ := Int.eq_ofNat_of_zero_le h2
    obtain ⟨hql, _⟩ := offI_at hq
    rw [pathR_yes h1 hq h3]
    have e1 := route_len h1 (c := c) (net.length + 1) [] q (onPath_start hql)
    have e2 := route_end h1 (c := c) (net.length + 1) [] q (onPath_start hql)
    have e3 := (netOk_iff.1 h1).1
    simp only [List.length_nil] at e1
    show (routeN _ _ _ _ _).1.length ≤ 9 ∧ -1 ≤ (routeN _ _ _ _ _).2 ∧ (routeN _ _ _ _ _).2 ≤ 3 ∧ ((routeN _ _ _ _ _).2 ≠ 3 → 1 ≤ (routeN _ _ _ _ _).1.length)
    omega
theorem pathR_broken {net : List Ofc} {s c : ByteArray} : (pathR net s c).2 = 3 ↔ pathOk net s c = false := by
  constructor
  · intro h
    cases hp : pathOk net s c
    · rfl
    · exfalso
      have hp' := hp
      unfold pathOk at hp
      simp only [Bool.and_eq_true, decide_eq_true_iff] at hp
      obtain ⟨⟨h1, h2⟩, h3⟩ := hp
      obtain ⟨q, hq⟩ := Int.eq_ofNat_of_zero_le h2
      obtain ⟨hql, _⟩ := offI_at hq
      rw [pathR_yes h1 hq h3] at h
      have e2 := route_end h1 (c := c) (net.length + 1) [] q (onPath_start hql)
      have : (routeN net c (net.length + 1) [] q).2 = 3 := h
      omega
  · intro h; rw [pathR_no h]

set_option maxRecDepth 100000 in
set_option maxHeartbeats 1600000 in
theorem impl_RoutePath (v : Value) (net : List Ofc) (s c : ByteArray) (w : World) (hv : rd w w.heap.size v net) (hcz : c.size ≤ maxLen) :
    Calls Try.prog 25 #[v, .string s, .string c] w fun e w' => ∃ v', e = .returned (.tuple #[v', .int .i64 (pathR net s c).2]) ∧ own 9 w.heap.size w' v' ((pathR net s c).1.map (nameAt net)) ∧ Below w.heap.size w w' := by
  have HV := Lib.hid hv
  obtain ⟨A, n0, c0, rfl, hn0, hc0, hm0, hr0⟩ := hv
  subst hn0
  unfold maxLen at hm0
  have HR := Lib.hid hr0; clear hr0
  have l0 := Below.refl w.heap.size w
  obtain ⟨i0, hi, hz0, hz1, hz2⟩ := info_parts Try.infoStr
  have HNO : Hid (pathOk net s c = false → pathR net s c = ([], 3)) := fun h => pathR_no h
  have HQ : Hid (pathOk net s c = (netOk net && decide (0 ≤ offI net s) && isCode c)) := rfl
  obtain ⟨r, hr⟩ : ∃ r, offI net s = r := ⟨_, rfl⟩
  rw [hr] at HQ
  have HRR := Lib.hid hr; clear hr
  go_enter Try.func25, Try.ntmps25
  go_wp2_with fail
  refine (impl_officeOf _ net s _ (HV.out.on l0)).mono ?_
  rw [HRR.out]
  rintro e w1 ⟨rfl, b⟩
  have l1 := later_trans l0 b
  clear b
  go_wp2_with fail
  refine (impl_NetworkValid _ net _ (HV.out.on l1)).mono ?_
  rintro e w2 ⟨rfl, b⟩
  have l2 := later_trans l1 b
  clear b
  cases h1 : netOk net
  · have HF := Lib.hid (HNO.out (by rw [HQ.out, h1]; rfl))
    clear h1
    go_wp2_with fail
    go_ret2
    rw [HF.out]
    exact ⟨_, rfl, own.nil_ _ _ _, l2⟩
  have H1 := Lib.hid h1; clear h1
  by_cases hr0 : r < 0
  · have HF := Lib.hid (HNO.out (by rw [HQ.out, decide_eq_false (by omega)]; simp))
    go_wp2_with fail
    go_ret2
    rw [HF.out]
    exact ⟨_, rfl, own.nil_ _ _ _, l2⟩
  obtain ⟨q, hq⟩ := Int.eq_ofNat_of_zero_le (show 0 ≤ r by omega)
  subst hq
  obtain ⟨hql, hqn⟩ := offI_at HRR.out
  clear hqn hr0
  go_wp2_with fail
  refine (impl_CodeValid c _ hcz).mono ?_
  rintro e w3 ⟨rfl, rfl⟩
  cases h2 : isCode c
  · have HF := Lib.hid (HNO.out (by rw [HQ.out, h2]; simp))
    clear h2
    go_wp2_with fail
    go_ret2
    rw [HF.out]
    exact ⟨_, rfl, own.nil_ _ _ _, l2⟩
  have HF := Lib.hid (pathR_yes H1.out HRR.out h2)
  clear h2
  go_wp2_with fail
  refine (impl_routeOf _ net q c _ (HV.out.on l2) H1.out hql hcz).mono ?_
  have hlen := route_len H1.out (c := c) (net.length + 1) [] q (onPath_start hql)
  have hn8 := (netOk_iff.1 H1.out).1
  have hrr : route net c q = routeN net c (net.length + 1) [] q := rfl
  rw [← hrr] at hlen
  clear hrr
  obtain ⟨hlen1, hlen2, hlen3⟩ := hlen
  have HIN := Lib.hid hlen3; clear hlen3
  generalize route net c q = R at *
  simp only [List.length_nil] at hlen1
  rintro e w5 ⟨v5, rfl, o5, b5⟩
  have l5 := later_trans l2 b5
  clear b5 l2
  rcases o5.form with ⟨_, h0⟩ | ⟨g5, c5, rfl, hg5, hgl5, hc5, hm5⟩
  · have := congrArg List.length h0
    rw [ints_len] at this
    simp at this
    rw [this] at hlen1; simp at hlen1
  rw [ints_len] at *
  have HPC := Lib.hid (own_int1 o5)
  clear o5
  unfold maxLen at hm5
  have hlR : R.1.length ≤ 9 := by omega
  obtain ⟨z, hz⟩ : ∃ z, R.1.length = z := ⟨_, rfl⟩
  have hmk := make_row (P := Try.prog) 23 9 i0 _ Try.underlying23 hi hz0 z (by rw [hz2]; omega) (by omega)
  have HZ := Lib.hid hz
  rw [hz] at hlen1 hlen2 hlR hc5 ⊢
  clear hz
  go_wp2_with fail
  have hf0 : filled 9 (w5.alloc (Obj.cells (madeCells #[.string ⟨#[]⟩] z) 9)) w5.heap.size z 0 (R.1.map (nameAt net)) := filled.made w5 _ _ _ (by rw [size_madeCells]; exact (Nat.mul_one _).symm) _
  have hb0 : Below w5.heap.size w5 (w5.alloc (Obj.cells (madeCells #[.string ⟨#[]⟩] z) 9)) := (Below.refl _ _).alloc (Nat.le_refl _) _
  generalize w5.alloc (Obj.cells (madeCells #[.string ⟨#[]⟩] z) 9) = w0 at *
  clear hmk
  have hs5 := l5.size
  go_loopw [41] (fun i wr => ∃ k : Nat, k ≤ z ∧ i = .int .i64 k ∧ Below w5.heap.size w5 wr ∧ filled 9 wr w5.heap.size z k (R.1.map (nameAt net))) (fun i _ => z - (intOf i).toNat)
  case atStart => exact ⟨0, Nat.zero_le _, rfl, hb0, hf0⟩
  case round =>
    obtain ⟨k, hk, rfl, hbl, hf⟩ := hrel
    obtain ⟨w6, rfl⟩ : ∃ w6 : World, w6 = wr := ⟨_, rfl⟩
    clear hf0 hb0
    by_cases hlt : k < z
    · have hkR : k < R.1.length := by rw [HZ.out]; exact hlt
      have hjn := HIN.out R.1[k] (List.getElem_mem hkR)
      have cP := HPC.out k (by rw [ints_len]; exact hkR) w6 hbl
      rw [show (ints R.1)[k]'(by rw [ints_len]; exact hkR) = ((R.1[k] : Nat) : Int) by simp [ints]] at cP
      have hLk : (R.1.map (nameAt net))[k]'(by simpa using hkR) = nameAt net R.1[k] := by simp
      have HLN : Hid ((R.1.map (nameAt net)).length = z) := by show _ = _; rw [List.length_map, HZ.out]
      obtain ⟨bo, oo, A', c', rfl, hbo, hnm, _, c1, _⟩ := HR.out.ofcU R.1[k] hjn
      have c1 := c1 w6 (later_trans l5 hbl)
      have HST := Lib.hid (fun (W : World) (hF : filled 9 W w5.heap.size z k (R.1.map (nameAt net))) => hF.step (by rw [HLN.out]; exact hlt) (by rw [HLN.out]; exact Nat.le_refl _) (ecs := [.string net[R.1[k]].name]) (by rw [hLk, nameAt_of hjn]; exact ⟨hnm, rfl⟩))
      clear hLk
      generalize net[R.1[k]].name = x at *
      generalize R.1[k] = j at *
      obtain ⟨u0, g0⟩ := hf.cell (j := k) (by show _ < _ * 1; omega)
      have f0 := hf.free k
      have HFL := Lib.hid hf; clear hf
      have hji : (j : Int) < (net.length : Int) := by omega
      have hji0 : (0 : Int) ≤ (j : Int) := by omega
      go_wp2
      go_roundw
      case rel =>
        have := HST.out w6 HFL.out
        rw [show k * El.size ByteArray = k from Nat.mul_one k] at this
        exact ⟨k + 1, by omega, by go_num, hbl.trans (setAll_below [.string x] w6 k _ (Nat.le_refl _)), this⟩
      case measure => simp [intOf]; omega
    · have HE := Lib.hid (show k = z by omega)
      have HFL := Lib.hid hf; clear hf
      have HLN : Hid ((R.1.map (nameAt net)).length = z) := by show _ = _; rw [List.length_map, HZ.out]
      go_wp2
      go_ret2
      rw [HF.out]
      exact ⟨_, rfl, ((HE.out ▸ HFL.out : filled _ _ _ _ z _).own HLN.out.symm (Nat.le_refl _) (by unfold maxLen; omega)).base_ hs5, later_trans l5 hbl⟩

set_option maxHeartbeats 800000 in
theorem impl_HomeOf (v : Value) (net : List Ofc) (s c : ByteArray) (w : World) (hv : rd w w.heap.size v net) (hcz : c.size ≤ maxLen) :
    Calls Try.prog 32 #[v, .string s, .string c] w fun e w' => ∃ (h : ByteArray) (b : Bool), e = .returned (.tuple #[.string h, .bool b]) ∧ (b = true ↔ (pathR net s c).2 = 0) ∧ Below w.heap.size w w' := by
  obtain ⟨hl1, hl2, hl3, hl4⟩ := pathR_len net s c
  go_enter Try.func32, Try.ntmps32
  go_wp2_with fail
  refine (impl_RoutePath v net s c w hv hcz).mono ?_
  obtain ⟨R, hRR⟩ : ∃ R, pathR net s c = R := ⟨_, rfl⟩
  rw [hRR] at hl1 hl2 hl3 hl4 ⊢
  have HRR := Lib.hid hRR; clear hRR
  rintro e w1 ⟨v1, rfl, o1, b1⟩
  by_cases h0 : R.2 = 0
  · have hn : (R.2 != 0) = false := by rw [h0]; rfl
    have HL : Hid ((R.1.map (nameAt net)).length = R.1.length) := by show _ = _; rw [List.length_map]
    have hpos := hl4 (by omega)
    rcases o1.form with ⟨_, e0⟩ | ⟨g, cc, rfl, _, hgl, _, hm⟩
    · have := congrArg List.length e0
      rw [HL.out] at this
      simp at this
      rw [this] at hpos; simp at hpos
    rw [HL.out] at o1 ⊢
    have HO := Lib.hid o1
    obtain ⟨b, o, hA, _, _, cc1⟩ := (show rdA w1 w1.heap.size (some ⟨g, 0, none⟩) (R.1.map (nameAt net)) by
      obtain ⟨A, n', c', hv', _, _, _, hrd⟩ := o1.rd
      injection hv' with e1 _ _
      subst e1
      exact hrd).str (R.1.length - 1) (by rw [HL.out]; omega)
    injection hA with hA
    injection hA with hA1 hA2
    subst hA1 hA2
    rw [Nat.zero_add] at cc1
    generalize (R.1.map (nameAt net))[R.1.length - 1]'(by rw [HL.out]; omega) = nm at *
    have HB := Lib.hid h0
    generalize R.1.length = z at *
    obtain ⟨y, rfl⟩ : ∃ y, z = y + 1 := ⟨z - 1, by omega⟩
    rw [show y + 1 - 1 = y by omega] at cc1
    have hyi : ((y + 1 : Nat) : Int) - 1 = (y : Int) := by omega
    clear o1 h0 hl4
    go_wp2_with fail
    go_ret2
    exact ⟨nm, true, rfl, by rw [HRR.out]; exact ⟨fun _ => HB.out, fun _ => rfl⟩, b1⟩
  · have hn : (R.2 != 0) = true := by simpa using h0
    have HB := Lib.hid h0
    go_wp2_with fail
    go_ret2
    exact ⟨_, false, rfl, by rw [HRR.out]; exact ⟨fun h => (by cases h), fun h => absurd h HB.out⟩, b1⟩

theorem isCode_of {s : ByteArray} (h : digs s.data.toList = true) (h7 : s.size = 7) : isCode s = true := by unfold isCode; rw [h, h7]; rfl
theorem digs_snoc {s : ByteArray} {n : Int} (h : digs s.data.toList = true) (h1 : 48 ≤ n) (h2 : n ≤ 57) : digs (s ++ ⟨#[b8 n]⟩).data.toList = true := by
  rw [ba_append]
  unfold digs at *
  rw [List.all_append, h]
  show (true && ([b8 n].all dig)) = true
  unfold b8
  have : (UInt8.ofNat n.toNat).toNat = n.toNat := by rw [UInt8.toNat_ofNat']; omega
  simp only [List.all_cons, List.all_nil, Bool.and_true, Bool.true_and]
  unfold dig
  rw [this, Bool.and_eq_true, decide_eq_true_iff, decide_eq_true_iff]
  omega
set_option maxRecDepth 100000 in
set_option maxHeartbeats 2000000 in
theorem so_probes (v : Value) (rs : List Fwd) (w : World) (hv : rd w w.heap.size v rs) (hl : rs.length ≤ 1000) (hk : ∀ x ∈ rs, isPfx x.src = true) :
    Calls Try.prog 31 #[v] w fun e w' => ∃ (v' : Value) (L : List ByteArray), e = .returned v' ∧ own 9 w.heap.size w' v' L ∧ (∀ x ∈ L, isCode x = true) ∧ L.length = 3 + 4 * rs.length ∧ Below w.heap.size w w' := by
  obtain ⟨A, n, c, rfl, hn, hc, hm, hr⟩ := hv
  subst hn
  have HR := Lib.hid hr; clear hr
  have HK := Lib.hid hk; clear hk
  obtain ⟨i0, hi, hz0, hz1, hz2⟩ := info_parts Try.infoStr
  have hbs := byteString
  have o0 : own 9 w.heap.size (w.alloc (Obj.cells #[.string ⟨#[48, 48, 48, 48, 48, 48, 48]⟩, .string ⟨#[57, 57, 57, 57, 57, 57, 57]⟩, .string ⟨#[49, 50, 48, 48, 49, 48, 49]⟩] 9)) (.slice (some ⟨w.heap.size, 0, none⟩) 3 3) ([⟨#[48, 48, 48, 48, 48, 48, 48]⟩, ⟨#[57, 57, 57, 57, 57, 57, 57]⟩, ⟨#[49, 50, 48, 48, 49, 48, 49]⟩] : List ByteArray) := list_str 9 w.heap.size w _ (by intro x hx; simp at hx; rcases hx with rfl | rfl | rfl <;> decide) (by decide) (Nat.le_refl _)
  have HO0 := Lib.hid o0; clear o0
  have HC0 : Hid (∀ x ∈ ([⟨#[48, 48, 48, 48, 48, 48, 48]⟩, ⟨#[57, 57, 57, 57, 57, 57, 57]⟩, ⟨#[49, 50, 48, 48, 49, 48, 49]⟩] : List ByteArray), isCode x = true) := by
    show ∀ x ∈ _, _
    intro x hx; simp at hx; rcases hx with rfl | rfl | rfl <;> rfl
  go_enter Try.func31, Try.ntmps31
  go_wp2_with fail
  go_loopw [3, 4] (fun t i wr => ∃ (k : Nat) (L : List ByteArray), k ≤ rs.length ∧ i = .int .i64 k ∧ Hid (own 9 w.heap.size wr t L) ∧ Hid (∀ x ∈ L, isCode x = true) ∧ L.length = 3 + 4 * k ∧ Below w.heap.size w wr) (fun _ i _ => rs.length - (intOf i).toNat)
  case atStart => exact ⟨0, _, Nat.zero_le _, rfl, HO0.out, HC0.out, rfl, (Below.refl _ _).alloc (Nat.le_refl _) _⟩
  case round =>
    obtain ⟨k, L, hk, rfl, HO, HC, hL, lr⟩ := hrel
    obtain ⟨w1, rfl⟩ : ∃ w1 : World, w1 = wr := ⟨_, rfl⟩
    by_cases hlt : k < rs.length
    · obtain ⟨b, o, rfl, hb, ⟨hs1, _⟩, y1, y2⟩ := HR.out.fwdU k hlt
      have c1 := y1 w1 lr
      have hp := isPfx_iff.1 (HK.out rs[k] (List.getElem_mem hlt))
      obtain ⟨hpd, hp7⟩ := hp
      generalize rs[k].src = s0 at *
      have HPD := Lib.hid hpd; clear hpd
      have hki : (k : Int) < (rs.length : Int) := by omega
      have hki0 : (0 : Int) ≤ (k : Int) := by omega
      go_wp2_with fail
      go_loopw [3, 6] (fun t i wr => ∃ (j : Nat) (L : List ByteArray), j ≤ 4 ∧ i = .int .i64 ((3 * j : Nat) : Int) ∧ Hid (own 9 w.heap.size wr t L) ∧ Hid (∀ x ∈ L, isCode x = true) ∧ L.length = 3 + 4 * k + j ∧ Below w.heap.size w wr) (fun _ i _ => 12 - (intOf i).toNat)
      case atStart => exact ⟨0, L, by omega, rfl, HO.out, HC.out, hL, lr⟩
      case round =>
        obtain ⟨j, L2, hj, rfl, HO2, HC2, hL2, lr2⟩ := hrel
        obtain ⟨w2, rfl⟩ : ∃ w2 : World, w2 = wr := ⟨_, rfl⟩
        clear c1
        obtain ⟨A2, m2, cp2, hv2, hm2, _, _, _⟩ := HO2.out.rd
        subst hm2 hv2
        by_cases hj4 : j < 4
        · have hd9 : ((3 * j : Nat) : Int) ≤ 9 := by omega
          go_wp2_with fail
          go_loopw [7] (fun t wr => ∃ (u : ByteArray), t = .string u ∧ Hid (digs u.data.toList = true) ∧ u.size ≤ 7 ∧ Below w2.heap.size w2 wr) (fun t _ => match t with | .string u => 7 - u.size | _ => 0)
          case atStart => exact ⟨s0, rfl, HPD.out, hp7, Below.refl _ _⟩
          case round =>
            obtain ⟨u, rfl, HU, hu7, lr3⟩ := hrel
            obtain ⟨w3, rfl⟩ : ∃ w3 : World, w3 = wr := ⟨_, rfl⟩
            by_cases hu : u.size < 7
            · obtain ⟨m, hm'⟩ : ∃ m : Nat, m = 48 + (3 * j + u.size) % 10 := ⟨_, rfl⟩
              have HMR : Hid (48 ≤ (m : Int) ∧ (m : Int) ≤ 57) := ⟨by omega, by omega⟩
              have hwm : (48 : Int) + (((3 * j : Nat) : Int) + (u.size : Int)) % 10 = (m : Int) := by omega
              have HS1 : Hid ((u ++ ⟨#[b8 (m : Int)]⟩).size = u.size + 1) := by show _ = _; rw [ByteArray.size_append]; rfl
              go_wp2_with fail
              go_roundw
              case rel => exact ⟨_, rfl, digs_snoc HU.out (by omega) (by omega), by rw [ByteArray.size_append]; show _ + 1 ≤ 7; omega, lr3.alloc lr3.size _⟩
              case measure => show 7 - (u ++ _).size < 7 - u.size; rw [ByteArray.size_append]; show 7 - (u.size + 1) < _; omega
            · have HCU : Hid (isCode u = true) := isCode_of HU.out (by omega)
              have hus : u.size ≤ maxLen := by unfold maxLen; omega
              have HO3 := Lib.hid (HO2.out.below lr3)
              have l3 := later_trans lr2 lr3
              have hs3 := l3.size
              go_wp2_with (at_builtin; refine wpList_append1 (α := ByteArray) rfl (.tmp 39) (.tmp 41) _ rfl w.heap.size 9 i0 _ 16 Try.underlying23 hi hz0 hz1 hz2 rfl (by decide) (.slice A2 L2.length cp2) L2 u rfl (HO3.out.alloc _) ⟨w3.heap.size, 0, none⟩ 1 [.string u] rfl ⟨hus, rfl⟩ (news_at w3 _ [.string u]) (by unfold maxLen; omega) (by omega) (by simp; omega) ?_; intro v' w4 o4 g4 _)
              have l4 : Below w.heap.size w w4 := (l3.alloc hs3 _).trans (below_append (HO3.out.alloc _) g4 (by simp; omega))
              have HO4 := Lib.hid o4
              clear o4 g4
              go_wp2_with fail
              go_roundw
              case rel =>
                refine ⟨j + 1, _, by omega, by go_num, HO4.out, fun x hx => ?_, by simp; omega, l4⟩
                rcases List.mem_append.1 hx with h | h
                · exact HC2.out x h
                · rw [List.mem_singleton.1 h]; exact HCU.out
              case measure => simp [intOf]; omega
        · have HJ := Lib.hid (show j = 4 by omega)
          go_wp2_with fail
          go_roundw
          case rel => exact ⟨k + 1, L2, by omega, by go_num, HO2.out, HC2.out, by have := HJ.out; omega, lr2⟩
          case measure => simp [intOf]; omega
    · have HKE := Lib.hid (show k = rs.length by omega)
      obtain ⟨A2, m2, cp2, hv2, hm2, _, _, _⟩ := HO.out.rd
      subst hm2 hv2
      go_wp2_with fail
      go_ret
      exact ⟨_, L, rfl, HO.out, HC.out, by rw [hL, HKE.out], lr⟩

end Go.Proofs.Ytmangjjaijhcnaa

namespace Go.Proofs.Ytmangjjaijhcnaa
open Go.RowKit

theorem less_asym : ∀ (a b : List UInt8), Op.bytesLess a b = true → Op.bytesLess b a = false ∧ a ≠ b
  | _, [], h => by simp [Op.bytesLess] at h
  | [], y :: b, _ => ⟨by simp [Op.bytesLess], by simp⟩
  | x :: a, y :: b, h => by
    rw [Op.bytesLess, Bool.or_eq_true, Bool.and_eq_true, decide_eq_true_iff, beq_iff_eq] at h
    rw [Op.bytesLess, Bool.or_eq_false_iff, Bool.and_eq_false_iff, decide_eq_false_iff_not, beq_eq_false_iff_ne]
    rcases h with h | ⟨rfl, h⟩
    · refine ⟨⟨fun h' => ?_, .inl fun e => ?_⟩, fun e => ?_⟩
      · rw [UInt8.lt_iff_toNat_lt] at h h'; omega
      · subst e; rw [UInt8.lt_iff_toNat_lt] at h; omega
      · injection e with e _; subst e; rw [UInt8.lt_iff_toNat_lt] at h; omega
    · obtain ⟨h1, h2⟩ := less_asym a b h
      refine ⟨⟨fun h' => ?_, .inr h1⟩, fun e => ?_⟩
      · rw [UInt8.lt_iff_toNat_lt] at h'; omega
      · injection e with _ e; exact h2 e
theorem fp_form (net : List Ofc) (s : ByteArray) : fpS net s = [] ∨ ∃ q : Nat, netOk net = true ∧ offI net s = q ∧ fpS net s = faultsN net q 8 ⟨#[]⟩ := by
  unfold fpS
  split
  · rename_i h
    rw [Bool.and_eq_true, decide_eq_true_iff] at h
    obtain ⟨q, hq⟩ := Int.eq_ofNat_of_zero_le h.2
    exact .inr ⟨q, h.1, hq, by rw [hq, Int.toNat_natCast]⟩
  · exact .inl rfl
theorem fp_apart (net : List Ofc) (s : ByteArray) (i k : Nat) (hi : i < (fpS net s).length) (hk : k < (fpS net s).length) (h : i ≠ k) : pre (fpS net s)[i] (fpS net s)[k] = false := by
  rcases fp_form net s with e | ⟨q, _, _, e⟩
  · rw [e] at hi; simp at hi
  · rw [Bool.eq_false_iff, Ne, pre_iff]
    intro hp
    have h1 : (fpS net s)[k] ∈ faultsN net q 8 ⟨#[]⟩ := by rw [← e]; exact List.getElem_mem hk
    have h2 : (fpS net s)[i] ∈ faultsN net q 8 ⟨#[]⟩ := by rw [← e]; exact List.getElem_mem hi
    have h3 := faults_apart h1 h2 hp
    have hn : (fpS net s).Nodup := by rw [e]; exact faults_nodup net q 8 _
    rcases Nat.lt_trichotomy i k with hlt | heq | hgt
    · exact List.pairwise_iff_getElem.1 hn i k hi hk hlt h3.symm
    · exact h heq
    · exact List.pairwise_iff_getElem.1 hn k i hk hi hgt h3
theorem fp_less (net : List Ofc) (s : ByteArray) (i : Nat) (hi : i + 1 < (fpS net s).length) : (Op.bytesLess (fpS net s)[i + 1].toList (fpS net s)[i].toList || (fpS net s)[i + 1].toList == (fpS net s)[i].toList) = false := by
  rcases fp_form net s with e | ⟨q, _, _, e⟩
  · rw [e] at hi; simp at hi
  · have hs : (fpS net s).Pairwise fun x y => Op.bytesLess (bl x) (bl y) = true := by rw [e]; exact faults_sorted 8 _
    have h1 := List.pairwise_iff_getElem.1 hs i (i + 1) (by omega) hi (by omega)
    obtain ⟨h2, h3⟩ := less_asym _ _ h1
    rw [ByteArray.toList_eq, ByteArray.toList_eq, Bool.or_eq_false_iff, beq_eq_false_iff_ne]
    exact ⟨h2, fun e => h3 e.symm⟩
theorem fp_sibs (net : List Ofc) (s q : ByteArray) : (fpS net s).countP (sibB q) ≠ 10 := by
  rcases fp_form net s with e | ⟨p, _, _, e⟩
  · rw [e]; simp
  · rw [e]; exact faults_sibs net p 8 q
theorem faults_size {net : List Ofc} (hk : netOk net = true) {i : Nat} : ∀ {f : Nat} {p q : ByteArray}, p.size ≤ 7 → q ∈ faultsN net i f p → q.size ≤ 7
  | 0, p, q, _, h => by simp [faultsN] at h
  | f + 1, p, q, hp, h => by
    rcases faults_mem h with ⟨_, rfl⟩ | ⟨hl, _, _, d, hd, hq⟩
    · exact hp
    · have := long_size hk hl
      exact faults_size hk (by rw [dgt_size]; omega) hq
theorem fp_pfx (net : List Ofc) (s : ByteArray) : ∀ x ∈ fpS net s, isPfx x = true := fun x hx => by
  rcases fp_form net s with e | ⟨q, hk, _, e⟩
  · rw [e] at hx; simp at hx
  · rw [e] at hx
    refine isPfx_iff.2 ⟨?_, faults_size hk (by decide) hx⟩
    unfold digs
    refine List.all_eq_true.2 fun b hb => ?_
    obtain ⟨d, hd, rfl⟩ := faults_digs (p := ⟨#[]⟩) (fun b hb => by simp [bl] at hb) hx b hb
    unfold dig
    rw [dgb_nat hd, Bool.and_eq_true, decide_eq_true_iff, decide_eq_true_iff]
    omega
theorem sib_no {q y : ByteArray} (h : y.size ≠ q.size + 1) : sibB q y = false := by unfold sibB; rw [decide_eq_false h]; rfl
theorem sib_pre {q y : ByteArray} (h : y.size = q.size + 1) : sibB q y = pre y q := by unfold sibB; rw [decide_eq_true h]; rfl
theorem countP_take_succ {α : Type} (p : α → Bool) (xs : List α) {k : Nat} (h : k < xs.length) : (xs.take (k + 1)).countP p = (xs.take k).countP p + if p xs[k] = true then 1 else 0 := by
  rw [List.take_succ_eq_append_getElem h, List.countP_append]
  simp [List.countP_cons]
theorem countP_take_le {α : Type} (p : α → Bool) (xs : List α) (k : Nat) : (xs.take k).countP p ≤ xs.length := Nat.le_trans List.countP_le_length (by rw [List.length_take]; omega)

end Go.Proofs.Ytmangjjaijhcnaa

namespace Go.Proofs.Ytmangjjaijhcnaa
open Go.ChangeShapes Go.WideShapes Go.ChangeAt Go.RowKit

theorem opensByte : Opens Try.prog 5 UInt8 := by
  intro H enc w spare held fuel cs x h
  obtain ⟨n, rfl, _, wf⟩ := DataW.trod_int Try.underlying5 h
  simp [Lit.wf, IntKind.min, IntKind.max, IntKind.signed, IntKind.bits] at wf
  refine ⟨UInt8.ofNat n.toNat, ?_⟩
  show [Value.int .u8 n] = [Value.int .u8 ((UInt8.ofNat n.toNat).toNat : Int)]
  rw [UInt8.toNat_ofNat_of_lt' (by show n.toNat < 256; omega)]
  congr 2
  omega

end Go.Proofs.Ytmangjjaijhcnaa
