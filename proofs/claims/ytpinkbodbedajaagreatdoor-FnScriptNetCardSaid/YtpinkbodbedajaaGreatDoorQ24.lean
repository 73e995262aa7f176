/- NE ZE NC R0 R2 -/
import Derived.Test.YtpinkbodbedajaaGreatDoorQ23
import Derived.Test.YtpinkbodbedajaaGreatDoorQ19
import Derived.Test.YtpinkbodbedajaaGreatDoorQ5
import Derived.Test.YtpinkbodbedajaaGreatDoorQ22
import Derived.Test.YtpinkbodbedajaaGreatDoorQ18
import Derived.Test.YtpinkbodbedajaaGreatDoorQ1
import Derived.ProofKit
import Derived.OpenShut
import Derived.ShutString
import Derived.ChangeOld
import Derived.Deep.Slices
import Derived.Deep.Fields
import Derived.ChangeSame
import Derived.Test.YtpinkbodbedajaaGreatDoorQ3
namespace Go.Proofs.YtpinkbodbedajaaGreatDoor
open Go.RowKit

set_option maxHeartbeats 400000 in
theorem so_texts (v v' : Value) (xs ys : List ByteArray) (w : World) (hv : rd w w.heap.size v xs) (hv' : rd w w.heap.size v' ys) :
    Calls Tryz.prog 30 #[v, v'] w fun e w' => e = .returned (.bool (eqBy sEq xs ys)) ∧ Below w.heap.size w w' := by
  obtain ⟨A, n, c, rfl, hn, hc, hm, hr⟩ := hv
  obtain ⟨A', n', c', rfl, hn', hc', hm', hr'⟩ := hv'
  subst hn hn'
  unfold maxLen at hm hm'
  have HR := Lib.hid hr; clear hr
  have HR' := Lib.hid hr'; clear hr'
  go_enter Tryz.func30, Tryz.ntmps30
  by_cases hl : xs.length = ys.length
  · have hl1 : ((xs.length : Int) != (ys.length : Int)) = false := by simp [hl]
    have HL := Lib.hid hl; clear hl
    go_wp2
    go_loopw [5] (fun i wr => ∃ k : Nat, k ≤ xs.length ∧ i = .int .i64 k ∧ Below w.heap.size w wr ∧ Hid (∀ j (h1 : j < xs.length) (h2 : j < ys.length), j < k → sEq xs[j] ys[j] = true)) (fun i _ => xs.length - (intOf i).toNat)
    case atStart => exact ⟨0, Nat.zero_le _, rfl, Below.refl _ _, fun j _ _ hj => absurd hj (Nat.not_lt_zero j)⟩
    case round =>
      obtain ⟨k, hk, rfl, hbl, HG⟩ := hrel
      obtain ⟨w1, rfl⟩ : ∃ w1 : World, w1 = wr := ⟨_, rfl⟩
      by_cases hlt : k < xs.length
      · have hlt' : k < ys.length := by rw [← HL.out]; exact hlt
        obtain ⟨b, o, rfl, hb, _, c1⟩ := HR.out.str k hlt
        obtain ⟨b', o', rfl, hb', _, d1⟩ := HR'.out.str k hlt'
        have hbad := Lib.hid (fun h => eqBy_bad (p := sEq) k hlt hlt' h)
        have HX : Hid (∀ h : sEq xs[k] ys[k] = true, ∀ j (h1 : j < xs.length) (h2 : j < ys.length), j < k + 1 → sEq xs[j] ys[j] = true) := fun h j h1 h2 hj => by
          by_cases hjk : j < k
          · exact HG.out j h1 h2 hjk
          · obtain rfl : j = k := by omega
            exact h
        generalize xs[k] = x at *
        generalize ys[k] = y at *
        have c1' : w1.cell? ⟨b, o + k, none⟩ = some (.string x) := (hbl.cell (p := ⟨b, o + k, none⟩) hb).trans c1
        have d1' : w1.cell? ⟨b', o' + k, none⟩ = some (.string y) := (hbl.cell (p := ⟨b', o' + k, none⟩) hb').trans d1
        clear c1 d1
        have hki : (k : Int) < (xs.length : Int) := by omega
        have hki' : (k : Int) < (ys.length : Int) := by omega
        cases he : sEq x y
        · have he' := Lib.hid he
          have hq : (x.toList == y.toList) = false := he
          clear he
          go_wp2
          go_quiet (fail)
          go_wp2
          go_ret
          exact ⟨ret_bool (hbad.out he'.out).symm, below_drewN hbl _⟩
        · have he' := Lib.hid he
          have hq : (x.toList == y.toList) = true := he
          clear he
          go_wp2
          go_quiet (fail)
          go_wp2
          go_roundw
          case rel => exact ⟨k + 1, by omega, by go_num, below_drewN hbl _, HX.out he'.out⟩
          case measure => simp [intOf]; omega
      · have HE := Lib.hid (show k = xs.length by omega)
        go_wp2
        go_ret
        exact ⟨ret_bool (eqBy_good HL.out fun j h1 h2 => HG.out j h1 h2 (by rw [HE.out]; exact h1)).symm, hbl⟩
  · have hl1 : ((xs.length : Int) != (ys.length : Int)) = true := by simp; omega
    have HL := Lib.hid hl; clear hl
    go_wp2
    go_ret
    exact ⟨ret_bool (eqBy_len HL.out).symm, Below.refl _ _⟩

/-! ### Paths -/
theorem route_end {net : List Ofc} (h : netOk net = true) {c : ByteArray} : ∀ (f : Nat) (p : List Nat) (i : Nat), onPath net f p i → 0 ≤ (routeN net c f p i).2 ∧ (routeN net c f p i).2 ≤ 2
  | 0, p, i, ho => by obtain ⟨g, hg⟩ := onPath_fuel ho; omega
  | f + 1, p, i, ho => by
    unfold routeN
    by_cases hm : i ∈ p
    · rw [if_pos hm]; exact ⟨by simp, by simp⟩
    rw [if_neg hm]
    split
    · exact ⟨by simp, by simp⟩
    · split
      · exact ⟨by simp, by simp⟩
      · rename_i h1 h2
        obtain ⟨j, hj, e, _⟩ := hop_nat h ho.2.2.1 h1 h2
        rw [e, Int.toNat_natCast]
        exact route_end h (c := c) f (p ++ [i]) j (onPath_step ho hm hj)
def pathOk (net : List Ofc) (s c : ByteArray) : Bool := netOk net && decide (0 ≤ offI net s) && isCode c
def pathR (net : List Ofc) (s c : ByteArray) : List Nat × Int := if pathOk net s c = true then route net c (offI net s).toNat else ([], 3)
theorem pathR_no {net : List Ofc} {s c : ByteArray} (h : pathOk net s c = false) : pathR net s c = ([], 3) := by unfold pathR; rw [h]; rfl
theorem pathR_yes {net : List Ofc} {s c : ByteArray} {q : Nat} (h : netOk net = true) (hq : offI net s = q) (hc : isCode c = true) : pathR net s c = route net c q := by
  unfold pathR pathOk
  rw [h, hq, hc, decide_eq_true (by omega), Int.toNat_natCast]; rfl
theorem pathR_len (net : List Ofc) (s c : ByteArray) : (pathR net s c).1.length ≤ 9 ∧ -1 ≤ (pathR net s c).2 ∧ (pathR net s c).2 ≤ 3 ∧ ((pathR net s c).2 ≠ 3 → 1 ≤ (pathR net s c).1.length) := by
  cases h : pathOk net s c
  · rw [pathR_no h]; exact ⟨by decide, by decide, by decide, fun h => absurd rfl h⟩
  · unfold pathOk at h
    simp only [Bool.and_eq_true, decide_eq_true_iff] at h
    obtain ⟨⟨h1, h2⟩, h3⟩ := h
    obtain ⟨q, hq⟩ := Int.eq_ofNat_of_zero_le h2
    obtain ⟨hql, _⟩ := offI_at hq
    rw [pathR_yes h1 hq h3]
    have e1 := route_len h1 (c := c) (net.length + 1) [] q (onPath_start hql)
    have e2 := route_end h1 (c := c) (net.length + 1) [] q (onPath_start hql)
    have e3 := (netOk_iff.1 h1).1
    simp only [List.length_nil] at e1
    show (routeN _ _ _ _ _).1.length ≤ 9 ∧ -1 ≤ (routeN _ _ _ _ _).2 ∧ (routeN _ _ _ _ _).2 ≤ 3 ∧ ((routeN _ _ _ _ _).2 ≠ 3 → 1 ≤ (routeN _ _ _ _ _).1.length)
    omega
theorem pathR_broken {net : List Ofc} {s c : ByteArray} : (pathR net s c).2 = 3 ↔ pathOk net s c = false := by
  constructor
  · intro h
    cases hp : pathOk net s c
    · rfl
    · exfalso
      have hp' := hp
      unfold pathOk at hp
      simp only [Bool.and_eq_true, decide_eq_true_iff] at hp
      obtain ⟨⟨h1, h2⟩, h3⟩ := hp
      obtain ⟨q, hq⟩ := Int.eq_ofNat_of_zero_le h2
      obtain ⟨hql, _⟩ := offI_at hq
      rw [pathR_yes h1 hq h3] at h
      have e2 := route_end h1 (c := c) (net.length + 1) [] q (onPath_start hql)
      have : (routeN net c (net.length + 1) [] q).2 = 3 := h
      omega
  · intro h; rw [pathR_no h]

set_option maxRecDepth 100000 in
set_option maxHeartbeats 1600000 in
theorem impl_RoutePath (v : Value) (net : List Ofc) (s c : ByteArray) (w : World) (hv : rd w w.heap.size v net) (hcz : c.size ≤ maxLen) :
    Calls Tryz.prog 28 #[v, .string s, .string c] w fun e w' => ∃ v', e = .returned (.tuple #[v', .int .i64 (pathR net s c).2]) ∧ own 9 w.heap.size w' v' ((pathR net s c).1.map (nameAt net)) ∧ Below w.heap.size w w' := by
  have HV := Lib.hid hv
  obtain ⟨A, n0, c0, rfl, hn0, hc0, hm0, hr0⟩ := hv
  subst hn0
  unfold maxLen at hm0
  have HR := Lib.hid hr0; clear hr0
  have l0 := Below.refl w.heap.size w
  obtain ⟨i0, hi, hz0, hz1, hz2⟩ := info_parts Tryz.infoStr
  have HNO : Hid (pathOk net s c = false → pathR net s c = ([], 3)) := fun h => pathR_no h
  have HQ : Hid (pathOk net s c = (netOk net && decide (0 ≤ offI net s) && isCode c)) := rfl
  obtain ⟨r, hr⟩ : ∃ r, offI net s = r := ⟨_, rfl⟩
  rw [hr] at HQ
  have HRR := Lib.hid hr; clear hr
  go_enter Tryz.func28, Tryz.ntmps28
  go_wp2_with fail
  refine (impl_officeOf _ net s _ (HV.out.on l0)).mono ?_
  rw [HRR.out]
  rintro e w1 ⟨rfl, b⟩
  have l1 := later_trans l0 b
  clear b
  go_wp2_with fail
  refine (impl_NetworkValid _ net _ (HV.out.on l1)).mono ?_
  rintro e w2 ⟨rfl, b⟩
  have l2 := later_trans l1 b
  clear b
  cases h1 : netOk net
  · have HF := Lib.hid (HNO.out (by rw [HQ.out, h1]; rfl))
    clear h1
    go_wp2_with fail
    go_ret2
    rw [HF.out]
    exact ⟨_, rfl, own.nil_ _ _ _, l2⟩
  have H1 := Lib.hid h1; clear h1
  by_cases hr0 : r < 0
  · have HF := Lib.hid (HNO.out (by rw [HQ.out, decide_eq_false (by omega)]; simp))
    go_wp2_with fail
    go_ret2
    rw [HF.out]
    exact ⟨_, rfl, own.nil_ _ _ _, l2⟩
  obtain ⟨q, hq⟩ := Int.eq_ofNat_of_zero_le (show 0 ≤ r by omega)
  subst hq
  obtain ⟨hql, hqn⟩ := offI_at HRR.out
  clear hqn hr0
  go_wp2_with fail
  refine (impl_CodeValid c _ hcz).mono ?_
  rintro e w3 ⟨rfl, rfl⟩
  cases h2 : isCode c
  · have HF := Lib.hid (HNO.out (by rw [HQ.out, h2]; simp))
    clear h2
    go_wp2_with fail
    go_ret2
    rw [HF.out]
    exact ⟨_, rfl, own.nil_ _ _ _, l2⟩
  have HF := Lib.hid (pathR_yes H1.out HRR.out h2)
  clear h2
  go_wp2_with fail
  refine (impl_routeOf _ net q c _ (HV.out.on l2) H1.out hql hcz).mono ?_
  have hlen := route_len H1.out (c := c) (net.length + 1) [] q (onPath_start hql)
  have hn8 := (netOk_iff.1 H1.out).1
  have hrr : route net c q = routeN net c (net.length + 1) [] q := rfl
  rw [← hrr] at hlen
  clear hrr
  obtain ⟨hlen1, hlen2, hlen3⟩ := hlen
  have HIN := Lib.hid hlen3; clear hlen3
  generalize route net c q = R at *
  simp only [List.length_nil] at hlen1
  rintro e w5 ⟨v5, rfl, o5, b5⟩
  have l5 := later_trans l2 b5
  clear b5 l2
  rcases o5.form with ⟨_, h0⟩ | ⟨g5, c5, rfl, hg5, hgl5, hc5, hm5⟩
  · have := congrArg List.length h0
    rw [ints_len] at this
    simp at this
    rw [this] at hlen1; simp at hlen1
  rw [ints_len] at *
  have HPC := Lib.hid (own_int1 o5)
  clear o5
  unfold maxLen at hm5
  have hlR : R.1.length ≤ 9 := by omega
  obtain ⟨z, hz⟩ : ∃ z, R.1.length = z := ⟨_, rfl⟩
  have hmk := make_row (P := Tryz.prog) 23 9 i0 _ Tryz.underlying23 hi hz0 z (by rw [hz2]; omega) (by omega)
  have HZ := Lib.hid hz
  rw [hz] at hlen1 hlen2 hlR hc5 ⊢
  clear hz
  go_wp2_with fail
  have hf0 : filled 9 (w5.alloc (Obj.cells (madeCells #[.string ⟨#[]⟩] z) 9)) w5.heap.size z 0 (R.1.map (nameAt net)) := filled.made w5 _ _ _ (by rw [size_madeCells]; exact (Nat.mul_one _).symm) _
  have hb0 : Below w5.heap.size w5 (w5.alloc (Obj.cells (madeCells #[.string ⟨#[]⟩] z) 9)) := (Below.refl _ _).alloc (Nat.le_refl _) _
  generalize w5.alloc (Obj.cells (madeCells #[.string ⟨#[]⟩] z) 9) = w0 at *
  clear hmk
  have hs5 := l5.size
  go_loopw [41] (fun i wr => ∃ k : Nat, k ≤ z ∧ i = .int .i64 k ∧ Below w5.heap.size w5 wr ∧ filled 9 wr w5.heap.size z k (R.1.map (nameAt net))) (fun i _ => z - (intOf i).toNat)
  case atStart => exact ⟨0, Nat.zero_le _, rfl, hb0, hf0⟩
  case round =>
    obtain ⟨k, hk, rfl, hbl, hf⟩ := hrel
    obtain ⟨w6, rfl⟩ : ∃ w6 : World, w6 = wr := ⟨_, rfl⟩
    clear hf0 hb0
    by_cases hlt : k < z
    · have hkR : k < R.1.length := by rw [HZ.out]; exact hlt
      have hjn := HIN.out R.1[k] (List.getElem_mem hkR)
      have cP := HPC.out k (by rw [ints_len]; exact hkR) w6 hbl
      rw [show (ints R.1)[k]'(by rw [ints_len]; exact hkR) = ((R.1[k] : Nat) : Int) by simp [ints]] at cP
      have hLk : (R.1.map (nameAt net))[k]'(by simpa using hkR) = nameAt net R.1[k] := by simp
      have HLN : Hid ((R.1.map (nameAt net)).length = z) := by show _ = _; rw [List.length_map, HZ.out]
      obtain ⟨bo, oo, A', c', rfl, hbo, hnm, _, c1, _⟩ := HR.out.ofcU R.1[k] hjn
      have c1 := c1 w6 (later_trans l5 hbl)
      have HST := Lib.hid (fun (W : World) (hF : filled 9 W w5.heap.size z k (R.1.map (nameAt net))) => hF.step (by rw [HLN.out]; exact hlt) (by rw [HLN.out]; exact Nat.le_refl _) (ecs := [.string net[R.1[k]].name]) (by rw [hLk, nameAt_of hjn]; exact ⟨hnm, rfl⟩))
      clear hLk
      generalize net[R.1[k]].name = x at *
      generalize R.1[k] = j at *
      obtain ⟨u0, g0⟩ := hf.cell (j := k) (by show _ < _ * 1; omega)
      have f0 := hf.free k
      have HFL := Lib.hid hf; clear hf
      have hji : (j : Int) < (net.length : Int) := by omega
      have hji0 : (0 : Int) ≤ (j : Int) := by omega
      go_wp2
      go_roundw
      case rel =>
        have := HST.out w6 HFL.out
        rw [show k * El.size ByteArray = k from Nat.mul_one k] at this
        exact ⟨k + 1, by omega, by go_num, hbl.trans (setAll_below [.string x] w6 k _ (Nat.le_refl _)), this⟩
      case measure => simp [intOf]; omega
    · have HE := Lib.hid (show k = z by omega)
      have HFL := Lib.hid hf; clear hf
      have HLN : Hid ((R.1.map (nameAt net)).length = z) := by show _ = _; rw [List.length_map, HZ.out]
      go_wp2
      go_ret2
      rw [HF.out]
      exact ⟨_, rfl, ((HE.out ▸ HFL.out : filled _ _ _ _ z _).own HLN.out.symm (Nat.le_refl _) (by unfold maxLen; omega)).base_ hs5, later_trans l5 hbl⟩



end Go.Proofs.YtpinkbodbedajaaGreatDoor

namespace Go.Proofs.YtpinkbodbedajaaGreatDoor
open Go.RowKit

theorem pathR_bad {net : List Ofc} {s c : ByteArray} (h : netOk net = false ∨ offI net s < 0 ∨ isCode c = false) : pathR net s c = ([], 3) := by
  refine pathR_no ?_
  unfold pathOk
  rcases h with h | h | h
  · rw [h]; rfl
  · rw [decide_eq_false (by omega)]; simp
  · rw [h]; simp
theorem ret_vi {v : Value} {a b : Int} (h : b = a) : Ending.returned (.tuple #[v, .int .i64 a]) = .returned (.tuple #[v, .int .i64 b]) := by rw [h]
set_option maxHeartbeats 800000 in
theorem spec_RoutePath (v : Value) (net : List Ofc) (s c : ByteArray) (w : World) (hv : rd w w.heap.size v net) (hcz : c.size ≤ maxLen) :
    Calls Tryz.prog 29 #[v, .string s, .string c] w fun e w' => ∃ v', e = .returned (.tuple #[v', .int .i64 (pathR net s c).2]) ∧ own 9 w.heap.size w' v' ((pathR net s c).1.map (nameAt net)) ∧ Below w.heap.size w w' := by
  have HV := Lib.hid hv; clear hv
  have l0 := Below.refl w.heap.size w
  obtain ⟨r, hr⟩ : ∃ r, offI net s = r := ⟨_, rfl⟩
  have HBAD := Lib.hid (fun h => pathR_bad (net := net) (s := s) (c := c) h)
  rw [hr] at HBAD
  have HRR := Lib.hid hr; clear hr
  have hoz : own (α := ByteArray) 9 w.heap.size (w.alloc (Obj.cells #[] 9)) (.slice (some ⟨w.heap.size, 0, none⟩) 0 0) [] := own.made0 w _ (Nat.le_refl _)
  have HOZ := Lib.hid hoz; clear hoz
  obtain ⟨P, hP⟩ : ∃ P, pathR net s c = P := ⟨_, rfl⟩
  have HP := Lib.hid hP
  rw [hP]
  clear hP
  go_enter Tryz.func29, Tryz.ntmps29
  go_wp2_with fail
  refine (spec_NetworkValid _ net _ HV.out).mono ?_
  rintro e w2 ⟨rfl, rfl⟩
  cases h1 : netOk net
  · have HF : Hid (P = ([], 3)) := by show _ = _; rw [← HP.out]; exact HBAD.out (.inl h1)
    clear h1
    go_wp2_with fail
    go_ret2
    exact ⟨_, ret_vi (by rw [HF.out]), by rw [HF.out]; exact HOZ.out, later_alloc l0 _⟩
  have H1 := Lib.hid h1; clear h1
  go_wp2_with fail
  refine (spec_l6Office _ net s _ HV.out).mono ?_
  rw [HRR.out]
  rintro e w1 ⟨rfl, rfl⟩
  by_cases hr0 : r < 0
  · have HF : Hid (P = ([], 3)) := by show _ = _; rw [← HP.out]; exact HBAD.out (.inr (.inl hr0))
    go_wp2_with fail
    go_ret2
    exact ⟨_, ret_vi (by rw [HF.out]), by rw [HF.out]; exact HOZ.out, later_alloc l0 _⟩
  go_wp2_with fail
  refine (spec_CodeValid c _ hcz).mono ?_
  rintro e w3 ⟨rfl, rfl⟩
  cases h2 : isCode c
  · have HF : Hid (P = ([], 3)) := by show _ = _; rw [← HP.out]; exact HBAD.out (.inr (.inr h2))
    clear h2
    go_wp2_with fail
    go_ret2
    exact ⟨_, ret_vi (by rw [HF.out]), by rw [HF.out]; exact HOZ.out, later_alloc l0 _⟩
  have H2 := Lib.hid h2; clear h2
  obtain ⟨q, hq⟩ := Int.eq_ofNat_of_zero_le (show 0 ≤ r by omega)
  subst hq
  obtain ⟨hql, hqn⟩ := offI_at HRR.out
  have HQN : Hid (nameAt net q = s) := by show _ = _; rw [nameAt_of hql, hqn]
  have HF : Hid (P = route net c q) := by show _ = _; rw [← HP.out]; exact pathR_yes H1.out HRR.out H2.out
  clear hqn hr0
  go_wp2_with fail
  refine (spec_l6Path _ net q s c _ HV.out H1.out hql HQN.out hcz).mono ?_
  rw [← HF.out]
  rintro e w3 ⟨v3, rfl, o3, b3⟩
  have HO3 := Lib.hid o3; clear o3
  obtain ⟨A3, n3, c3, rfl, -, -, -, -⟩ := HO3.out.rd
  go_wp2_with fail
  go_ret2
  exact ⟨_, rfl, HO3.out, b3⟩

end Go.Proofs.YtpinkbodbedajaaGreatDoor

namespace Go.Proofs.YtpinkbodbedajaaGreatDoor
open Go.RowKit

/-- A network that was drawn: of the call's own, or nothing. -/
def drN (T1 T2 b0 : Nat) (w : World) (v : Value) (net : List Ofc) : Prop := (∃ os, isN T1 T2 b0 w v net os) ∨ (net = [] ∧ ∃ A c, v = .slice A 0 c ∧ c ≤ maxLen)
section
variable {T1 T2 b0 : Nat} {w w' : World} {v : Value} {net : List Ofc}
theorem drN.rd (h : drN T1 T2 b0 w v net) : rd w w.heap.size v net := by
  rcases h with ⟨os, h⟩ | ⟨rfl, A, c, rfl, hc⟩
  · exact h.rd
  · exact ⟨A, 0, c, rfl, rfl, Nat.zero_le _, hc, fun k h => absurd h (Nat.not_lt_zero k)⟩
theorem drN.keepBlk (h : drN T1 T2 b0 w v net) (hk : ∀ k, b0 ≤ k → k < w.heap.size → w'.heap[k]? = w.heap[k]?) : drN T1 T2 b0 w' v net := by
  rcases h with ⟨os, h⟩ | h
  · exact .inl ⟨os, h.keepBlk hk⟩
  · exact .inr h
theorem drN.grown {g : Nat} (h : drN T1 T2 b0 w v net) (hg : w.grownBy w' (some g)) (hlt : g < b0) : drN T1 T2 b0 w' v net :=
  h.keepBlk fun k h1 h2 => hg.block k h2 (fun e => by injection e; omega)
theorem drN.below (h : drN T1 T2 b0 w v net) (hb : Below w.heap.size w w') : drN T1 T2 b0 w' v net := h.keepBlk fun k _ h2 => hb.block k h2
theorem drN.base_ {b1 : Nat} (h : drN T1 T2 b0 w v net) (hb : b1 ≤ b0) : drN T1 T2 b1 w v net := by
  rcases h with ⟨os, h⟩ | h
  · exact .inl ⟨os, h.base_ hb⟩
  · exact .inr h
end
theorem kept2.toBelow {g b a : Nat} {u w : World} (h : kept2 g b u w) (h1 : a ≤ g) (h2 : a ≤ b) : Below a u w := ⟨h.os, h.tape, h.output, h.size, fun k hk => h.block k (by omega) (by omega)⟩

def l6BadNPost (T1 T2 g p b0 : Nat) (w : World) (e : Ending) (w' : World) : Prop :=
  ∃ (v' : Value) (net' : List Ofc) (p' : Nat), e = .returned v' ∧ drN T1 T2 b0 w' v' net' ∧ net'.length ≤ 4 ∧ (∀ k (h : k < net'.length), net'[k].rules.length ≤ 40) ∧ rdr w' g p' ∧ p' ≤ p + 12 ∧ kept2 g b0 w w'

set_option maxRecDepth 100000 in
set_option maxHeartbeats 2000000 in
theorem rd_l6Bad (g p b0 : Nat) (v : Value) (net : List Ofc) (os : List OfV) (w : World) (hr : rdr w g p) (hp : p ≤ 10000000000) (hv : isN 102 174 b0 w v net os) (hb0 : g < b0) (h2 : 2 ≤ net.length) (h4 : net.length ≤ 4) (h6 : ∀ k (h : k < net.length), net[k].rules.length ≤ 6) :
    Calls Tryz.prog 78 #[.pointer (some ⟨g, 0, none⟩), v] w (l6BadNPost 102 174 g p b0 w) := by
  have hlt := hr.lt
  obtain ⟨i0, hi, hz0, hzz1, hzz2⟩ := info_parts Tryz.infoRul
  rcases hv.form with ⟨_, h0⟩ | ⟨G, c, rfl, hG, hGl, hc, hm⟩
  · rw [h0] at h2; simp at h2
  have hon : os.length = net.length := hv.2.1
  unfold maxLen at hm
  have H6 := Lib.hid h6; clear h6
  have HV := Lib.hid hv; clear hv
  have hbw : b0 ≤ w.heap.size := by omega
  go_enter Tryz.func78, Tryz.ntmps78
  go_wp2_with fail
  refine (rd_pick g p net.length _ hr (by omega) (by unfold isI64; omega)).mono ?_
  rintro e w1 ⟨y, rfl, hy, hr1, hg1⟩
  obtain ⟨y0, y1⟩ := hy.2 (by omega)
  obtain ⟨k, rfl⟩ := Int.eq_ofNat_of_zero_le y0
  have k1 : kept2 g b0 w w1 := kept2.grown hg1 hbw
  have HV1 := Lib.hid (HV.out.keepBlk (w' := w1) fun j h1 h2 => hg1.block j h2 (fun e => by injection e; omega))
  have hz1 := hg1.size
  clear hy hg1
  go_wp2_with fail
  refine (rd_pick g (p + 1) 30 _ hr1 (by omega) (by unfold isI64; omega)).mono ?_
  rintro e w2 ⟨x, rfl, hx, hr2, hg2⟩
  have k2 := k1.step hg2 hbw
  have HV2 := Lib.hid (HV1.out.keepBlk (w' := w2) fun j h1 h2 => hg2.block j h2 (fun e => by injection e; omega))
  have hz2 := hg2.size
  have hlt2 := hr2.lt
  clear hx hg2 hr1 k1
  have hkl : k < net.length := by omega
  have hko : k < os.length := by omega
  have h6' : Hid (∀ j (h : j < net.length), net[j].rules.length ≤ 40) := fun j h => Nat.le_trans (H6.out j h) (by omega)
  by_cases c0 : x = 0
  · have d0 : (x == 0) = true := by simp [c0]
    clear c0
    go_wp2_with fail
    refine (rd_of 9 g (p + 1 + 1) _ [⟨#[]⟩, ⟨#[65]⟩, ⟨#[104, 101, 114, 101]⟩, ⟨#[97]⟩, ⟨#[122]⟩] _ (hr2.alloc _) (by omega) (list_str 9 (g + 1) w2 [⟨#[]⟩, ⟨#[65]⟩, ⟨#[104, 101, 114, 101]⟩, ⟨#[97]⟩, ⟨#[122]⟩] (by intro x hx; simp at hx; rcases hx with rfl | rfl | rfl | rfl | rfl <;> decide) (by decide) (by omega)) (by decide)).mono ?_
    rintro e w3 ⟨t, _, rfl, ht, hr3, hg3⟩
    replace hg3 := grown_trans (World.grownBy_alloc w2 _ _) hg3
    have HV3 := Lib.hid (HV2.out.keepBlk (w' := w3) fun j h1 h2 => hg3.block j h2 (fun e => by injection e; omega))
    obtain ⟨u1, g1⟩ := HV3.out.1.cellAt (j := k * 2) (by show _ < _ * 2; omega)
    have f1 := HV3.out.1.freeAt (k * 2)
    have HN := Lib.hid (HV3.out.setName (d := k) hko hkl ht)
    have HR : Hid (rdr (w3.setCell ⟨G, k * 2, none⟩ (.string t)) g (p + 1 + 1 + 1)) := hr3.grown (g' := G) (grown_setCell (World.grownBy.refl _ _) (.inl rfl) _) (by omega)
    have HB : Hid (kept2 g b0 w (w3.setCell ⟨G, k * 2, none⟩ (.string t))) := (k2.step hg3 hbw).trans (kept2.below ((Below.refl _ _).setCell (p := ⟨G, k * 2, none⟩) hG _))
    clear hg3 ht
    go_wp2_with fail
    go_ret
    refine ⟨_, _, _, rfl, .inl ⟨_, HN.out⟩, by simp; omega, fun j hj => ?_, HR.out, by omega, HB.out⟩
    rw [List.getElem_set]
    split
    · rename_i e; subst e; exact h6'.out k hkl
    · exact h6'.out j (by simpa using hj)
  have d0 : (x == 0) = false := by simp [c0]
  by_cases c1 : x = 1
  · have d1 : (x == 1) = true := by simp [c1]
    clear c1 c0
    obtain ⟨nm, hrow⟩ := HV2.out.2.2.1 k hko hkl
    obtain ⟨Ak, nk, ck, hvk, hnk, hck1, hck2, _⟩ := hrow.rd
    have hc1 := (own_ofv HV2.out.1 k hko).2.2
    rw [hvk] at hc1 hrow
    have hnk6 : nk ≤ 6 := by rw [hnk]; exact H6.out k hkl
    have HROW := Lib.hid hrow
    obtain ⟨ys, hys⟩ : ∃ ys, ys = net[k].rules := ⟨_, rfl⟩
    rw [← hys] at HROW hnk
    subst hnk
    have o1 : own 174 w2.heap.size (w2.alloc (Obj.cells #[.string ⟨#[57]⟩, .string ⟨#[122]⟩] 174)) (.slice (some ⟨w2.heap.size, 0, none⟩) 1 1) [(⟨⟨#[57]⟩, ⟨#[122]⟩⟩ : Fwd)] := own.made1 w2 174 [.string ⟨#[57]⟩, .string ⟨#[122]⟩] (⟨⟨#[57]⟩, ⟨#[122]⟩⟩ : Fwd) ⟨⟨by decide, by decide⟩, rfl⟩ (Nat.le_refl _)
    have HO1 := Lib.hid o1
    have hc1a : (w2.alloc (Obj.cells #[.string ⟨#[57]⟩, .string ⟨#[122]⟩] 174)).cell? ⟨G, k * 2 + 1, none⟩ = some (.slice Ak ys.length ck) := (World.cell?_alloc_lt w2 _ ⟨G, k * 2 + 1, none⟩ (by show G < w2.heap.size; omega)).trans hc1
    have hki : (0 : Int) ≤ (k : Int) := by omega
    have hkn : (k : Int) < (net.length : Int) := by omega
    clear o1 hrow nm hys
    go_wp2_with (at_builtin; refine wpList_appendAll (α := Fwd) rfl (.tmp 27) (.tmp 32) _ rfl w2.heap.size 174 i0 _ 32 Tryz.underlying100 hi hz0 hzz1 hzz2 rfl (by decide) (.slice (some ⟨w2.heap.size, 0, none⟩) 1 1) [(⟨⟨#[57]⟩, ⟨#[122]⟩⟩ : Fwd)] rfl HO1.out (.slice Ak ys.length ck) ys rfl _ (HROW.out.alloc _).rd (by unfold maxLen; simp; omega) (by simp; omega) (by simp) ?_; intro v5 w5 o5 g5 _)
    have c5 : kept2 g w2.heap.size w2 w5 := kept2.below (((Below.refl _ _).alloc (Nat.le_refl _) _).trans (below_append HO1.out g5 (by simp)))
    have hr5 : rdr w5 g (p + 1 + 1) := (hr2.alloc _).append HO1.out g5 hlt2
    clear g5
    go_wp2_with fail
    refine (rd_l6BadRules g (p + 1 + 1) w2.heap.size v5 _ w5 hr5 (by omega) o5 hlt2 (by simp; omega)).mono ?_
    rintro e w6 ⟨v6, zs, p6, rfl, o6, hl6, hr6, hp6, k6⟩
    have c6 := c5.trans k6
    have hz6 := c6.size
    have HV6 := Lib.hid (HV2.out.keepBlk (w' := w6) fun j h1 h2 => c6.block j h2 (by omega))
    obtain ⟨A6, n6, c6', hv6, hn6, _, _, _⟩ := o6.rd
    subst hn6 hv6
    obtain ⟨u1, g1⟩ := HV6.out.1.cellAt (j := k * 2 + 1) (by show _ < _ * 2; omega)
    have f1 := HV6.out.1.freeAt (k * 2 + 1)
    have hap : ∀ j, (Value.slice A6 zs.length c6').ownBlock = some j → w2.heap.size ≤ j := fun j hj => (o6.blk j hj).1
    have HN := Lib.hid (HV6.out.setRules (d := k) hko hkl (o6.base_ (show b0 ≤ w2.heap.size by omega)) (apart_ne fun j h1 h2 => by have := hap j h1; have := (HV2.out.1.blk j h2).2; omega) (fun i hi => apart_ne fun j h1 h2 => by have := hap j h1; have := ((HV2.out.2.2.1 i hi (by omega)).2.blk j h2).2; omega))
    have HR : Hid (rdr (w6.setCell ⟨G, k * 2 + 1, none⟩ (.slice A6 zs.length c6')) g p6) := hr6.grown (g' := G) (grown_setCell (World.grownBy.refl _ _) (.inl rfl) _) (by omega)
    have HB : Hid (kept2 g b0 w (w6.setCell ⟨G, k * 2 + 1, none⟩ (.slice A6 zs.length c6'))) := (k2.trans (c6.mono (by omega))).trans (kept2.below ((Below.refl _ _).setCell (p := ⟨G, k * 2 + 1, none⟩) hG _))
    clear hap o6 k6 c5 o5 hc1 hc1a
    go_wp2_with fail
    go_ret
    refine ⟨_, _, _, rfl, .inl ⟨_, HN.out⟩, by simp; omega, fun j hj => ?_, HR.out, by omega, HB.out⟩
    rw [List.getElem_set]
    split
    · exact hl6
    · exact h6'.out j (by simpa using hj)
  have d1 : (x == 1) = false := by simp [c1]
  by_cases c2 : x = 2
  · have d2 : (x == 2) = true := by simp [c2]
    clear c2 c1 c0
    go_wp2_with fail
    go_ret
    exact ⟨_, [], _, rfl, .inr ⟨rfl, _, _, rfl, by unfold maxLen; omega⟩, by simp, fun k h => absurd h (Nat.not_lt_zero k), hr2, by omega, k2⟩
  have d2 : (x == 2) = false := by simp [c2]
  clear c0 c1 c2
  go_wp2_with fail
  go_ret
  exact ⟨_, net, _, rfl, .inl ⟨os, HV2.out⟩, h4, h6'.out, hr2, by omega, k2⟩

/-- Drawn: a network, an office's name, a code. -/
def drawRPost (T1 T2 : Nat) (w : World) (e : Ending) (w' : World) : Prop :=
  ∃ (v : Value) (net : List Ofc) (s t : ByteArray), e = .returned (.tuple #[v, .string s, .string t]) ∧ drN T1 T2 w.heap.size w' v net ∧ net.length ≤ 4 ∧ (∀ k (h : k < net.length), net[k].rules.length ≤ 40) ∧ s.size ≤ maxLen ∧ t.size ≤ maxLen ∧ Below w.heap.size w w'

set_option maxRecDepth 100000 in
set_option maxHeartbeats 1000000 in
theorem draw_DrawRoutePath (v : Value) (bs : List UInt8) (w : World) (hv : rd w w.heap.size v bs) :
    Calls Tryz.prog 27 #[v] w (drawRPost 102 174 w) := by
  go_enter Tryz.func27, Tryz.ntmps27
  go_wp2_with fail
  refine (rd_open _ bs _ hv).mono ?_
  rintro e w1 ⟨g, rfl, hg, hr1, b1⟩
  have hlt := hr1.lt
  have hz1 := b1.size
  go_wp2_with fail
  refine (rd_l6Net g 0 _ hr1 (by omega)).mono ?_
  rintro e w2 ⟨v2, net, os, p2, rfl, hn2, hl2, hl4, hl6, _, hr2, hp2, hg2⟩
  have HN2 := Lib.hid hn2
  have HL6 := Lib.hid hl6
  have b2 : Below w.heap.size w w2 := b1.trans (below_of_grown hg2 hz1 (fun r e => by injection e; omega))
  have hz2 := hg2.size
  clear hn2 hl6 hg2 hr1 b1
  obtain ⟨A2, m2, c2, hv2, hm2, _, _, _⟩ := HN2.out.rd
  subst hm2 hv2
  go_wp2_with fail
  refine (rd_l6Bad g p2 w1.heap.size _ net os _ hr2 (by omega) HN2.out hlt hl2 hl4 HL6.out).mono ?_
  rintro e w3 ⟨v3, net3, p3, rfl, hn3, hl3, hr40, hr3, hp3, k3⟩
  have HN3 := Lib.hid hn3
  have HL40 := Lib.hid hr40
  have b3 : Below w.heap.size w w3 := b2.trans (k3.toBelow hg hz1)
  have hz3 := k3.size
  clear hn3 hr40 k3 hr2 b2
  obtain ⟨A3, m3, c3, hv3, hm3, _, _, _⟩ := HN3.out.rd
  subst hm3 hv3
  have hlt3 := hr3.lt
  go_wp2_with fail
  refine (rd_of 9 g p3 _ [⟨#[97]⟩, ⟨#[97]⟩, ⟨#[98]⟩, ⟨#[97]⟩, ⟨#[99]⟩, ⟨#[122]⟩] _ (hr3.alloc _) (by omega) (list_str 9 (g + 1) w3 [⟨#[97]⟩, ⟨#[97]⟩, ⟨#[98]⟩, ⟨#[97]⟩, ⟨#[99]⟩, ⟨#[122]⟩] (by intro x hx; simp only [List.mem_cons, List.not_mem_nil, or_false] at hx; rcases hx with rfl | rfl | rfl | rfl | rfl | rfl <;> decide) (by decide) (by omega)) (by decide)).mono ?_
  rintro e w4 ⟨s, _, rfl, hs, hr4, hg4⟩
  replace hg4 := grown_trans (World.grownBy_alloc w3 _ _) hg4
  have HN4 := Lib.hid (HN3.out.grown hg4 hlt)
  have b4 : Below w.heap.size w w4 := b3.trans (below_of_grown hg4 b3.size (fun r e => by injection e; omega))
  have HS := Lib.hid hs
  clear hg4 hr3 b3 hs
  go_wp2_with fail
  refine (rd_l6Head g (p3 + 1) _ hr4 (by omega)).mono ?_
  rintro e w5 ⟨t, rfl, ht7, hr5, hg5⟩
  have ht7a : 1 ≤ t.size := by have := ht7.1; omega
  have ht7b : t.size ≤ 7 := by have := ht7.1; omega
  clear ht7
  have HN5 := Lib.hid (HN4.out.grown hg5 hlt)
  have b5 : Below w.heap.size w w5 := b4.trans (below_of_grown hg5 b4.size (fun r e => by injection e; omega))
  clear hg5 hr4 b4
  go_wp2_with fail
  refine (rd_l1Bad g (p3 + 1 + 3) t _ hr5 (by omega) (by omega) (by omega)).mono ?_
  rintro e w6 ⟨u, rfl, hu, hr6, hg6⟩
  have HN6 := Lib.hid (HN5.out.grown hg6 hlt)
  have b6 : Below w.heap.size w w6 := b5.trans (below_of_grown hg6 b5.size (fun r e => by injection e; omega))
  have HU : Hid (u.size ≤ maxLen) := by show _ ≤ _; unfold maxLen; omega
  clear hg6 hr5 b5 hu
  go_wp2_with fail
  go_ret3
  exact ⟨_, net3, s, u, rfl, HN6.out.base_ hz1, hl3, HL40.out, HS.out, HU.out, b6⟩

def drawNPost (T1 T2 : Nat) (w : World) (e : Ending) (w' : World) : Prop :=
  ∃ (v : Value) (net : List Ofc) (s : ByteArray), e = .returned (.tuple #[v, .string s]) ∧ drN T1 T2 w.heap.size w' v net ∧ net.length ≤ 4 ∧ (∀ k (h : k < net.length), net[k].rules.length ≤ 40) ∧ s.size ≤ maxLen ∧ Below w.heap.size w w'
end Go.Proofs.YtpinkbodbedajaaGreatDoor

namespace Go.Proofs.YtpinkbodbedajaaGreatDoor
open Go.RowKit Go.ChangeShapes Go.WideShapes Go.Deep

/-- Whatever reads at type t reads as some x of α. -/
def Opens (P : Program) (t : TypeId) (α : Type) [El α] : Prop :=
  ∀ {H : Type} (enc : TypeId × Value → H) (w : World) (spare : Nat → Bool) (held : Bool) (fuel : Nat) (cs : List Value) (x : DataW H × List MemPlace),
    DataW.trod enc P w 0 spare held fuel t cs = some x → ∃ y : α, El.el w w.heap.size y cs

theorem list_of {α : Type} {p : Nat → α → Prop} : ∀ {n : Nat}, (∀ i, i < n → ∃ y, p i y) → ∃ xs : List α, xs.length = n ∧ ∀ i (h : i < xs.length), p i xs[i]
  | 0, _ => ⟨[], rfl, fun i h => absurd h (Nat.not_lt_zero i)⟩
  | n + 1, h => by
    obtain ⟨xs, hl, hp⟩ := list_of (n := n) (fun i hi => h i (by omega))
    obtain ⟨y, hy⟩ := h n (by omega)
    refine ⟨xs ++ [y], by simp [hl], fun i hi => ?_⟩
    by_cases hin : i < xs.length
    · rw [List.getElem_append_left hin]
      exact hp i hin
    · have : i = n := by simp at hi; omega
      subst this
      rw [List.getElem_append_right (by omega)]
      simpa [hl] using hy

theorem opens_row {α : Type} [El α] {P : Program} {t e : TypeId} (ht : P.underlying t = some (.slice e)) (hc : P.cellsOf e = El.size α) (hs : 0 < El.size α) (ho : Opens P e α)
    {H : Type} {enc : TypeId × Value → H} {w : World} {spare : Nat → Bool} {held : Bool} {fuel : Nat} {v : Value} {x : DataW H × List MemPlace}
    (h : DataW.trod enc P w 0 spare held fuel t [v] = some x) : ∃ xs : List α, rd w w.heap.size v xs := by
  rcases open_slice ht h with ⟨h0, _⟩ | ⟨a, len, cap, m, n, D, Pl, hcs, hb, hl, hm, hmm, hx, hi⟩
  · injection h0 with h0
    subst h0
    exact ⟨[], rd.nil_⟩
  · injection hcs with hv
    subst hv
    obtain ⟨xs, hxl, hxp⟩ := list_of (n := len) (p := fun i (y : α) => ∃ cs : List Value, El.el w w.heap.size y cs ∧ ∀ j u, cs[j]? = some u → w.cell? (a.add (i * El.size α + j)) = some u) (fun i hil => by
      obtain ⟨cs', hcc, hd⟩ := hi i (by rw [hmm]; split <;> omega)
      obtain ⟨y, hy⟩ := ho enc w spare held n cs' _ hd
      obtain ⟨_, hcl, hat⟩ := World.cells?_some hcc
      refine ⟨y, cs', hy, fun j u hu => ?_⟩
      have hj : j < P.cellsOf e := by
        rw [← hcl]
        exact (List.getElem?_eq_some_iff.1 hu).1
      have := hat j hj
      rw [← add_add, ← hc, this, hu])
    refine ⟨xs, some a, len, cap, rfl, hxl.symm, hl, hm, fun k hk => ?_⟩
    obtain ⟨cs, hel, hcell⟩ := hxp k hk
    have h0 : cs[0]? = some (cs[0]'(by rw [El.len hel]; exact hs)) := List.getElem?_eq_getElem _
    obtain ⟨b, o, spot⟩ := a
    have hc0 := hcell 0 _ h0
    have hspot : spot = none := by
      have h1 := hxp 0 (by omega)
      obtain ⟨cs1, hel1, hcell1⟩ := h1
      have h01 : cs1[0]? = some (cs1[0]'(by rw [El.len hel1]; exact hs)) := List.getElem?_eq_getElem _
      have := World.cell?_spot (hcell1 0 _ h01)
      simpa [Addr.add] using this
    subst hspot
    have hlt := World.block_lt_of_cell? _ _ hc0
    rw [block_of_add] at hlt
    exact ⟨b, o, cs, rfl, hlt, hel, fun j u hu => by have := hcell j u hu; rwa [add_lit] at this⟩

/-- The cells of a struct, field by field. -/
theorem trod_fields {H : Type} {enc : TypeId × Value → H} {P : Program} {w : World} {base : Nat} {spare : Nat → Bool} {held : Bool} {t : TypeId} {fs : Array Field} {fuel : Nat} {cs : List Value} {x : DataW H × List MemPlace}
    (ht : P.underlying t = some (.struct fs)) (h : DataW.trod enc P w base spare held fuel t cs = some x) :
    cs.length = P.cellsOf t ∧ ∀ (i : Nat) (f : Field), fs[i]? = some f → ∃ n y, DataW.trod enc P w base spare held n f.type ((cs.drop f.offset).take (P.cellsOf f.type)) = some y := by
  obtain ⟨xs, n, _, _, hlen, hl, hf⟩ := DataW.trod_struct ht h
  refine ⟨hlen, fun i f hi => ?_⟩
  have hil : i < xs.length := by rw [hl]; exact (Array.getElem?_eq_some_iff.1 hi).1
  exact ⟨n, xs[i], by rw [hf i f hi]; exact List.getElem?_eq_getElem hil⟩
theorem list2 {α : Type} {l : List α} (h : l.length = 2) : ∃ a b, l = [a, b] := by
  match l, h with
  | [a, b], _ => exact ⟨a, b, rfl⟩
theorem list3 {α : Type} {l : List α} (h : l.length = 3) : ∃ a b c, l = [a, b, c] := by
  match l, h with
  | [a, b, c], _ => exact ⟨a, b, c, rfl⟩
theorem list4 {α : Type} {l : List α} (h : l.length = 4) : ∃ a b c d, l = [a, b, c, d] := by
  match l, h with
  | [a, b, c, d], _ => exact ⟨a, b, c, d, rfl⟩
theorem list6 {α : Type} {l : List α} (h : l.length = 6) : ∃ a b c d e f, l = [a, b, c, d, e, f] := by
  match l, h with
  | [a, b, c, d, e, f], _ => exact ⟨a, b, c, d, e, f, rfl⟩

end Go.Proofs.YtpinkbodbedajaaGreatDoor

namespace Go.Proofs.YtpinkbodbedajaaGreatDoor
open Go.ChangeShapes Go.WideShapes Go.ChangeAt Go.RowKit

theorem opensByte : Opens Tryz.prog 5 UInt8 := by
  intro H enc w spare held fuel cs x h
  obtain ⟨n, rfl, _, wf⟩ := DataW.trod_int Tryz.underlying5 h
  simp [Lit.wf, IntKind.min, IntKind.max, IntKind.signed, IntKind.bits] at wf
  refine ⟨UInt8.ofNat n.toNat, ?_⟩
  show [Value.int .u8 n] = [Value.int .u8 ((UInt8.ofNat n.toNat).toNat : Int)]
  rw [UInt8.toNat_ofNat_of_lt' (by show n.toNat < 256; omega)]
  congr 2
  omega

end Go.Proofs.YtpinkbodbedajaaGreatDoor
