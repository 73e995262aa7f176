/- B1 E2 D0 -/
import Derived.Test.YtnlljekijlkigaaQ2
import Derived.Laws.BitsAllLaws
import Derived.Laws.BitsLemmas
namespace Go.Proofs.Ytnlljekijlkigaa
open Go.RowKit

set_option maxHeartbeats 400000 in
theorem impl_BatchValid (v : Value) (xs : List Ltr) (w : World) (hv : rd w w.heap.size v xs) :
    Calls Try.prog 19 #[v] w fun e w' => e = .returned (.bool (okB xs)) ∧ Below w.heap.size w w' := by
  obtain ⟨A, n, c, rfl, hn, hc, hm, hr⟩ := hv
  subst hn
  unfold maxLen at hm
  have HR := Lib.hid hr; clear hr
  go_enter Try.func19, Try.ntmps19
  by_cases h60 : 60 < xs.length
  · go_wp2
    go_ret
    exact ⟨ret_bool (by unfold okB; simp; omega), Below.refl _ _⟩
  · go_wp2
    go_loopw [12] (fun i wr => ∃ k : Nat, k ≤ xs.length ∧ i = .int .i64 k ∧ Below w.heap.size w wr ∧ Hid (∀ j, j < k → goodL xs j = true)) (fun i _ => xs.length - (intOf i).toNat)
    case atStart => exact ⟨0, Nat.zero_le _, rfl, Below.refl _ _, fun j hj => absurd hj (Nat.not_lt_zero j)⟩
    case round =>
      obtain ⟨k, hk, rfl, hbl, HG⟩ := hrel
      obtain ⟨w1, rfl⟩ : ∃ w1 : World, w1 = wr := ⟨_, rfl⟩
      have hsz := hbl.size
      by_cases hlt : k < xs.length
      · obtain ⟨b, o, rfl, hb, ⟨⟨o1, o2⟩, o3⟩, c1, c2⟩ := HR.out.ltr k hlt
        have hG := Lib.hid (goodL_of hlt)
        have hbad := Lib.hid (fun h => okB_bad hlt h)
        have HX : Hid (∀ j (h : j < k), xs[j] = xs[j]'(by omega)) := fun _ _ => rfl
        have HT : Hid (xs.take k = xs.take k) := rfl
        generalize hx : xs[k] = x at *
        have HXK := Lib.hid hx; clear hx
        have c1' : w1.cell? ⟨b, o + k * 2, none⟩ = some (.int .i64 x.id) := (hbl.cell (p := ⟨b, o + k * 2, none⟩) hb).trans c1
        have c2' : w1.cell? ⟨b, o + k * 2 + 1, none⟩ = some (.string x.code) := (hbl.cell (p := ⟨b, o + k * 2 + 1, none⟩) hb).trans c2
        clear c1 c2
        by_cases h1 : x.id < 1
        · go_wp2
          go_ret
          exact ⟨ret_bool (hbad.out (by rw [hG.out]; simp; omega)).symm, hbl.alloc hsz _⟩
        by_cases h2 : 9999 < x.id
        · go_wp2
          go_ret
          exact ⟨ret_bool (hbad.out (by rw [hG.out]; simp; omega)).symm, hbl.alloc hsz _⟩
        cases hcd : isCode x.code
        · have hcd' := Lib.hid hcd; clear hcd
          go_wp2_with (go_at_call 37; refine (impl_CodeValid _ _ o3).mono ?_; rw [hcd'.out]; rintro e w' ⟨rfl, rfl⟩)
          go_ret
          exact ⟨ret_bool (hbad.out (by rw [hG.out, hcd'.out]; simp)).symm, hbl.alloc hsz _⟩
        · have hcd' := Lib.hid hcd; clear hcd
          go_wp2_with (go_at_call 37; refine (impl_CodeValid _ _ o3).mono ?_; rw [hcd'.out]; rintro e w' ⟨rfl, rfl⟩)
          obtain ⟨wo, hwo⟩ : ∃ wo : World, wo = w1.alloc (Obj.cells #[Value.int IntKind.i64 x.id, Value.string x.code] 49) := ⟨_, rfl⟩
          have g1 : wo.cell? ⟨w1.heap.size, 0, none⟩ = some (.int .i64 x.id) := by subst hwo; simp [go_sem]
          have hwz : wo.heap.size = w1.heap.size + 1 := by subst hwo; simp
          have hbo : Below w.heap.size w wo := by subst hwo; exact hbl.alloc hsz _
          rw [← hwo]
          have HZ := Lib.hid hwz
          have hwz2 : w1.heap.size < wo.heap.size := by omega
          clear hwo hwz
          go_loopw [35] (fun i wi => ∃ m : Nat, m ≤ k ∧ i = .int .i64 m ∧ Below wo.heap.size wo wi ∧ Hid ((xs.take m).all (fun y => y.id != x.id) = true)) (fun i _ => k - (intOf i).toNat)
          case atStart => exact ⟨0, Nat.zero_le _, rfl, Below.refl _ _, rfl⟩
          case round =>
            obtain ⟨m, hm, rfl, hbi, HA⟩ := hrel
            have hsi := hbi.size
            have hw2 := hbo.size
            have hw3 : w1.heap.size < wr.heap.size := by omega
            have hbw : Below w.heap.size w wr := hbo.trans (hbi.mono hw2)
            have g1' : wr.cell? ⟨w1.heap.size, 0, none⟩ = some (.int .i64 x.id) := (hbi.cell (p := ⟨w1.heap.size, 0, none⟩) hwz2).trans g1
            clear g1
            by_cases hmk : m < k
            · obtain ⟨b', o', hA, _, ⟨⟨p1, p2⟩, p3⟩, d1, d2⟩ := HR.out.ltr m (by omega)
              have hT := Lib.hid (take_all_succ (p := fun y : Ltr => y.id != x.id) xs m (by omega))
              have hI := Lib.hid (take_all_bad (p := fun y : Ltr => y.id != x.id) xs m k (by omega) hmk)
              generalize xs[m] = y at *
              injection hA with hA
              injection hA with hA1 hA2
              subst hA1 hA2
              have d1' : wr.cell? ⟨b, o + m * 2, none⟩ = some (.int .i64 y.id) := (hbw.cell (p := ⟨b, o + m * 2, none⟩) hb).trans d1
              have d2' : wr.cell? ⟨b, o + m * 2 + 1, none⟩ = some (.string y.code) := (hbw.cell (p := ⟨b, o + m * 2 + 1, none⟩) hb).trans d2
              clear d1 d2
              by_cases hyx : y.id = x.id
              · have hyx' : (y.id == x.id) = true := by simpa using hyx
                have HY := Lib.hid hyx; clear hyx
                go_wp2
                go_ret
                exact ⟨ret_bool (hbad.out (by rw [hG.out, hI.out (by simp [HY.out])]; simp)).symm, hbw.alloc (by omega) _⟩
              · have hyx' : (y.id == x.id) = false := by simpa using hyx
                have HY := Lib.hid hyx; clear hyx
                go_wp2
                go_roundw
                case rel => exact ⟨m + 1, by omega, by go_num, hbi.alloc hsi _, by show _ = true; rw [hT.out, HA.out]; simpa using HY.out⟩
                case measure => simp [intOf]; omega
            · have hme : m = k := by omega
              have HE := Lib.hid hme; clear hme
              go_wp2
              go_roundw
              case rel =>
                refine ⟨k + 1, by omega, by go_num, hbw, fun j hj => ?_⟩
                by_cases hjk : j < k
                · exact HG.out j hjk
                · obtain rfl : j = k := by omega
                  rw [hG.out, hcd'.out, ← HE.out, HA.out]; simp; omega
              case measure => simp [intOf]; omega
      · have hke : k = xs.length := by omega
        have HE := Lib.hid hke; clear hke
        go_wp2
        go_ret
        exact ⟨ret_bool (okB_good (by omega) (by rw [← HE.out]; exact HG.out)).symm, hbl⟩

set_option maxHeartbeats 400000 in
theorem spec_BatchValid (v : Value) (xs : List Ltr) (w : World) (hv : rd w w.heap.size v xs) :
    Calls Try.prog 72 #[v] w fun e w' => e = .returned (.bool (okB xs)) ∧ Below w.heap.size w w' := by
  obtain ⟨A, n, c, rfl, hn, hc, hm, hr⟩ := hv
  subst hn
  unfold maxLen at hm
  have HR := Lib.hid hr; clear hr
  go_enter Try.func72, Try.ntmps72
  go_wp2
  go_loopw [3] (fun i wr => ∃ k : Nat, k ≤ xs.length ∧ i = .int .i64 k ∧ Below w.heap.size w wr ∧ Hid (∀ j, j < k → goodL xs j = true)) (fun i _ => xs.length - (intOf i).toNat)
  case atStart => exact ⟨0, Nat.zero_le _, rfl, Below.refl _ _, fun j hj => absurd hj (Nat.not_lt_zero j)⟩
  case round =>
    obtain ⟨k, hk, rfl, hbl, HG⟩ := hrel
    obtain ⟨w1, rfl⟩ : ∃ w1 : World, w1 = wr := ⟨_, rfl⟩
    have hsz := hbl.size
    by_cases hlt : k < xs.length
    · obtain ⟨b, o, rfl, hb, ⟨⟨o1, o2⟩, o3⟩, c1, c2⟩ := HR.out.ltr k hlt
      have hG := Lib.hid (goodL_of hlt)
      have hbad := Lib.hid (fun h => okB_bad hlt h)
      generalize hx : xs[k] = x at *
      have HXK := Lib.hid hx; clear hx
      have c1' : w1.cell? ⟨b, o + k * 2, none⟩ = some (.int .i64 x.id) := (hbl.cell (p := ⟨b, o + k * 2, none⟩) hb).trans c1
      have c2' : w1.cell? ⟨b, o + k * 2 + 1, none⟩ = some (.string x.code) := (hbl.cell (p := ⟨b, o + k * 2 + 1, none⟩) hb).trans c2
      cases hcd : isCode x.code
      · have hcd' := Lib.hid hcd; clear hcd
        go_wp2_with (go_at_call 93; refine (spec_CodeValid _ _ o3).mono ?_; rw [hcd'.out]; rintro e w' ⟨rfl, rfl⟩)
        go_ret
        exact ⟨ret_bool (hbad.out (by rw [hG.out, hcd'.out]; simp)).symm, hbl⟩
      have hcd' := Lib.hid hcd; clear hcd
      cases hid : (decide (1 ≤ x.id) && decide (x.id ≤ 9999))
      · have hid' := Lib.hid hid; clear hid
        go_wp2_with (first | (go_at_call 93; refine (spec_CodeValid _ _ o3).mono ?_; rw [hcd'.out]; rintro e w' ⟨rfl, rfl⟩) | (go_at_call 128; refine (spec_l1In _ _ _ _).mono ?_; rw [hid'.out]; rintro e w' ⟨rfl, rfl⟩))
        go_ret
        exact ⟨ret_bool (hbad.out (by rw [hG.out, hid'.out]; simp)).symm, hbl⟩
      have hid' := Lib.hid hid; clear hid
      go_wp2_with (first | (go_at_call 93; refine (spec_CodeValid _ _ o3).mono ?_; rw [hcd'.out]; rintro e w' ⟨rfl, rfl⟩) | (go_at_call 128; refine (spec_l1In _ _ _ _).mono ?_; rw [hid'.out]; rintro e w' ⟨rfl, rfl⟩))
      go_loopw [4] (fun i wr => ∃ m : Nat, m ≤ k ∧ i = .int .i64 m ∧ Below w.heap.size w wr ∧ Hid ((xs.take m).all (fun y => y.id != x.id) = true)) (fun i _ => k - (intOf i).toNat)
      case atStart => exact ⟨0, Nat.zero_le _, rfl, hbl, rfl⟩
      case round =>
        obtain ⟨m, hm', rfl, hbw, HA⟩ := hrel
        have hsi := hbw.size
        clear c1' c2'
        have c1' : wr.cell? ⟨b, o + k * 2, none⟩ = some (.int .i64 x.id) := (hbw.cell (p := ⟨b, o + k * 2, none⟩) hb).trans c1
        by_cases hmk : m < k
        · obtain ⟨b', o', hA, _, _, d1, d2⟩ := HR.out.ltr m (by omega)
          have hT := Lib.hid (take_all_succ (p := fun y : Ltr => y.id != x.id) xs m (by omega))
          have hI := Lib.hid (take_all_bad (p := fun y : Ltr => y.id != x.id) xs m k (by omega) hmk)
          generalize xs[m] = y at *
          injection hA with hA
          injection hA with hA1 hA2
          subst hA1 hA2
          have d1' : wr.cell? ⟨b, o + m * 2, none⟩ = some (.int .i64 y.id) := (hbw.cell (p := ⟨b, o + m * 2, none⟩) hb).trans d1
          clear d1 d2 c1 c2
          have hml : (m : Int) < (xs.length : Int) := by omega
          have hkl : (k : Int) < (xs.length : Int) := by omega
          by_cases hyx : y.id = x.id
          · have hyx' : (y.id == x.id) = true := by simpa using hyx
            have HY := Lib.hid hyx; clear hyx
            go_wp2
            go_quiet (fail)
            go_wp2
            go_ret
            exact ⟨ret_bool (hbad.out (by rw [hG.out, hI.out (by simp [HY.out])]; simp)).symm, below_drewN hbw _⟩
          · have hyx' : (y.id == x.id) = false := by simpa using hyx
            have HY := Lib.hid hyx; clear hyx
            go_wp2
            go_quiet (fail)
            go_wp2
            go_roundw
            case rel => exact ⟨m + 1, by omega, by go_num, below_drewN hbw _, by show _ = true; rw [hT.out, HA.out]; simpa using HY.out⟩
            case measure => simp [intOf]; omega
        · have hme : m = k := by omega
          have HE := Lib.hid hme; clear hme
          go_wp2
          go_roundw
          case rel =>
            refine ⟨k + 1, by omega, by go_num, hbw, fun j hj => ?_⟩
            by_cases hjk : j < k
            · exact HG.out j hjk
            · obtain rfl : j = k := by omega
              rw [hG.out, hcd'.out, ← HE.out, HA.out, hid'.out]; rfl
          case measure => simp [intOf]; omega
    · have hke : k = xs.length := by omega
      have HE := Lib.hid hke; clear hke
      go_wp2
      go_ret
      exact ⟨ret_bool (by
        by_cases h60 : xs.length ≤ 60
        · rw [okB_good h60 (by rw [← HE.out]; exact HG.out), decide_eq_true (by omega)]
        · rw [decide_eq_false (by omega)]; unfold okB; rw [decide_eq_false h60]; rfl), hbl⟩

end Go.Proofs.Ytnlljekijlkigaa

namespace Go.Proofs.Ytnlljekijlkigaa
open Go.RowKit

theorem Try.infoLtr : (Try.prog.info? 49).map (fun i => (i.zero, i.size, i.bytes)) = some (some (.agg #[.int .i64 0, .string ⟨#[]⟩]), 2, 24) := by kernel_rfl

set_option maxHeartbeats 400000 in
theorem laws_toLetterS (v : Value) (xs : List Ltr) (w : World) (hv : rd w w.heap.size v xs) (hl : xs.length ≤ 1048576) :
    Calls Try.prog 49 #[v] w fun e w' => ∃ v', e = .returned v' ∧ own 49 w.heap.size w' v' xs ∧ Below w.heap.size w w' := by
  obtain ⟨A, n, c, rfl, hn, hc, hm, hr⟩ := hv
  subst hn
  unfold maxLen at hm
  have HR := Lib.hid hr; clear hr
  obtain ⟨i0, hi, hz0, hz1, hz2⟩ := info_parts Try.infoLtr
  have hmk := make_row (P := Try.prog) 29 49 i0 _ Try.underlying29 hi hz0 xs.length (by rw [hz2]; omega) (by omega)
  go_enter Try.func49, Try.ntmps49
  go_wp2
  have hf0 : filled 49 (w.alloc (Obj.cells (madeCells #[Value.int IntKind.i64 0, Value.string ⟨#[]⟩] (xs.length * 2)) 49)) w.heap.size xs.length 0 xs := filled.made w _ _ _ (by rw [size_madeCells]; rfl) xs
  have hb0 : Below w.heap.size w (w.alloc (Obj.cells (madeCells #[Value.int IntKind.i64 0, Value.string ⟨#[]⟩] (xs.length * 2)) 49)) := (Below.refl _ _).alloc (Nat.le_refl _) _
  generalize w.alloc (Obj.cells (madeCells #[Value.int IntKind.i64 0, Value.string ⟨#[]⟩] (xs.length * 2)) 49) = w0 at *
  clear hmk
  go_loopw [4] (fun i wr => ∃ k : Nat, k ≤ xs.length ∧ i = .int .i64 k ∧ Below w.heap.size w wr ∧ filled 49 wr w.heap.size xs.length k xs) (fun i _ => xs.length - (intOf i).toNat)
  case atStart => exact ⟨0, Nat.zero_le _, rfl, hb0, hf0⟩
  case round =>
    obtain ⟨k, hk, rfl, hbl, hf⟩ := hrel
    obtain ⟨w1, rfl⟩ : ∃ w1 : World, w1 = wr := ⟨_, rfl⟩
    clear hf0 hb0
    by_cases hlt : k < xs.length
    · obtain ⟨b, o, rfl, hb, hok, c1, c2⟩ := HR.out.ltr k hlt
      have HST := Lib.hid (fun (W : World) (hF : filled 49 W w.heap.size xs.length k xs) => hF.step hlt (Nat.le_refl _) (ecs := xs[k].cells) ⟨hok, rfl⟩)
      generalize xs[k] = x at *
      have c1' : w1.cell? ⟨b, o + k * 2, none⟩ = some (.int .i64 x.id) := (hbl.cell (p := ⟨b, o + k * 2, none⟩) hb).trans c1
      have c2' : w1.cell? ⟨b, o + k * 2 + 1, none⟩ = some (.string x.code) := (hbl.cell (p := ⟨b, o + k * 2 + 1, none⟩) hb).trans c2
      clear c1 c2
      have HF := Lib.hid hf; clear hf
      go_wp2_with fail
      refine (laws_toLetter _ _).mono ?_
      rintro e w2 ⟨rfl, hb3⟩
      have hf2 := HF.out.below hb3
      have hb2 := hbl.trans (hb3.mono hbl.size)
      obtain ⟨u0, g0⟩ := hf2.cell (j := k * 2) (by show _ < _ * 2; omega)
      obtain ⟨u1, g1⟩ := hf2.cell (j := k * 2 + 1) (by show _ < _ * 2; omega)
      have f0 := hf2.free (k * 2)
      have f1 := hf2.free (k * 2 + 1)
      have HF2 := Lib.hid hf2; clear hf2
      go_wp2_with fail
      go_roundw
      case rel => exact ⟨k + 1, by omega, by go_num, hb2.trans (setAll_below x.cells w2 (k * 2) _ (Nat.le_refl _)), HST.out w2 HF2.out⟩
      case measure => simp [intOf]; omega
    · have HE := Lib.hid (show k = xs.length by omega)
      have HF := Lib.hid hf; clear hf
      go_wp2
      go_ret
      exact ⟨_, rfl, (HE.out ▸ HF.out : filled _ _ _ _ xs.length _).own rfl (Nat.le_refl _) (by unfold maxLen; omega), hbl⟩

/-- The decimal digits of a number; none of 0. -/
def dec10 : Nat → List UInt8
  | 0 => []
  | n + 1 => dec10 ((n + 1) / 10) ++ [UInt8.ofNat (48 + (n + 1) % 10)]
  decreasing_by omega
theorem dec10_len (n : Nat) : (dec10 n).length ≤ n := by
  induction n using Nat.strongRecOn with
  | _ n ih =>
    cases n with
    | zero => simp [dec10]
    | succ n =>
      have := ih ((n + 1) / 10) (by omega)
      rw [dec10, List.length_append, List.length_singleton]
      omega
theorem dec10_step {n : Nat} (h : 0 < n) : dec10 n = dec10 (n / 10) ++ [UInt8.ofNat (48 + n % 10)] := by
  cases n with
  | zero => omega
  | succ n => rw [dec10]
/-- 'markText': the letter m and the digits of k. -/
def markB (k : Nat) : ByteArray := if k = 0 then ⟨#[109, 48]⟩ else ⟨(109 :: dec10 k).toArray⟩

/-- 'byte(n)' -/
def b8 (n : Int) : UInt8 := UInt8.ofNat n.toNat
/-- 'string([]byte{x})' -/
theorem byteString (W : World) (n : Int) : (convert 22 9 (.slice (some ⟨W.heap.size, 0, none⟩) 1 1)).run Try.prog (W.alloc (.cells #[.int .u8 n] 5)) = .ok (.string ⟨#[b8 n]⟩) (W.alloc (.cells #[.int .u8 n] 5)) := by
  rw [run_convert_bytes_string _ _ _ 5 _ _ _ Try.underlying22 Try.underlying5 Try.underlying9]
  rw [run_bytesToString _ _ _ _ [n] (by
    refine run_loadCells_list _ _ [Value.int .u8 n] fun j v hj => ?_
    rw [add_lit, Nat.zero_add, cell_new]
    simpa using hj)]
  rfl
theorem ba_ext {a b : ByteArray} (h : a.data.toList = b.data.toList) : a = b := WideShapes.bytes_inj h
theorem ba_append (a b : ByteArray) : (a ++ b).data.toList = a.data.toList ++ b.data.toList := by simp

set_option maxHeartbeats 400000 in
theorem laws_markText (k : Nat) (w : World) (hk : k ≤ 1099511627776) :
    Calls Try.prog 116 #[.int .i64 k] w fun e w' => e = .returned (.string (markB k)) ∧ Below w.heap.size w w' := by
  have hbs := byteString
  go_enter Try.func116, Try.ntmps116
  by_cases h0 : k = 0
  · subst h0
    go_wp2
    go_ret
    exact ⟨rfl, Below.refl _ _⟩
  · have h1 : (0 : Int) < (k : Int) := by omega
    go_wp2
    go_loopw [0, 3] (fun n t wr => ∃ (m : Nat) (s : ByteArray), m ≤ k ∧ n = .int .i64 m ∧ t = .string s ∧ Below w.heap.size w wr ∧ Hid (dec10 k = dec10 m ++ s.data.toList)) (fun n _ _ => (intOf n).toNat)
    case atStart => exact ⟨k, _, Nat.le_refl _, rfl, rfl, Below.refl _ _, by show _ = _; simp⟩
    case round =>
      obtain ⟨m, s, hm, rfl, rfl, hbl, HD⟩ := hrel
      obtain ⟨w1, rfl⟩ : ∃ w1 : World, w1 = wr := ⟨_, rfl⟩
      have hsz : s.size ≤ 1099511627776 := by
        have h2 := dec10_len k
        rw [HD.out, List.length_append] at h2
        have h3 : s.data.toList.length = s.size := by rw [Array.length_toList]; rfl
        omega
      by_cases hm0 : 0 < m
      · have hmi : (0 : Int) < (m : Int) := by omega
        have hst := Lib.hid (dec10_step hm0)
        go_wp2
        go_roundw
        case rel =>
          refine ⟨m / 10, _, by omega, by go_num, rfl, hbl.alloc hbl.size _, ?_⟩
          show _ = _
          rw [HD.out, hst.out, ba_append, List.append_assoc]
          have hq : (48 + (m : Int) % 10).toNat = 48 + m % 10 := by omega
          show _ = _ ++ ([b8 (48 + (m : Int) % 10)] ++ _)
          unfold b8
          rw [hq]
        case measure => simp [intOf]; omega
      · have HE := Lib.hid (show m = 0 by omega)
        go_wp2
        go_ret
        refine ⟨ret_str ?_, hbl⟩
        have := HD.out
        rw [HE.out] at this
        unfold markB
        rw [if_neg h0, this]
        apply ba_ext
        simp [dec10]

end Go.Proofs.Ytnlljekijlkigaa

namespace Go.Proofs.Ytnlljekijlkigaa
open Go.RowKit

instance elByte : El UInt8 where
  size := 1
  el _ _ x cs := cs = [.int .u8 x.toNat]
  len h := by rw [h]; rfl
  more h _ := h
  keep h _ := h
  one h := by rw [h]; intro u hu; simp at hu; rw [hu]; rfl
instance flatByte : Flat UInt8 where
  free h := h
instance elInt : El Int where
  size := 1
  el _ _ x cs := isI64 x ∧ cs = [.int .i64 x]
  len h := by rw [h.2]; rfl
  more h _ := h
  keep h _ := h
  one h := by rw [h.2]; intro u hu; simp at hu; rw [hu]; rfl
instance flatInt : Flat Int where
  free h := h
theorem rdA.byte {w : World} {B : Nat} {A : Option Addr} {xs : List UInt8} (h : rdA w B A xs) (k : Nat) (hk : k < xs.length) :
    ∃ b o, A = some ⟨b, o, none⟩ ∧ b < B ∧ w.cell? ⟨b, o + k, none⟩ = some (.int .u8 (xs[k]).toNat) := by
  obtain ⟨b, o, cs, hA, hb, rfl, hc⟩ := h k hk
  exact ⟨b, o, hA, hb, by simpa [El.size] using hc 0 _ rfl⟩
theorem rdA.int {w : World} {B : Nat} {A : Option Addr} {xs : List Int} (h : rdA w B A xs) (k : Nat) (hk : k < xs.length) :
    ∃ b o, A = some ⟨b, o, none⟩ ∧ b < B ∧ isI64 xs[k] ∧ w.cell? ⟨b, o + k, none⟩ = some (.int .i64 xs[k]) := by
  obtain ⟨b, o, cs, hA, hb, ⟨hi, rfl⟩, hc⟩ := h k hk
  exact ⟨b, o, hA, hb, hi, by simpa [El.size] using hc 0 _ rfl⟩

/-- Block g is a source at its place p, over at most 2000 bytes that lie below g. -/
def rdr (w : World) (g p : Nat) : Prop :=
  ∃ (A : Option Addr) (n c : Nat) (bs : List UInt8), w.heap[g]? = some (.cells #[.slice A n c, .int .i64 (p : Int)] 144 (0, 0)) ∧ n = bs.length ∧ n ≤ 2000 ∧ n ≤ c ∧ c ≤ maxLen ∧ rdA w g A bs
theorem rdr.lt {w : World} {g p : Nat} (h : rdr w g p) : g < w.heap.size := by
  obtain ⟨_, _, _, _, h1, _⟩ := h
  exact (Array.getElem?_eq_some_iff.1 h1).1
theorem rdr.below {w w' : World} {g p : Nat} (h : rdr w g p) (hb : Below w.heap.size w w') : rdr w' g p := by
  have hlt := h.lt
  obtain ⟨A, n, c, bs, h1, h2, h3, h4, h5, h6⟩ := h
  exact ⟨A, n, c, bs, (hb.block g hlt).trans h1, h2, h3, h4, h5, h6.keep fun p hp => hb.cell (Nat.lt_trans hp hlt)⟩
/-- Only the source, and what is new, has turned. -/
theorem rdr.grown {w w' : World} {g p g' : Nat} (h : rdr w g p) (hg : w.grownBy w' (some g')) (hlt : g < g') : rdr w' g p := by
  have hlt' := h.lt
  obtain ⟨A, n, c, bs, h1, h2, h3, h4, h5, h6⟩ := h
  refine ⟨A, n, c, bs, (hg.block g hlt' (fun e => by injection e; omega)).trans h1, h2, h3, h4, h5, h6.keep fun q hq => ?_⟩
  exact World.cell?_of_block (hg.block q.block (by omega) (fun e => by injection e; omega))

theorem xor_nonneg (a b : Nat) (ha : a < 9223372036854775808) (hb : b < 9223372036854775808) : ∃ c : Nat, bits .xor .i64 (a : Int) (b : Int) = (c : Int) ∧ c < 9223372036854775808 := by
  have hx : a ^^^ b < 2 ^ 63 := Nat.xor_lt_two_pow (by omega) (by omega)
  have h1 : ∀ a : Nat, a < 9223372036854775808 → (BitVec.ofInt 64 (a : Int)).toNat = a := fun a ha => by
    rw [BitVec.ofInt_natCast, BitVec.toNat_ofNat]; exact Nat.mod_eq_of_lt (by omega)
  refine ⟨a ^^^ b, ?_, by omega⟩
  show IntKind.i64.wrap ((BitVec.ofInt 64 (a : Int) ^^^ BitVec.ofInt 64 (b : Int)).toNat : Int) = _
  rw [BitVec.toNat_xor, h1 a ha, h1 b hb, IntKind.wrap_i64]
  omega

/-- What 'pick' gives. -/
def picked (n x : Int) : Prop := (n < 1 → x = 0) ∧ (1 ≤ n → 0 ≤ x ∧ x < n)

set_option maxHeartbeats 1000000 in
theorem rd_pick (g p : Nat) (n : Int) (w : World) (hr : rdr w g p) (hp : p ≤ 1099511627776) (hn : isI64 n) :
    Calls Try.prog 118 #[.pointer (some ⟨g, 0, none⟩), .int .i64 n] w fun e w' => ∃ x : Int, e = .returned (.int .i64 x) ∧ picked n x ∧ rdr w' g (p + 1) ∧ w.grownBy w' (some g) := by
  have hlt := hr.lt
  obtain ⟨n1, n2⟩ := hn
  obtain ⟨A, m, c, bs, h1, rfl, h3, h4, h5, h6⟩ := hr
  have g0 : w.cell? ⟨g, 0, none⟩ = some (.slice A bs.length c) := by rw [cell_of_row _ _ _ _ _ _ h1]; rfl
  have g1 : w.cell? ⟨g, 1, none⟩ = some (.int .i64 p) := by rw [cell_of_row _ _ _ _ _ _ h1]; rfl
  have f0 : w.frozen? ⟨g, 1, none⟩ = false := by simp [World.frozen?, h1]
  have hr1 : rdr (w.setCell ⟨g, 1, none⟩ (.int .i64 ((p : Int) + 1))) g (p + 1) :=
    ⟨A, bs.length, c, bs, by simp [World.setCell, Array.getElem?_modify, h1], rfl, h3, h4, h5, h6.keep fun q hq => World.cell?_setCell_other _ _ _ _ (fun e => by subst e; simp at hq)⟩
  have hgr : w.grownBy (w.setCell ⟨g, 1, none⟩ (.int .i64 ((p : Int) + 1))) (some g) := grown_setCell (World.grownBy.refl _ _) (.inl rfl) _
  have HR := Lib.hid hr1; clear hr1
  have H6 := Lib.hid h6; clear h6
  have H1 := Lib.hid h1; clear h1
  have HG := Lib.hid hgr; clear hgr
  unfold maxLen at h5
  go_enter Try.func118, Try.ntmps118
  by_cases hn0 : n < 1
  · have HP : Hid (picked n 0) := ⟨fun _ => rfl, fun h => absurd hn0 (Int.not_lt.2 h)⟩
    go_wp2
    go_ret
    exact ⟨0, rfl, HP.out, HR.out, HG.out⟩
  by_cases hl0 : bs.length = 0
  · have hl0' : ((bs.length : Int) == 0) = true := by simp [hl0]
    have HL := Lib.hid hl0; clear hl0
    have HP : Hid (picked n 0) := ⟨fun _ => rfl, fun h => ⟨Int.le_refl _, Int.lt_of_lt_of_le (by decide) h⟩⟩
    go_wp2
    go_ret
    exact ⟨0, rfl, HP.out, HR.out, HG.out⟩
  have hl0' : ((bs.length : Int) == 0) = false := beq_eq_false_iff_ne.2 (by omega)
  by_cases hpl : p < bs.length
  · obtain ⟨b, o, rfl, hb, c1⟩ := H6.out.byte p hpl
    have hby : (bs[p].toNat : Int) ≤ 255 := by have := bs[p].toNat_lt; omega
    generalize bs[p] = u at *
    have c2 : (w.setCell ⟨g, 1, none⟩ (.int .i64 ((p : Int) + 1))).cell? ⟨b, o + p, none⟩ = some (.int .u8 u.toNat) := (World.cell?_setCell_other _ _ _ _ (fun e => by injection e; omega)).trans c1
    have hmod : 0 ≤ (u.toNat : Int) % n ∧ (u.toNat : Int) % n < n := ⟨Int.emod_nonneg _ (by omega), Int.emod_lt_of_pos _ (by omega)⟩
    have HM := Lib.hid hmod; clear hmod
    have HN := Lib.hid (Int.not_lt.1 hn0)
    go_wp2
    go_ret
    exact ⟨(u.toNat : Int) % n, rfl, ⟨fun h => absurd h (Int.not_lt.2 HN.out), fun _ => HM.out⟩, HR.out, HG.out⟩
  · have hL : 0 < bs.length := by omega
    have hm1 := Nat.mod_lt p hL
    have hm2 := Nat.mod_lt (p * 7 + 3) hL
    obtain ⟨b, o, rfl, hb, c1⟩ := H6.out.byte _ hm1
    obtain ⟨b', o', hA, _, d1⟩ := H6.out.byte _ hm2
    injection hA with hA
    injection hA with hA1 hA2
    subst hA1 hA2
    have hby1 : (bs[p % bs.length].toNat : Int) ≤ 255 := by have := bs[p % bs.length].toNat_lt; omega
    have hby2 : (bs[(p * 7 + 3) % bs.length].toNat : Int) ≤ 255 := by have := bs[(p * 7 + 3) % bs.length].toNat_lt; omega
    generalize bs[p % bs.length] = u at *
    generalize bs[(p * 7 + 3) % bs.length] = u' at *
    have hdv : p / bs.length ≤ p := Nat.div_le_self _ _
    have r1 : (p : Int).tmod (bs.length : Int) = ((p % bs.length : Nat) : Int) := by rw [Int.tmod_eq_emod_of_nonneg (by omega)]; rfl
    have r2 : ((p : Int) * 7 + 3).tmod (bs.length : Int) = (((p * 7 + 3) % bs.length : Nat) : Int) := by rw [Int.tmod_eq_emod_of_nonneg (by omega)]; rfl
    have r3 : (p : Int).tdiv (bs.length : Int) = ((p / bs.length : Nat) : Int) := by rw [Int.tdiv_eq_ediv_of_nonneg (by omega)]; rfl
    generalize hi1 : p % bs.length = i1 at *
    generalize hi2 : (p * 7 + 3) % bs.length = i2 at *
    generalize hi3 : p / bs.length = i3 at *
    clear hi1 hi2 hi3
    have c2 : (w.setCell ⟨g, 1, none⟩ (.int .i64 ((p : Int) + 1))).cell? ⟨b, o + i1, none⟩ = some (.int .u8 u.toNat) := (World.cell?_setCell_other _ _ _ _ (fun e => by injection e; omega)).trans c1
    have d2 : (w.setCell ⟨g, 1, none⟩ (.int .i64 ((p : Int) + 1))).cell? ⟨b, o + i2, none⟩ = some (.int .u8 u'.toNat) := (World.cell?_setCell_other _ _ _ _ (fun e => by injection e; omega)).trans d1
    have q1 : (i1 : Int) < (bs.length : Int) := by omega
    have q2 : (i2 : Int) < (bs.length : Int) := by omega
    go_wp2
    go_quiet (fail)
    have HN := Lib.hid (show 1 ≤ n by omega)
    go_wp2
    go_ret
    obtain ⟨y, hy, _⟩ := xor_nonneg (u.toNat * 131 + u'.toNat * 1117 + p * 29 + i3 * 53) ((u.toNat * 131 + u'.toNat * 1117 + p * 29 + i3 * 53) / 64) (by omega) (by omega)
    have hy' : bits BinOp.xor IntKind.i64 ((u.toNat : Int) * 131 + (u'.toNat : Int) * 1117 + (p : Int) * 29 + (i3 : Int) * 53) (((u.toNat : Int) * 131 + (u'.toNat : Int) * 1117 + (p : Int) * 29 + (i3 : Int) * 53) / 64) = (y : Int) := by
      rw [← hy]; congr 1
    refine ⟨_, rfl, ⟨fun h => absurd h (Int.not_lt.2 HN.out), fun h => ?_⟩, rdr.below HR.out (below_drewN (Below.refl _ _) nq), grown_drewN HG.out nq⟩
    rw [hy', Int.tmod_eq_emod_of_nonneg (by omega)]
    exact ⟨Int.emod_nonneg _ (by omega), Int.emod_lt_of_pos _ (by omega)⟩

end Go.Proofs.Ytnlljekijlkigaa
