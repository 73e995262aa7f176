/- L0 B1 E1 -/
import Derived.Test.YtmangjjaijhcnaaQ1
import Derived.StillTailTactics
import Derived.Deep.RegionHeld3
import Derived.Handy
namespace Go.Proofs.Ytmangjjaijhcnaa
open Go.RowKit

structure Ltr where
  id : Int
  code : ByteArray

def isI64 (n : Int) : Prop := -9223372036854775808 ≤ n ∧ n ≤ 9223372036854775807
theorem wf_range {n : Int} (h : (Lit.int .i64 n).wf = true) : isI64 n := by
  simp [Lit.wf, IntKind.min, IntKind.max, IntKind.signed, IntKind.bits] at h
  unfold isI64
  omega
def Ltr.ok (x : Ltr) : Prop := isI64 x.id ∧ x.code.size ≤ maxLen
def Ltr.cells (x : Ltr) : List Value := [.int .i64 x.id, .string x.code]

instance elLtr : El Ltr where
  size := 2
  el _ _ x cs := x.ok ∧ cs = x.cells
  len h := by rw [h.2]; rfl
  more h _ := h
  keep h _ := h
  one h := by rw [h.2]; intro u hu; simp [Ltr.cells] at hu; rcases hu with rfl | rfl <;> rfl
instance flatLtr : Flat Ltr where
  free h := h

theorem rdA.ltr {w : World} {B : Nat} {A : Option Addr} {xs : List Ltr} (h : rdA w B A xs) (k : Nat) (hk : k < xs.length) :
    ∃ b o, A = some ⟨b, o, none⟩ ∧ b < B ∧ (xs[k]).ok ∧ w.cell? ⟨b, o + k * 2, none⟩ = some (.int .i64 (xs[k]).id) ∧ w.cell? ⟨b, o + k * 2 + 1, none⟩ = some (.string (xs[k]).code) := by
  obtain ⟨b, o, cs, hA, hb, ⟨hok, rfl⟩, hc⟩ := h k hk
  exact ⟨b, o, hA, hb, hok, by simpa [Ltr.cells, El.size] using hc 0 _ rfl, by simpa [Ltr.cells, El.size, Nat.add_assoc] using hc 1 _ rfl⟩

def goodL (xs : List Ltr) (k : Nat) : Bool :=
  match xs[k]? with
  | none => false
  | some x => decide (1 ≤ x.id) && decide (x.id ≤ 9999) && isCode x.code && (xs.take k).all (fun y => y.id != x.id)
def okB (xs : List Ltr) : Bool := decide (xs.length ≤ 60) && (List.range xs.length).all (goodL xs)

theorem okB_bad {xs : List Ltr} {k : Nat} (hk : k < xs.length) (h : goodL xs k = false) : okB xs = false := by
  unfold okB
  rw [Bool.and_eq_false_iff]
  exact .inr (List.all_eq_false.2 ⟨k, by simpa using hk, by simp [h]⟩)
theorem okB_good {xs : List Ltr} (h60 : xs.length ≤ 60) (h : ∀ j, j < xs.length → goodL xs j = true) : okB xs = true := by
  unfold okB
  simp [h60]
  exact h
theorem goodL_of {xs : List Ltr} {k : Nat} (hk : k < xs.length) : goodL xs k = (decide (1 ≤ xs[k].id) && decide (xs[k].id ≤ 9999) && isCode xs[k].code && (xs.take k).all (fun y => y.id != xs[k].id)) := by
  unfold goodL
  rw [List.getElem?_eq_getElem hk]
theorem take_all_succ {α : Type} {p : α → Bool} (xs : List α) (m : Nat) (h : m < xs.length) : (xs.take (m + 1)).all p = ((xs.take m).all p && p xs[m]) := by
  rw [List.take_succ_eq_append_getElem h, List.all_append]; simp
theorem take_all_bad {α : Type} {p : α → Bool} (xs : List α) (m k : Nat) (h : m < xs.length) (hk : m < k) (hp : p xs[m] = false) : (xs.take k).all p = false := by
  rw [List.all_eq_false]
  refine ⟨xs[m], ?_, by simp [hp]⟩
  rw [List.mem_take_iff_getElem]
  exact ⟨m, by omega, rfl⟩
theorem okB_iff {xs : List Ltr} : okB xs = true ↔ xs.length ≤ 60 ∧ ∀ k (h : k < xs.length), 1 ≤ xs[k].id ∧ xs[k].id ≤ 9999 ∧ isCode xs[k].code = true ∧ ∀ j (hj : j < k), xs[j].id ≠ xs[k].id := by
  unfold okB
  rw [Bool.and_eq_true, decide_eq_true_iff, List.all_eq_true]
  refine and_congr Iff.rfl ⟨fun h k hk => ?_, fun h k hk => ?_⟩
  · have := h k (by simpa using hk)
    rw [goodL_of hk] at this
    simp only [Bool.and_eq_true, decide_eq_true_iff] at this
    refine ⟨this.1.1.1, this.1.1.2, this.1.2, fun j hj => ?_⟩
    have hh := List.all_eq_true.1 this.2 xs[j] (by rw [List.mem_take_iff_getElem]; exact ⟨j, by omega, rfl⟩)
    simpa using hh
  · have hk' : k < xs.length := by simpa using hk
    obtain ⟨h1, h2, h3, h4⟩ := h k hk'
    rw [goodL_of hk']
    simp only [Bool.and_eq_true, decide_eq_true_iff]
    refine ⟨⟨⟨h1, h2⟩, h3⟩, List.all_eq_true.2 fun y hy => ?_⟩
    rw [List.mem_take_iff_getElem] at hy
    obtain ⟨j, hj, rfl⟩ := hy
    simpa using h4 j (by omega)

end Go.Proofs.Ytmangjjaijhcnaa

namespace Go.Proofs.Ytmangjjaijhcnaa
open Go.RowKit

set_option maxHeartbeats 400000 in
theorem impl_BatchValid (v : Value) (xs : List Ltr) (w : World) (hv : rd w w.heap.size v xs) :
    Calls Try.prog 40 #[v] w fun e w' => e = .returned (.bool (okB xs)) ∧ Below w.heap.size w w' := by
  obtain ⟨A, n, c, rfl, hn, hc, hm, hr⟩ := hv
  subst hn
  unfold maxLen at hm
  have HR := Lib.hid hr; clear hr
  go_enter Try.func40, Try.ntmps40
  by_cases h60 : 60 < xs.length
  · go_wp2
    go_ret
    exact ⟨ret_bool (by unfold okB; simp; omega), Below.refl _ _⟩
  · go_wp2
    go_loopw [12] (fun i wr => ∃ k : Nat, k ≤ xs.length ∧ i = .int .i64 k ∧ Below w.heap.size w wr ∧ Hid (∀ j, j < k → goodL xs j = true)) (fun i _ => xs.length - (intOf i).toNat)
    case atStart => exact ⟨0, Nat.zero_le _, rfl, Below.refl _ _, fun j hj => absurd hj (Nat.not_lt_zero j)⟩
    case round =>
      obtain ⟨k, hk, rfl, hbl, HG⟩ := hrel
      obtain ⟨w1, rfl⟩ : ∃ w1 : World, w1 = wr := ⟨_, rfl⟩
      have hsz := hbl.size
      by_cases hlt : k < xs.length
      · obtain ⟨b, o, rfl, hb, ⟨⟨o1, o2⟩, o3⟩, c1, c2⟩ := HR.out.ltr k hlt
        have hG := Lib.hid (goodL_of hlt)
        have hbad := Lib.hid (fun h => okB_bad hlt h)
        have HX : Hid (∀ j (h : j < k), xs[j] = xs[j]'(by omega)) := fun _ _ => rfl
        have HT : Hid (xs.take k = xs.take k) := rfl
        generalize hx : xs[k] = x at *
        have HXK := Lib.hid hx; clear hx
        have c1' : w1.cell? ⟨b, o + k * 2, none⟩ = some (.int .i64 x.id) := (hbl.cell (p := ⟨b, o + k * 2, none⟩) hb).trans c1
        have c2' : w1.cell? ⟨b, o + k * 2 + 1, none⟩ = some (.string x.code) := (hbl.cell (p := ⟨b, o + k * 2 + 1, none⟩) hb).trans c2
        clear c1 c2
        by_cases h1 : x.id < 1
        · go_wp2
          go_ret
          exact ⟨ret_bool (hbad.out (by rw [hG.out]; simp; omega)).symm, hbl.alloc hsz _⟩
        by_cases h2 : 9999 < x.id
        · go_wp2
          go_ret
          exact ⟨ret_bool (hbad.out (by rw [hG.out]; simp; omega)).symm, hbl.alloc hsz _⟩
        cases hcd : isCode x.code
        · have hcd' := Lib.hid hcd; clear hcd
          go_wp2_with (go_at_call 77; refine (impl_CodeValid _ _ o3).mono ?_; rw [hcd'.out]; rintro e w' ⟨rfl, rfl⟩)
          go_ret
          exact ⟨ret_bool (hbad.out (by rw [hG.out, hcd'.out]; simp)).symm, hbl.alloc hsz _⟩
        · have hcd' := Lib.hid hcd; clear hcd
          go_wp2_with (go_at_call 77; refine (impl_CodeValid _ _ o3).mono ?_; rw [hcd'.out]; rintro e w' ⟨rfl, rfl⟩)
          obtain ⟨wo, hwo⟩ : ∃ wo : World, wo = w1.alloc (Obj.cells #[Value.int IntKind.i64 x.id, Value.string x.code] 55) := ⟨_, rfl⟩
          have g1 : wo.cell? ⟨w1.heap.size, 0, none⟩ = some (.int .i64 x.id) := by subst hwo; simp [go_sem]
          have hwz : wo.heap.size = w1.heap.size + 1 := by subst hwo; simp
          have hbo : Below w.heap.size w wo := by subst hwo; exact hbl.alloc hsz _
          rw [← hwo]
          have HZ := Lib.hid hwz
          have hwz2 : w1.heap.size < wo.heap.size := by omega
          clear hwo hwz
          go_loopw [35] (fun i wi => ∃ m : Nat, m ≤ k ∧ i = .int .i64 m ∧ Below wo.heap.size wo wi ∧ Hid ((xs.take m).all (fun y => y.id != x.id) = true)) (fun i _ => k - (intOf i).toNat)
          case atStart => exact ⟨0, Nat.zero_le _, rfl, Below.refl _ _, rfl⟩
          case round =>
            obtain ⟨m, hm, rfl, hbi, HA⟩ := hrel
            have hsi := hbi.size
            have hw2 := hbo.size
            have hw3 : w1.heap.size < wr.heap.size := by omega
            have hbw : Below w.heap.size w wr := hbo.trans (hbi.mono hw2)
            have g1' : wr.cell? ⟨w1.heap.size, 0, none⟩ = some (.int .i64 x.id) := (hbi.cell (p := ⟨w1.heap.size, 0, none⟩) hwz2).trans g1
            clear g1
            by_cases hmk : m < k
            · obtain ⟨b', o', hA, _, ⟨⟨p1, p2⟩, p3⟩, d1, d2⟩ := HR.out.ltr m (by omega)
              have hT := Lib.hid (take_all_succ (p := fun y : Ltr => y.id != x.id) xs m (by omega))
              have hI := Lib.hid (take_all_bad (p := fun y : Ltr => y.id != x.id) xs m k (by omega) hmk)
              generalize xs[m] = y at *
              injection hA with hA
              injection hA with hA1 hA2
              subst hA1 hA2
              have d1' : wr.cell? ⟨b, o + m * 2, none⟩ = some (.int .i64 y.id) := (hbw.cell (p := ⟨b, o + m * 2, none⟩) hb).trans d1
              have d2' : wr.cell? ⟨b, o + m * 2 + 1, none⟩ = some (.string y.code) := (hbw.cell (p := ⟨b, o + m * 2 + 1, none⟩) hb).trans d2
              clear d1 d2
              by_cases hyx : y.id = x.id
              · have hyx' : (y.id == x.id) = true := by simpa using hyx
                have HY := Lib.hid hyx; clear hyx
                go_wp2
                go_ret
                exact ⟨ret_bool (hbad.out (by rw [hG.out, hI.out (by simp [HY.out])]; simp)).symm, hbw.alloc (by omega) _⟩
              · have hyx' : (y.id == x.id) = false := by simpa using hyx
                have HY := Lib.hid hyx; clear hyx
                go_wp2
                go_roundw
                case rel => exact ⟨m + 1, by omega, by go_num, hbi.alloc hsi _, by show _ = true; rw [hT.out, HA.out]; simpa using HY.out⟩
                case measure => simp [intOf]; omega
            · have hme : m = k := by omega
              have HE := Lib.hid hme; clear hme
              go_wp2
              go_roundw
              case rel =>
                refine ⟨k + 1, by omega, by go_num, hbw, fun j hj => ?_⟩
                by_cases hjk : j < k
                · exact HG.out j hjk
                · obtain rfl : j = k := by omega
                  rw [hG.out, hcd'.out, ← HE.out, HA.out]; simp; omega
              case measure => simp [intOf]; omega
      · have hke : k = xs.length := by omega
        have HE := Lib.hid hke; clear hke
        go_wp2
        go_ret
        exact ⟨ret_bool (okB_good (by omega) (by rw [← HE.out]; exact HG.out)).symm, hbl⟩

set_option maxHeartbeats 400000 in
theorem spec_BatchValid (v : Value) (xs : List Ltr) (w : World) (hv : rd w w.heap.size v xs) :
    Calls Try.prog 53 #[v] w fun e w' => e = .returned (.bool (okB xs)) ∧ Below w.heap.size w w' := by
  obtain ⟨A, n, c, rfl, hn, hc, hm, hr⟩ := hv
  subst hn
  unfold maxLen at hm
  have HR := Lib.hid hr; clear hr
  go_enter Try.func53, Try.ntmps53
  go_wp2
  go_loopw [3] (fun i wr => ∃ k : Nat, k ≤ xs.length ∧ i = .int .i64 k ∧ Below w.heap.size w wr ∧ Hid (∀ j, j < k → goodL xs j = true)) (fun i _ => xs.length - (intOf i).toNat)
  case atStart => exact ⟨0, Nat.zero_le _, rfl, Below.refl _ _, fun j hj => absurd hj (Nat.not_lt_zero j)⟩
  case round =>
    obtain ⟨k, hk, rfl, hbl, HG⟩ := hrel
    obtain ⟨w1, rfl⟩ : ∃ w1 : World, w1 = wr := ⟨_, rfl⟩
    have hsz := hbl.size
    by_cases hlt : k < xs.length
    · obtain ⟨b, o, rfl, hb, ⟨⟨o1, o2⟩, o3⟩, c1, c2⟩ := HR.out.ltr k hlt
      have hG := Lib.hid (goodL_of hlt)
      have hbad := Lib.hid (fun h => okB_bad hlt h)
      generalize hx : xs[k] = x at *
      have HXK := Lib.hid hx; clear hx
      have c1' : w1.cell? ⟨b, o + k * 2, none⟩ = some (.int .i64 x.id) := (hbl.cell (p := ⟨b, o + k * 2, none⟩) hb).trans c1
      have c2' : w1.cell? ⟨b, o + k * 2 + 1, none⟩ = some (.string x.code) := (hbl.cell (p := ⟨b, o + k * 2 + 1, none⟩) hb).trans c2
      cases hcd : isCode x.code
      · have hcd' := Lib.hid hcd; clear hcd
        go_wp2_with (go_at_call 99; refine (spec_CodeValid _ _ o3).mono ?_; rw [hcd'.out]; rintro e w' ⟨rfl, rfl⟩)
        go_ret
        exact ⟨ret_bool (hbad.out (by rw [hG.out, hcd'.out]; simp)).symm, hbl⟩
      have hcd' := Lib.hid hcd; clear hcd
      cases hid : (decide (1 ≤ x.id) && decide (x.id ≤ 9999))
      · have hid' := Lib.hid hid; clear hid
        go_wp2_with (first | (go_at_call 99; refine (spec_CodeValid _ _ o3).mono ?_; rw [hcd'.out]; rintro e w' ⟨rfl, rfl⟩) | (go_at_call 103; refine (spec_l1In _ _ _ _).mono ?_; rw [hid'.out]; rintro e w' ⟨rfl, rfl⟩))
        go_ret
        exact ⟨ret_bool (hbad.out (by rw [hG.out, hid'.out]; simp)).symm, hbl⟩
      have hid' := Lib.hid hid; clear hid
      go_wp2_with (first | (go_at_call 99; refine (spec_CodeValid _ _ o3).mono ?_; rw [hcd'.out]; rintro e w' ⟨rfl, rfl⟩) | (go_at_call 103; refine (spec_l1In _ _ _ _).mono ?_; rw [hid'.out]; rintro e w' ⟨rfl, rfl⟩))
      go_loopw [4] (fun i wr => ∃ m : Nat, m ≤ k ∧ i = .int .i64 m ∧ Below w.heap.size w wr ∧ Hid ((xs.take m).all (fun y => y.id != x.id) = true)) (fun i _ => k - (intOf i).toNat)
      case atStart => exact ⟨0, Nat.zero_le _, rfl, hbl, rfl⟩
      case round =>
        obtain ⟨m, hm', rfl, hbw, HA⟩ := hrel
        have hsi := hbw.size
        clear c1' c2'
        have c1' : wr.cell? ⟨b, o + k * 2, none⟩ = some (.int .i64 x.id) := (hbw.cell (p := ⟨b, o + k * 2, none⟩) hb).trans c1
        by_cases hmk : m < k
        · obtain ⟨b', o', hA, _, _, d1, d2⟩ := HR.out.ltr m (by omega)
          have hT := Lib.hid (take_all_succ (p := fun y : Ltr => y.id != x.id) xs m (by omega))
          have hI := Lib.hid (take_all_bad (p := fun y : Ltr => y.id != x.id) xs m k (by omega) hmk)
          generalize xs[m] = y at *
          injection hA with hA
          injection hA with hA1 hA2
          subst hA1 hA2
          have d1' : wr.cell? ⟨b, o + m * 2, none⟩ = some (.int .i64 y.id) := (hbw.cell (p := ⟨b, o + m * 2, none⟩) hb).trans d1
          clear d1 d2 c1 c2
          have hml : (m : Int) < (xs.length : Int) := by omega
          have hkl : (k : Int) < (xs.length : Int) := by omega
          by_cases hyx : y.id = x.id
          · have hyx' : (y.id == x.id) = true := by simpa using hyx
            have HY := Lib.hid hyx; clear hyx
            go_wp2
            go_quiet (fail)
            go_wp2
            go_ret
            exact ⟨ret_bool (hbad.out (by rw [hG.out, hI.out (by simp [HY.out])]; simp)).symm, below_drewN hbw _⟩
          · have hyx' : (y.id == x.id) = false := by simpa using hyx
            have HY := Lib.hid hyx; clear hyx
            go_wp2
            go_quiet (fail)
            go_wp2
            go_roundw
            case rel => exact ⟨m + 1, by omega, by go_num, below_drewN hbw _, by show _ = true; rw [hT.out, HA.out]; simpa using HY.out⟩
            case measure => simp [intOf]; omega
        · have hme : m = k := by omega
          have HE := Lib.hid hme; clear hme
          go_wp2
          go_roundw
          case rel =>
            refine ⟨k + 1, by omega, by go_num, hbw, fun j hj => ?_⟩
            by_cases hjk : j < k
            · exact HG.out j hjk
            · obtain rfl : j = k := by omega
              rw [hG.out, hcd'.out, ← HE.out, HA.out, hid'.out]; rfl
          case measure => simp [intOf]; omega
    · have hke : k = xs.length := by omega
      have HE := Lib.hid hke; clear hke
      go_wp2
      go_ret
      exact ⟨ret_bool (by
        by_cases h60 : xs.length ≤ 60
        · rw [okB_good h60 (by rw [← HE.out]; exact HG.out), decide_eq_true (by omega)]
        · rw [decide_eq_false (by omega)]; unfold okB; rw [decide_eq_false h60]; rfl), hbl⟩

end Go.Proofs.Ytmangjjaijhcnaa

namespace Go.Proofs.Ytmangjjaijhcnaa
open Go.RowKit

def lessOr (l n : Int) : Int := if l < n then -1 else l - n
def sumSz (xs : List Ltr) : Nat := (xs.map fun x => x.code.size).sum
theorem sumSz_succ (xs : List Ltr) (k : Nat) (h : k < xs.length) : sumSz (xs.take (k + 1)) = sumSz (xs.take k) + xs[k].code.size := by
  unfold sumSz; rw [List.take_succ_eq_append_getElem h, List.map_append, List.sum_append]; simp
theorem sumSz_le (xs : List Ltr) (k : Nat) : sumSz (xs.take k) ≤ sumSz xs := by
  unfold sumSz
  conv => rhs; rw [← List.take_append_drop k xs, List.map_append, List.sum_append]
  omega

theorem laws_szLetter (x : Ltr) (l : Int) (w : World) (hx : x.code.size ≤ maxLen) (h0 : 0 ≤ l) (h1 : l ≤ 1048576) :
    Calls Try.prog 63 #[.agg #[.int .i64 x.id, .string x.code], .int .i64 l] w fun e w' => e = .returned (.int .i64 (lessOr l x.code.size)) ∧ Below w.heap.size w w' := by
  unfold maxLen at hx
  go_enter Try.func63, Try.ntmps63
  by_cases h : l < x.code.size
  · go_wp2
    go_ret
    exact ⟨ret_int (by unfold lessOr; rw [if_pos h]), (Below.refl _ _).alloc (Nat.le_refl _) _⟩
  · go_wp2
    go_ret
    exact ⟨ret_int (by unfold lessOr; rw [if_neg (by omega)]), (Below.refl _ _).alloc (Nat.le_refl _) _⟩

set_option maxHeartbeats 400000 in
theorem laws_szLetterS (v : Value) (xs : List Ltr) (l : Int) (w : World) (hv : rd w w.heap.size v xs) (h0 : 0 ≤ l) (h1 : l ≤ 1048576) :
    Calls Try.prog 17 #[v, .int .i64 l] w fun e w' => e = .returned (.int .i64 (lessOr l (xs.length + sumSz xs))) ∧ Below w.heap.size w w' := by
  obtain ⟨A, n, c, rfl, hn, hc, hm, hr⟩ := hv
  subst hn
  unfold maxLen at hm
  have HR := Lib.hid hr; clear hr
  go_enter Try.func17, Try.ntmps17
  by_cases h : l < xs.length
  · go_wp2
    go_ret
    exact ⟨ret_int (by unfold lessOr; rw [if_pos (by omega)]), Below.refl _ _⟩
  · go_wp2
    go_loopw [1, 5] (fun t i wr => ∃ (k : Nat) (m : Int), k ≤ xs.length ∧ i = .int .i64 k ∧ t = .int .i64 m ∧ 0 ≤ m ∧ m ≤ 1048576 ∧ Below w.heap.size w wr ∧ Hid (m = l - xs.length - sumSz (xs.take k))) (fun _ i _ => xs.length - (intOf i).toNat)
    case atStart => exact ⟨0, _, Nat.zero_le _, rfl, rfl, by omega, by omega, Below.refl _ _, by show _ = _; simp [sumSz]⟩
    case round =>
      obtain ⟨k, m, hk, rfl, rfl, m0, m1, hbl, HM⟩ := hrel
      obtain ⟨w1, rfl⟩ : ∃ w1 : World, w1 = wr := ⟨_, rfl⟩
      by_cases hlt : k < xs.length
      · obtain ⟨b, o, rfl, hb, ⟨⟨o1, o2⟩, o3⟩, c1, c2⟩ := HR.out.ltr k hlt
        have HS := Lib.hid (sumSz_succ xs k hlt)
        have HL := Lib.hid (sumSz_le xs (k + 1))
        generalize xs[k] = x at *
        have c1' : w1.cell? ⟨b, o + k * 2, none⟩ = some (.int .i64 x.id) := (hbl.cell (p := ⟨b, o + k * 2, none⟩) hb).trans c1
        have c2' : w1.cell? ⟨b, o + k * 2 + 1, none⟩ = some (.string x.code) := (hbl.cell (p := ⟨b, o + k * 2 + 1, none⟩) hb).trans c2
        clear c1 c2
        by_cases hs : m < x.code.size
        · have he : lessOr m x.code.size = -1 := by unfold lessOr; rw [if_pos hs]
          go_wp2_with (go_at_call 63; refine (laws_szLetter _ _ _ o3 m0 m1).mono ?_; rw [he]; rintro e w' ⟨rfl, hb1⟩)
          go_ret
          refine ⟨ret_int ?_, hbl.trans (hb1.mono hbl.size)⟩
          have := HM.out; have h2 := HS.out; have h3 := HL.out
          unfold lessOr; rw [if_pos (by omega)]
        · have he : lessOr m x.code.size = m - x.code.size := by unfold lessOr; rw [if_neg hs]
          have hnn : 0 ≤ m - (x.code.size : Int) := by omega
          have hnn2 : m - (x.code.size : Int) ≤ 1048576 := by omega
          go_wp2_with (go_at_call 63; refine (laws_szLetter _ _ _ o3 m0 m1).mono ?_; rw [he]; rintro e w' ⟨rfl, hb1⟩)
          go_roundw
          case rel =>
            refine ⟨k + 1, _, by omega, by go_num, rfl, hnn, hnn2, hbl.trans (hb1.mono hbl.size), ?_⟩
            show _ = _
            have := HM.out; have h2 := HS.out
            omega
          case measure => simp [intOf]; omega
      · have HE := Lib.hid (show k = xs.length by omega)
        go_wp2
        go_ret
        refine ⟨ret_int ?_, hbl⟩
        have := HM.out
        rw [HE.out, List.take_length] at this
        unfold lessOr; rw [if_neg (by omega)]; omega

theorem laws_toLetter (x : Ltr) (w : World) :
    Calls Try.prog 68 #[.agg #[.int .i64 x.id, .string x.code]] w fun e w' => e = .returned (.agg #[.int .i64 x.id, .string x.code]) ∧ Below w.heap.size w w' := by
  go_enter Try.func68, Try.ntmps68
  go_wp2
  refine bodyPost_ret (v := .agg #[.int .i64 x.id, .string x.code]) (by simp [results, Try.results68, go_sem]) rfl ⟨rfl, ?_⟩
  go_grown

def ltrEq (x y : Ltr) : Bool := x.id == y.id && sEq x.code y.code
theorem ltrEq_iff (x y : Ltr) : ltrEq x y = true ↔ x = y := by
  cases x; cases y; simp [ltrEq, sEq_iff]

theorem laws_eqLetter (x y : Ltr) (w : World) :
    Calls Try.prog 73 #[.agg #[.int .i64 x.id, .string x.code], .agg #[.int .i64 y.id, .string y.code]] w fun e w' => e = .returned (.bool (ltrEq x y)) ∧ Below w.heap.size w w' := by
  have hB : Below w.heap.size w ((w.alloc (Obj.cells #[Value.int IntKind.i64 x.id, Value.string x.code] 55)).alloc (Obj.cells #[Value.int IntKind.i64 y.id, Value.string y.code] 55)) := by
    exact ((Below.refl _ _).alloc (Nat.le_refl _) _).alloc (by simp) _
  by_cases h1 : x.id = y.id
  · have g1 : (x.id != y.id) = false := by simp [h1]
    have g1' := Lib.hid h1
    clear h1
    cases h2 : sEq x.code y.code
    · have h3 := Lib.hid h2
      unfold sEq at h2
      go_enter Try.func73, Try.ntmps73
      go_wp2
      go_ret
      exact ⟨ret_bool (by simp [ltrEq, h3.out]), hB⟩
    · have h3 := Lib.hid h2
      unfold sEq at h2
      go_enter Try.func73, Try.ntmps73
      go_wp2
      go_ret
      exact ⟨ret_bool (by simp [ltrEq, h3.out, g1'.out]), hB⟩
  · have g1 : (x.id != y.id) = true := by simp [h1]
    have g1' := Lib.hid h1
    clear h1
    go_enter Try.func73, Try.ntmps73
    go_wp2
    go_ret
    exact ⟨ret_bool (by simp [ltrEq, g1'.out]), hB⟩

set_option maxRecDepth 100000 in
set_option maxHeartbeats 400000 in
theorem laws_eqLetterS (v v' : Value) (xs ys : List Ltr) (w : World) (hv : rd w w.heap.size v xs) (hv' : rd w w.heap.size v' ys) :
    Calls Try.prog 23 #[v, v'] w fun e w' => e = .returned (.bool (eqBy ltrEq xs ys)) ∧ Below w.heap.size w w' := by
  obtain ⟨A, n, c, rfl, hn, hc, hm, hr⟩ := hv
  obtain ⟨A', n', c', rfl, hn', hc', hm', hr'⟩ := hv'
  subst hn hn'
  unfold maxLen at hm hm'
  have HR := Lib.hid hr; clear hr
  have HR' := Lib.hid hr'; clear hr'
  go_enter Try.func23, Try.ntmps23
  by_cases hl : xs.length = ys.length
  · have hl1 : ((xs.length : Int) != (ys.length : Int)) = false := by simp [hl]
    have HL := Lib.hid hl; clear hl
    go_wp2
    go_loopw [5] (fun i wr => ∃ k : Nat, k ≤ xs.length ∧ i = .int .i64 k ∧ Below w.heap.size w wr ∧ Hid (∀ j (h1 : j < xs.length) (h2 : j < ys.length), j < k → ltrEq xs[j] ys[j] = true)) (fun i _ => xs.length - (intOf i).toNat)
    case atStart => exact ⟨0, Nat.zero_le _, rfl, Below.refl _ _, fun j _ _ hj => absurd hj (Nat.not_lt_zero j)⟩
    case round =>
      obtain ⟨k, hk, rfl, hbl, HG⟩ := hrel
      obtain ⟨w1, rfl⟩ : ∃ w1 : World, w1 = wr := ⟨_, rfl⟩
      by_cases hlt : k < xs.length
      · have hlt' : k < ys.length := by rw [← HL.out]; exact hlt
        obtain ⟨b, o, rfl, hb, _, c1, c2⟩ := HR.out.ltr k hlt
        obtain ⟨b', o', rfl, hb', _, d1, d2⟩ := HR'.out.ltr k hlt'
        have hbad := Lib.hid (fun h => eqBy_bad (p := ltrEq) k hlt hlt' h)
        have HX : Hid (∀ h : ltrEq xs[k] ys[k] = true, ∀ j (h1 : j < xs.length) (h2 : j < ys.length), j < k + 1 → ltrEq xs[j] ys[j] = true) := fun h j h1 h2 hj => by
          by_cases hjk : j < k
          · exact HG.out j h1 h2 hjk
          · obtain rfl : j = k := by omega
            exact h
        generalize xs[k] = x at *
        generalize ys[k] = y at *
        have c1' : w1.cell? ⟨b, o + k * 2, none⟩ = some (.int .i64 x.id) := (hbl.cell (p := ⟨b, o + k * 2, none⟩) hb).trans c1
        have c2' : w1.cell? ⟨b, o + k * 2 + 1, none⟩ = some (.string x.code) := (hbl.cell (p := ⟨b, o + k * 2 + 1, none⟩) hb).trans c2
        have d1' : w1.cell? ⟨b', o' + k * 2, none⟩ = some (.int .i64 y.id) := (hbl.cell (p := ⟨b', o' + k * 2, none⟩) hb').trans d1
        have d2' : w1.cell? ⟨b', o' + k * 2 + 1, none⟩ = some (.string y.code) := (hbl.cell (p := ⟨b', o' + k * 2 + 1, none⟩) hb').trans d2
        clear c1 c2 d1 d2
        have hki : (k : Int) < (xs.length : Int) := by omega
        have hki' : (k : Int) < (ys.length : Int) := by omega
        have hb2 : Below w.heap.size w w1.drew := hbl.drew
        cases he : ltrEq x y
        · have he' := Lib.hid he; clear he
          go_wp2
          go_still_tail 8, (by kernel_rfl)
          change wpList _ _ _ _ _ w1.drew
          generalize w1.drew = w2 at *
          go_wp2_with (go_at_call 73; refine (laws_eqLetter _ _ _).mono ?_; rw [he'.out]; rintro e w' ⟨rfl, hb3⟩)
          go_ret
          exact ⟨ret_bool (hbad.out he'.out).symm, hb2.trans (hb3.mono hb2.size)⟩
        · have he' := Lib.hid he; clear he
          go_wp2
          go_still_tail 8, (by kernel_rfl)
          change wpList _ _ _ _ _ w1.drew
          generalize w1.drew = w2 at *
          go_wp2_with (go_at_call 73; refine (laws_eqLetter _ _ _).mono ?_; rw [he'.out]; rintro e w' ⟨rfl, hb3⟩)
          go_roundw
          case rel => exact ⟨k + 1, by omega, by go_num, hb2.trans (hb3.mono hb2.size), HX.out he'.out⟩
          case measure => simp [intOf]; omega
      · have HE := Lib.hid (show k = xs.length by omega)
        go_wp2
        go_ret
        exact ⟨ret_bool (eqBy_good HL.out fun j h1 h2 => HG.out j h1 h2 (by rw [HE.out]; exact h1)).symm, hbl⟩
  · have hl1 : ((xs.length : Int) != (ys.length : Int)) = true := by simp; omega
    have HL := Lib.hid hl; clear hl
    go_wp2
    go_ret
    exact ⟨ret_bool (eqBy_len HL.out).symm, Below.refl _ _⟩

end Go.Proofs.Ytmangjjaijhcnaa
