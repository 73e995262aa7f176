/- What the laws do with letters: their size, a copy, a comparison. -/
import Derived.Test.YtiaepapdofcnjaaL0
import Derived.StillTailTactics
import Derived.Deep.RegionHeld3
import Derived.Handy
namespace Go.Proofs.Ytiaepapdofcnjaa
open Go.RowKit

def lessOr (l n : Int) : Int := if l < n then -1 else l - n
def sumSz (xs : List Ltr) : Nat := (xs.map fun x => x.code.size).sum
theorem sumSz_succ (xs : List Ltr) (k : Nat) (h : k < xs.length) : sumSz (xs.take (k + 1)) = sumSz (xs.take k) + xs[k].code.size := by
  unfold sumSz; rw [List.take_succ_eq_append_getElem h, List.map_append, List.sum_append]; simp
theorem sumSz_le (xs : List Ltr) (k : Nat) : sumSz (xs.take k) ≤ sumSz xs := by
  unfold sumSz
  conv => rhs; rw [← List.take_append_drop k xs, List.map_append, List.sum_append]
  omega

theorem laws_szLetter (x : Ltr) (l : Int) (w : World) (hx : x.code.size ≤ maxLen) (h0 : 0 ≤ l) (h1 : l ≤ 1048576) :
    Calls Try.prog 78 #[.agg #[.int .i64 x.id, .string x.code], .int .i64 l] w fun e w' => e = .returned (.int .i64 (lessOr l x.code.size)) ∧ Below w.heap.size w w' := by
  unfold maxLen at hx
  go_enter Try.func78, Try.ntmps78
  by_cases h : l < x.code.size
  · go_wp2
    go_ret
    exact ⟨ret_int (by unfold lessOr; rw [if_pos h]), (Below.refl _ _).alloc (Nat.le_refl _) _⟩
  · go_wp2
    go_ret
    exact ⟨ret_int (by unfold lessOr; rw [if_neg (by omega)]), (Below.refl _ _).alloc (Nat.le_refl _) _⟩

set_option maxHeartbeats 400000 in
theorem laws_szLetterS (v : Value) (xs : List Ltr) (l : Int) (w : World) (hv : rd w w.heap.size v xs) (h0 : 0 ≤ l) (h1 : l ≤ 1048576) :
    Calls Try.prog 27 #[v, .int .i64 l] w fun e w' => e = .returned (.int .i64 (lessOr l (xs.length + sumSz xs))) ∧ Below w.heap.size w w' := by
  obtain ⟨A, n, c, rfl, hn, hc, hm, hr⟩ := hv
  subst hn
  unfold maxLen at hm
  have HR := Lib.hid hr; clear hr
  go_enter Try.func27, Try.ntmps27
  by_cases h : l < xs.length
  · go_wp2
    go_ret
    exact ⟨ret_int (by unfold lessOr; rw [if_pos (by omega)]), Below.refl _ _⟩
  · go_wp2
    go_loopw [1, 5] (fun t i wr => ∃ (k : Nat) (m : Int), k ≤ xs.length ∧ i = .int .i64 k ∧ t = .int .i64 m ∧ 0 ≤ m ∧ m ≤ 1048576 ∧ Below w.heap.size w wr ∧ Hid (m = l - xs.length - sumSz (xs.take k))) (fun _ i _ => xs.length - (intOf i).toNat)
    case atStart => exact ⟨0, _, Nat.zero_le _, rfl, rfl, by omega, by omega, Below.refl _ _, by show _ = _; simp [sumSz]⟩
    case round =>
      obtain ⟨k, m, hk, rfl, rfl, m0, m1, hbl, HM⟩ := hrel
      obtain ⟨w1, rfl⟩ : ∃ w1 : World, w1 = wr := ⟨_, rfl⟩
      by_cases hlt : k < xs.length
      · obtain ⟨b, o, rfl, hb, ⟨⟨o1, o2⟩, o3⟩, c1, c2⟩ := HR.out.ltr k hlt
        have HS := Lib.hid (sumSz_succ xs k hlt)
        have HL := Lib.hid (sumSz_le xs (k + 1))
        generalize xs[k] = x at *
        have c1' : w1.cell? ⟨b, o + k * 2, none⟩ = some (.int .i64 x.id) := (hbl.cell (p := ⟨b, o + k * 2, none⟩) hb).trans c1
        have c2' : w1.cell? ⟨b, o + k * 2 + 1, none⟩ = some (.string x.code) := (hbl.cell (p := ⟨b, o + k * 2 + 1, none⟩) hb).trans c2
        clear c1 c2
        by_cases hs : m < x.code.size
        · have he : lessOr m x.code.size = -1 := by unfold lessOr; rw [if_pos hs]
          go_wp2_with (go_at_call 78; refine (laws_szLetter _ _ _ o3 m0 m1).mono ?_; rw [he]; rintro e w' ⟨rfl, hb1⟩)
          go_ret
          refine ⟨ret_int ?_, hbl.trans (hb1.mono hbl.size)⟩
          have := HM.out; have h2 := HS.out; have h3 := HL.out
          unfold lessOr; rw [if_pos (by omega)]
        · have he : lessOr m x.code.size = m - x.code.size := by unfold lessOr; rw [if_neg hs]
          have hnn : 0 ≤ m - (x.code.size : Int) := by omega
          have hnn2 : m - (x.code.size : Int) ≤ 1048576 := by omega
          go_wp2_with (go_at_call 78; refine (laws_szLetter _ _ _ o3 m0 m1).mono ?_; rw [he]; rintro e w' ⟨rfl, hb1⟩)
          go_roundw
          case rel =>
            refine ⟨k + 1, _, by omega, by go_num, rfl, hnn, hnn2, hbl.trans (hb1.mono hbl.size), ?_⟩
            show _ = _
            have := HM.out; have h2 := HS.out
            omega
          case measure => simp [intOf]; omega
      · have HE := Lib.hid (show k = xs.length by omega)
        go_wp2
        go_ret
        refine ⟨ret_int ?_, hbl⟩
        have := HM.out
        rw [HE.out, List.take_length] at this
        unfold lessOr; rw [if_neg (by omega)]; omega

theorem laws_toLetter (x : Ltr) (w : World) :
    Calls Try.prog 80 #[.agg #[.int .i64 x.id, .string x.code]] w fun e w' => e = .returned (.agg #[.int .i64 x.id, .string x.code]) ∧ Below w.heap.size w w' := by
  go_enter Try.func80, Try.ntmps80
  go_wp2
  refine bodyPost_ret (v := .agg #[.int .i64 x.id, .string x.code]) (by simp [results, Try.results80, go_sem]) rfl ⟨rfl, ?_⟩
  go_grown

def ltrEq (x y : Ltr) : Bool := x.id == y.id && sEq x.code y.code
theorem ltrEq_iff (x y : Ltr) : ltrEq x y = true ↔ x = y := by
  cases x; cases y; simp [ltrEq, sEq_iff]

theorem laws_eqLetter (x y : Ltr) (w : World) :
    Calls Try.prog 76 #[.agg #[.int .i64 x.id, .string x.code], .agg #[.int .i64 y.id, .string y.code]] w fun e w' => e = .returned (.bool (ltrEq x y)) ∧ Below w.heap.size w w' := by
  have hB : Below w.heap.size w ((w.alloc (Obj.cells #[Value.int IntKind.i64 x.id, Value.string x.code] 103)).alloc (Obj.cells #[Value.int IntKind.i64 y.id, Value.string y.code] 103)) := by
    exact ((Below.refl _ _).alloc (Nat.le_refl _) _).alloc (by simp) _
  by_cases h1 : x.id = y.id
  · have g1 : (x.id != y.id) = false := by simp [h1]
    have g1' := Lib.hid h1
    clear h1
    cases h2 : sEq x.code y.code
    · have h3 := Lib.hid h2
      unfold sEq at h2
      go_enter Try.func76, Try.ntmps76
      go_wp2
      go_ret
      exact ⟨ret_bool (by simp [ltrEq, h3.out]), hB⟩
    · have h3 := Lib.hid h2
      unfold sEq at h2
      go_enter Try.func76, Try.ntmps76
      go_wp2
      go_ret
      exact ⟨ret_bool (by simp [ltrEq, h3.out, g1'.out]), hB⟩
  · have g1 : (x.id != y.id) = true := by simp [h1]
    have g1' := Lib.hid h1
    clear h1
    go_enter Try.func76, Try.ntmps76
    go_wp2
    go_ret
    exact ⟨ret_bool (by simp [ltrEq, g1'.out]), hB⟩

set_option maxRecDepth 100000 in
set_option maxHeartbeats 400000 in
theorem laws_eqLetterS (v v' : Value) (xs ys : List Ltr) (w : World) (hv : rd w w.heap.size v xs) (hv' : rd w w.heap.size v' ys) :
    Calls Try.prog 20 #[v, v'] w fun e w' => e = .returned (.bool (eqBy ltrEq xs ys)) ∧ Below w.heap.size w w' := by
  obtain ⟨A, n, c, rfl, hn, hc, hm, hr⟩ := hv
  obtain ⟨A', n', c', rfl, hn', hc', hm', hr'⟩ := hv'
  subst hn hn'
  unfold maxLen at hm hm'
  have HR := Lib.hid hr; clear hr
  have HR' := Lib.hid hr'; clear hr'
  go_enter Try.func20, Try.ntmps20
  by_cases hl : xs.length = ys.length
  · have hl1 : ((xs.length : Int) != (ys.length : Int)) = false := by simp [hl]
    have HL := Lib.hid hl; clear hl
    go_wp2
    go_loopw [5] (fun i wr => ∃ k : Nat, k ≤ xs.length ∧ i = .int .i64 k ∧ Below w.heap.size w wr ∧ Hid (∀ j (h1 : j < xs.length) (h2 : j < ys.length), j < k → ltrEq xs[j] ys[j] = true)) (fun i _ => xs.length - (intOf i).toNat)
    case atStart => exact ⟨0, Nat.zero_le _, rfl, Below.refl _ _, fun j _ _ hj => absurd hj (Nat.not_lt_zero j)⟩
    case round =>
      obtain ⟨k, hk, rfl, hbl, HG⟩ := hrel
      obtain ⟨w1, rfl⟩ : ∃ w1 : World, w1 = wr := ⟨_, rfl⟩
      by_cases hlt : k < xs.length
      · have hlt' : k < ys.length := by rw [← HL.out]; exact hlt
        obtain ⟨b, o, rfl, hb, _, c1, c2⟩ := HR.out.ltr k hlt
        obtain ⟨b', o', rfl, hb', _, d1, d2⟩ := HR'.out.ltr k hlt'
        have hbad := Lib.hid (fun h => eqBy_bad (p := ltrEq) k hlt hlt' h)
        have HX : Hid (∀ h : ltrEq xs[k] ys[k] = true, ∀ j (h1 : j < xs.length) (h2 : j < ys.length), j < k + 1 → ltrEq xs[j] ys[j] = true) := fun h j h1 h2 hj => by
          by_cases hjk : j < k
          · exact HG.out j h1 h2 hjk
          · obtain rfl : j = k := by omega
            exact h
        generalize xs[k] = x at *
        generalize ys[k] = y at *
        have c1' : w1.cell? ⟨b, o + k * 2, none⟩ = some (.int .i64 x.id) := (hbl.cell (p := ⟨b, o + k * 2, none⟩) hb).trans c1
        have c2' : w1.cell? ⟨b, o + k * 2 + 1, none⟩ = some (.string x.code) := (hbl.cell (p := ⟨b, o + k * 2 + 1, none⟩) hb).trans c2
        have d1' : w1.cell? ⟨b', o' + k * 2, none⟩ = some (.int .i64 y.id) := (hbl.cell (p := ⟨b', o' + k * 2, none⟩) hb').trans d1
        have d2' : w1.cell? ⟨b', o' + k * 2 + 1, none⟩ = some (.string y.code) := (hbl.cell (p := ⟨b', o' + k * 2 + 1, none⟩) hb').trans d2
        clear c1 c2 d1 d2
        have hki : (k : Int) < (xs.length : Int) := by omega
        have hki' : (k : Int) < (ys.length : Int) := by omega
        have hb2 : Below w.heap.size w w1.drew := hbl.drew
        cases he : ltrEq x y
        · have he' := Lib.hid he; clear he
          go_wp2
          go_still_tail 8, (by kernel_rfl)
          change wpList _ _ _ _ _ w1.drew
          generalize w1.drew = w2 at *
          go_wp2_with (go_at_call 76; refine (laws_eqLetter _ _ _).mono ?_; rw [he'.out]; rintro e w' ⟨rfl, hb3⟩)
          go_ret
          exact ⟨ret_bool (hbad.out he'.out).symm, hb2.trans (hb3.mono hb2.size)⟩
        · have he' := Lib.hid he; clear he
          go_wp2
          go_still_tail 8, (by kernel_rfl)
          change wpList _ _ _ _ _ w1.drew
          generalize w1.drew = w2 at *
          go_wp2_with (go_at_call 76; refine (laws_eqLetter _ _ _).mono ?_; rw [he'.out]; rintro e w' ⟨rfl, hb3⟩)
          go_roundw
          case rel => exact ⟨k + 1, by omega, by go_num, hb2.trans (hb3.mono hb2.size), HX.out he'.out⟩
          case measure => simp [intOf]; omega
      · have HE := Lib.hid (show k = xs.length by omega)
        go_wp2
        go_ret
        exact ⟨ret_bool (eqBy_good HL.out fun j h1 h2 => HG.out j h1 h2 (by rw [HE.out]; exact h1)).symm, hbl⟩
  · have hl1 : ((xs.length : Int) != (ys.length : Int)) = true := by simp; omega
    have HL := Lib.hid hl; clear hl
    go_wp2
    go_ret
    exact ⟨ret_bool (eqBy_len HL.out).symm, Below.refl _ _⟩

end Go.Proofs.Ytiaepapdofcnjaa
