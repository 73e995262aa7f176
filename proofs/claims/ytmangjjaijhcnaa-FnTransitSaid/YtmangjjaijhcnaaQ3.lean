/- GMis E1 E2 -/
import Derived.Test.YtmangjjaijhcnaaQ2
import Derived.StillTailTactics
import Derived.Handy
import Derived.Deep.RegionHeld3
namespace Go.Proofs.Ytmangjjaijhcnaa
open Go.RowKit


def misEq (x y : Mis) : Bool := (x.id == y.id) && (x.bin == y.bin)
theorem misEq_iff (x y : Mis) : misEq x y = true ↔ x = y := by
  cases x; cases y; simp [misEq, sEq_iff]

theorem Try.infoMis : (Try.prog.info? 193).map (fun i => (i.zero, i.size, i.bytes)) = some (some (.agg #[.int .i64 0, .int .i64 0]), 2, 16) := by kernel_rfl



end Go.Proofs.Ytmangjjaijhcnaa

namespace Go.Proofs.Ytmangjjaijhcnaa
open Go.RowKit

def lessOr (l n : Int) : Int := if l < n then -1 else l - n
def sumSz (xs : List Ltr) : Nat := (xs.map fun x => x.code.size).sum
theorem sumSz_succ (xs : List Ltr) (k : Nat) (h : k < xs.length) : sumSz (xs.take (k + 1)) = sumSz (xs.take k) + xs[k].code.size := by
  unfold sumSz; rw [List.take_succ_eq_append_getElem h, List.map_append, List.sum_append]; simp
theorem sumSz_le (xs : List Ltr) (k : Nat) : sumSz (xs.take k) ≤ sumSz xs := by
  unfold sumSz
  conv => rhs; rw [← List.take_append_drop k xs, List.map_append, List.sum_append]
  omega

theorem laws_szLetter (x : Ltr) (l : Int) (w : World) (hx : x.code.size ≤ maxLen) (h0 : 0 ≤ l) (h1 : l ≤ 1048576) :
    Calls Try.prog 63 #[.agg #[.int .i64 x.id, .string x.code], .int .i64 l] w fun e w' => e = .returned (.int .i64 (lessOr l x.code.size)) ∧ Below w.heap.size w w' := by
  unfold maxLen at hx
  go_enter Try.func63, Try.ntmps63
  by_cases h : l < x.code.size
  · go_wp2
    go_ret
    exact ⟨ret_int (by unfold lessOr; rw [if_pos h]), (Below.refl _ _).alloc (Nat.le_refl _) _⟩
  · go_wp2
    go_ret
    exact ⟨ret_int (by unfold lessOr; rw [if_neg (by omega)]), (Below.refl _ _).alloc (Nat.le_refl _) _⟩

set_option maxHeartbeats 400000 in
theorem laws_szLetterS (v : Value) (xs : List Ltr) (l : Int) (w : World) (hv : rd w w.heap.size v xs) (h0 : 0 ≤ l) (h1 : l ≤ 1048576) :
    Calls Try.prog 17 #[v, .int .i64 l] w fun e w' => e = .returned (.int .i64 (lessOr l (xs.length + sumSz xs))) ∧ Below w.heap.size w w' := by
  obtain ⟨A, n, c, rfl, hn, hc, hm, hr⟩ := hv
  subst hn
  unfold maxLen at hm
  have HR := Lib.hid hr; clear hr
  go_enter Try.func17, Try.ntmps17
  by_cases h : l < xs.length
  · go_wp2
    go_ret
    exact ⟨ret_int (by unfold lessOr; rw [if_pos (by omega)]), Below.refl _ _⟩
  · go_wp2
    go_loopw [1, 5] (fun t i wr => ∃ (k : Nat) (m : Int), k ≤ xs.length ∧ i = .int .i64 k ∧ t = .int .i64 m ∧ 0 ≤ m ∧ m ≤ 1048576 ∧ Below w.heap.size w wr ∧ Hid (m = l - xs.length - sumSz (xs.take k))) (fun _ i _ => xs.length - (intOf i).toNat)
    case atStart => exact ⟨0, _, Nat.zero_le _, rfl, rfl, by omega, by omega, Below.refl _ _, by show _ = _; simp [sumSz]⟩
    case round =>
      obtain ⟨k, m, hk, rfl, rfl, m0, m1, hbl, HM⟩ := hrel
      obtain ⟨w1, rfl⟩ : ∃ w1 : World, w1 = wr := ⟨_, rfl⟩
      by_cases hlt : k < xs.length
      · obtain ⟨b, o, rfl, hb, ⟨⟨o1, o2⟩, o3⟩, c1, c2⟩ := HR.out.ltr k hlt
        have HS := Lib.hid (sumSz_succ xs k hlt)
        have HL := Lib.hid (sumSz_le xs (k + 1))
        generalize xs[k] = x at *
        have c1' : w1.cell? ⟨b, o + k * 2, none⟩ = some (.int .i64 x.id) := (hbl.cell (p := ⟨b, o + k * 2, none⟩) hb).trans c1
        have c2' : w1.cell? ⟨b, o + k * 2 + 1, none⟩ = some (.string x.code) := (hbl.cell (p := ⟨b, o + k * 2 + 1, none⟩) hb).trans c2
        clear c1 c2
        by_cases hs : m < x.code.size
        · have he : lessOr m x.code.size = -1 := by unfold lessOr; rw [if_pos hs]
          go_wp2_with (go_at_call 63; refine (laws_szLetter _ _ _ o3 m0 m1).mono ?_; rw [he]; rintro e w' ⟨rfl, hb1⟩)
          go_ret
          refine ⟨ret_int ?_, hbl.trans (hb1.mono hbl.size)⟩
          have := HM.out; have h2 := HS.out; have h3 := HL.out
          unfold lessOr; rw [if_pos (by omega)]
        · have he : lessOr m x.code.size = m - x.code.size := by unfold lessOr; rw [if_neg hs]
          have hnn : 0 ≤ m - (x.code.size : Int) := by omega
          have hnn2 : m - (x.code.size : Int) ≤ 1048576 := by omega
          go_wp2_with (go_at_call 63; refine (laws_szLetter _ _ _ o3 m0 m1).mono ?_; rw [he]; rintro e w' ⟨rfl, hb1⟩)
          go_roundw
          case rel =>
            refine ⟨k + 1, _, by omega, by go_num, rfl, hnn, hnn2, hbl.trans (hb1.mono hbl.size), ?_⟩
            show _ = _
            have := HM.out; have h2 := HS.out
            omega
          case measure => simp [intOf]; omega
      · have HE := Lib.hid (show k = xs.length by omega)
        go_wp2
        go_ret
        refine ⟨ret_int ?_, hbl⟩
        have := HM.out
        rw [HE.out, List.take_length] at this
        unfold lessOr; rw [if_neg (by omega)]; omega

theorem laws_toLetter (x : Ltr) (w : World) :
    Calls Try.prog 68 #[.agg #[.int .i64 x.id, .string x.code]] w fun e w' => e = .returned (.agg #[.int .i64 x.id, .string x.code]) ∧ Below w.heap.size w w' := by
  go_enter Try.func68, Try.ntmps68
  go_wp2
  refine bodyPost_ret (v := .agg #[.int .i64 x.id, .string x.code]) (by simp [results, Try.results68, go_sem]) rfl ⟨rfl, ?_⟩
  go_grown

def ltrEq (x y : Ltr) : Bool := x.id == y.id && sEq x.code y.code
theorem ltrEq_iff (x y : Ltr) : ltrEq x y = true ↔ x = y := by
  cases x; cases y; simp [ltrEq, sEq_iff]

theorem laws_eqLetter (x y : Ltr) (w : World) :
    Calls Try.prog 73 #[.agg #[.int .i64 x.id, .string x.code], .agg #[.int .i64 y.id, .string y.code]] w fun e w' => e = .returned (.bool (ltrEq x y)) ∧ Below w.heap.size w w' := by
  have hB : Below w.heap.size w ((w.alloc (Obj.cells #[Value.int IntKind.i64 x.id, Value.string x.code] 55)).alloc (Obj.cells #[Value.int IntKind.i64 y.id, Value.string y.code] 55)) := by
    exact ((Below.refl _ _).alloc (Nat.le_refl _) _).alloc (by simp) _
  by_cases h1 : x.id = y.id
  · have g1 : (x.id != y.id) = false := by simp [h1]
    have g1' := Lib.hid h1
    clear h1
    cases h2 : sEq x.code y.code
    · have h3 := Lib.hid h2
      unfold sEq at h2
      go_enter Try.func73, Try.ntmps73
      go_wp2
      go_ret
      exact ⟨ret_bool (by simp [ltrEq, h3.out]), hB⟩
    · have h3 := Lib.hid h2
      unfold sEq at h2
      go_enter Try.func73, Try.ntmps73
      go_wp2
      go_ret
      exact ⟨ret_bool (by simp [ltrEq, h3.out, g1'.out]), hB⟩
  · have g1 : (x.id != y.id) = true := by simp [h1]
    have g1' := Lib.hid h1
    clear h1
    go_enter Try.func73, Try.ntmps73
    go_wp2
    go_ret
    exact ⟨ret_bool (by simp [ltrEq, g1'.out]), hB⟩

set_option maxRecDepth 100000 in
set_option maxHeartbeats 400000 in
theorem laws_eqLetterS (v v' : Value) (xs ys : List Ltr) (w : World) (hv : rd w w.heap.size v xs) (hv' : rd w w.heap.size v' ys) :
    Calls Try.prog 23 #[v, v'] w fun e w' => e = .returned (.bool (eqBy ltrEq xs ys)) ∧ Below w.heap.size w w' := by
  obtain ⟨A, n, c, rfl, hn, hc, hm, hr⟩ := hv
  obtain ⟨A', n', c', rfl, hn', hc', hm', hr'⟩ := hv'
  subst hn hn'
  unfold maxLen at hm hm'
  have HR := Lib.hid hr; clear hr
  have HR' := Lib.hid hr'; clear hr'
  go_enter Try.func23, Try.ntmps23
  by_cases hl : xs.length = ys.length
  · have hl1 : ((xs.length : Int) != (ys.length : Int)) = false := by simp [hl]
    have HL := Lib.hid hl; clear hl
    go_wp2
    go_loopw [5] (fun i wr => ∃ k : Nat, k ≤ xs.length ∧ i = .int .i64 k ∧ Below w.heap.size w wr ∧ Hid (∀ j (h1 : j < xs.length) (h2 : j < ys.length), j < k → ltrEq xs[j] ys[j] = true)) (fun i _ => xs.length - (intOf i).toNat)
    case atStart => exact ⟨0, Nat.zero_le _, rfl, Below.refl _ _, fun j _ _ hj => absurd hj (Nat.not_lt_zero j)⟩
    case round =>
      obtain ⟨k, hk, rfl, hbl, HG⟩ := hrel
      obtain ⟨w1, rfl⟩ : ∃ w1 : World, w1 = wr := ⟨_, rfl⟩
      by_cases hlt : k < xs.length
      · have hlt' : k < ys.length := by rw [← HL.out]; exact hlt
        obtain ⟨b, o, rfl, hb, _, c1, c2⟩ := HR.out.ltr k hlt
        obtain ⟨b', o', rfl, hb', _, d1, d2⟩ := HR'.out.ltr k hlt'
        have hbad := Lib.hid (fun h => eqBy_bad (p := ltrEq) k hlt hlt' h)
        have HX : Hid (∀ h : ltrEq xs[k] ys[k] = true, ∀ j (h1 : j < xs.length) (h2 : j < ys.length), j < k + 1 → ltrEq xs[j] ys[j] = true) := fun h j h1 h2 hj => by
          by_cases hjk : j < k
          · exact HG.out j h1 h2 hjk
          · obtain rfl : j = k := by omega
            exact h
        generalize xs[k] = x at *
        generalize ys[k] = y at *
        have c1' : w1.cell? ⟨b, o + k * 2, none⟩ = some (.int .i64 x.id) := (hbl.cell (p := ⟨b, o + k * 2, none⟩) hb).trans c1
        have c2' : w1.cell? ⟨b, o + k * 2 + 1, none⟩ = some (.string x.code) := (hbl.cell (p := ⟨b, o + k * 2 + 1, none⟩) hb).trans c2
        have d1' : w1.cell? ⟨b', o' + k * 2, none⟩ = some (.int .i64 y.id) := (hbl.cell (p := ⟨b', o' + k * 2, none⟩) hb').trans d1
        have d2' : w1.cell? ⟨b', o' + k * 2 + 1, none⟩ = some (.string y.code) := (hbl.cell (p := ⟨b', o' + k * 2 + 1, none⟩) hb').trans d2
        clear c1 c2 d1 d2
        have hki : (k : Int) < (xs.length : Int) := by omega
        have hki' : (k : Int) < (ys.length : Int) := by omega
        have hb2 : Below w.heap.size w w1.drew := hbl.drew
        cases he : ltrEq x y
        · have he' := Lib.hid he; clear he
          go_wp2
          go_still_tail 8, (by kernel_rfl)
          change wpList _ _ _ _ _ w1.drew
          generalize w1.drew = w2 at *
          go_wp2_with (go_at_call 73; refine (laws_eqLetter _ _ _).mono ?_; rw [he'.out]; rintro e w' ⟨rfl, hb3⟩)
          go_ret
          exact ⟨ret_bool (hbad.out he'.out).symm, hb2.trans (hb3.mono hb2.size)⟩
        · have he' := Lib.hid he; clear he
          go_wp2
          go_still_tail 8, (by kernel_rfl)
          change wpList _ _ _ _ _ w1.drew
          generalize w1.drew = w2 at *
          go_wp2_with (go_at_call 73; refine (laws_eqLetter _ _ _).mono ?_; rw [he'.out]; rintro e w' ⟨rfl, hb3⟩)
          go_roundw
          case rel => exact ⟨k + 1, by omega, by go_num, hb2.trans (hb3.mono hb2.size), HX.out he'.out⟩
          case measure => simp [intOf]; omega
      · have HE := Lib.hid (show k = xs.length by omega)
        go_wp2
        go_ret
        exact ⟨ret_bool (eqBy_good HL.out fun j h1 h2 => HG.out j h1 h2 (by rw [HE.out]; exact h1)).symm, hbl⟩
  · have hl1 : ((xs.length : Int) != (ys.length : Int)) = true := by simp; omega
    have HL := Lib.hid hl; clear hl
    go_wp2
    go_ret
    exact ⟨ret_bool (eqBy_len HL.out).symm, Below.refl _ _⟩

end Go.Proofs.Ytmangjjaijhcnaa

namespace Go.Proofs.Ytmangjjaijhcnaa
open Go.RowKit

theorem Try.infoLtr : (Try.prog.info? 55).map (fun i => (i.zero, i.size, i.bytes)) = some (some (.agg #[.int .i64 0, .string ⟨#[]⟩]), 2, 24) := by kernel_rfl

set_option maxHeartbeats 400000 in
theorem laws_toLetterS (v : Value) (xs : List Ltr) (w : World) (hv : rd w w.heap.size v xs) (hl : xs.length ≤ 1048576) :
    Calls Try.prog 20 #[v] w fun e w' => ∃ v', e = .returned v' ∧ own 55 w.heap.size w' v' xs ∧ Below w.heap.size w w' := by
  obtain ⟨A, n, c, rfl, hn, hc, hm, hr⟩ := hv
  subst hn
  unfold maxLen at hm
  have HR := Lib.hid hr; clear hr
  obtain ⟨i0, hi, hz0, hz1, hz2⟩ := info_parts Try.infoLtr
  have hmk := make_row (P := Try.prog) 29 55 i0 _ Try.underlying29 hi hz0 xs.length (by rw [hz2]; omega) (by omega)
  go_enter Try.func20, Try.ntmps20
  go_wp2
  have hf0 : filled 55 (w.alloc (Obj.cells (madeCells #[Value.int IntKind.i64 0, Value.string ⟨#[]⟩] (xs.length * 2)) 55)) w.heap.size xs.length 0 xs := filled.made w _ _ _ (by rw [size_madeCells]; rfl) xs
  have hb0 : Below w.heap.size w (w.alloc (Obj.cells (madeCells #[Value.int IntKind.i64 0, Value.string ⟨#[]⟩] (xs.length * 2)) 55)) := (Below.refl _ _).alloc (Nat.le_refl _) _
  generalize w.alloc (Obj.cells (madeCells #[Value.int IntKind.i64 0, Value.string ⟨#[]⟩] (xs.length * 2)) 55) = w0 at *
  clear hmk
  go_loopw [4] (fun i wr => ∃ k : Nat, k ≤ xs.length ∧ i = .int .i64 k ∧ Below w.heap.size w wr ∧ filled 55 wr w.heap.size xs.length k xs) (fun i _ => xs.length - (intOf i).toNat)
  case atStart => exact ⟨0, Nat.zero_le _, rfl, hb0, hf0⟩
  case round =>
    obtain ⟨k, hk, rfl, hbl, hf⟩ := hrel
    obtain ⟨w1, rfl⟩ : ∃ w1 : World, w1 = wr := ⟨_, rfl⟩
    clear hf0 hb0
    by_cases hlt : k < xs.length
    · obtain ⟨b, o, rfl, hb, hok, c1, c2⟩ := HR.out.ltr k hlt
      have HST := Lib.hid (fun (W : World) (hF : filled 55 W w.heap.size xs.length k xs) => hF.step hlt (Nat.le_refl _) (ecs := xs[k].cells) ⟨hok, rfl⟩)
      generalize xs[k] = x at *
      have c1' : w1.cell? ⟨b, o + k * 2, none⟩ = some (.int .i64 x.id) := (hbl.cell (p := ⟨b, o + k * 2, none⟩) hb).trans c1
      have c2' : w1.cell? ⟨b, o + k * 2 + 1, none⟩ = some (.string x.code) := (hbl.cell (p := ⟨b, o + k * 2 + 1, none⟩) hb).trans c2
      clear c1 c2
      have HF := Lib.hid hf; clear hf
      go_wp2_with fail
      refine (laws_toLetter _ _).mono ?_
      rintro e w2 ⟨rfl, hb3⟩
      have hf2 := HF.out.below hb3
      have hb2 := hbl.trans (hb3.mono hbl.size)
      obtain ⟨u0, g0⟩ := hf2.cell (j := k * 2) (by show _ < _ * 2; omega)
      obtain ⟨u1, g1⟩ := hf2.cell (j := k * 2 + 1) (by show _ < _ * 2; omega)
      have f0 := hf2.free (k * 2)
      have f1 := hf2.free (k * 2 + 1)
      have HF2 := Lib.hid hf2; clear hf2
      go_wp2_with fail
      go_roundw
      case rel => exact ⟨k + 1, by omega, by go_num, hb2.trans (setAll_below x.cells w2 (k * 2) _ (Nat.le_refl _)), HST.out w2 HF2.out⟩
      case measure => simp [intOf]; omega
    · have HE := Lib.hid (show k = xs.length by omega)
      have HF := Lib.hid hf; clear hf
      go_wp2
      go_ret
      exact ⟨_, rfl, (HE.out ▸ HF.out : filled _ _ _ _ xs.length _).own rfl (Nat.le_refl _) (by unfold maxLen; omega), hbl⟩

/-- The decimal digits of a number; none of 0. -/
def dec10 : Nat → List UInt8
  | 0 => []
  | n + 1 => dec10 ((n + 1) / 10) ++ [UInt8.ofNat (48 + (n + 1) % 10)]
  decreasing_by omega
theorem dec10_len (n : Nat) : (dec10 n).length ≤ n := by
  induction n using Nat.strongRecOn with
  | _ n ih =>
    cases n with
    | zero => simp [dec10]
    | succ n =>
      have := ih ((n + 1) / 10) (by omega)
      rw [dec10, List.length_append, List.length_singleton]
      omega
theorem dec10_step {n : Nat} (h : 0 < n) : dec10 n = dec10 (n / 10) ++ [UInt8.ofNat (48 + n % 10)] := by
  cases n with
  | zero => omega
  | succ n => rw [dec10]
/-- 'markText': the letter m and the digits of k. -/
def markB (k : Nat) : ByteArray := if k = 0 then ⟨#[109, 48]⟩ else ⟨(109 :: dec10 k).toArray⟩

/-- 'byte(n)' -/
def b8 (n : Int) : UInt8 := UInt8.ofNat n.toNat
/-- 'string([]byte{x})' -/
theorem byteString (W : World) (n : Int) : (convert 22 9 (.slice (some ⟨W.heap.size, 0, none⟩) 1 1)).run Try.prog (W.alloc (.cells #[.int .u8 n] 5)) = .ok (.string ⟨#[b8 n]⟩) (W.alloc (.cells #[.int .u8 n] 5)) := by
  rw [run_convert_bytes_string _ _ _ 5 _ _ _ Try.underlying22 Try.underlying5 Try.underlying9]
  rw [run_bytesToString _ _ _ _ [n] (by
    refine run_loadCells_list _ _ [Value.int .u8 n] fun j v hj => ?_
    rw [add_lit, Nat.zero_add, cell_new]
    simpa using hj)]
  rfl
theorem ba_ext {a b : ByteArray} (h : a.data.toList = b.data.toList) : a = b := WideShapes.bytes_inj h
theorem ba_append (a b : ByteArray) : (a ++ b).data.toList = a.data.toList ++ b.data.toList := by simp

set_option maxHeartbeats 400000 in
theorem laws_markText (k : Nat) (w : World) (hk : k ≤ 1099511627776) :
    Calls Try.prog 80 #[.int .i64 k] w fun e w' => e = .returned (.string (markB k)) ∧ Below w.heap.size w w' := by
  have hbs := byteString
  go_enter Try.func80, Try.ntmps80
  by_cases h0 : k = 0
  · subst h0
    go_wp2
    go_ret
    exact ⟨rfl, Below.refl _ _⟩
  · have h1 : (0 : Int) < (k : Int) := by omega
    go_wp2
    go_loopw [0, 3] (fun n t wr => ∃ (m : Nat) (s : ByteArray), m ≤ k ∧ n = .int .i64 m ∧ t = .string s ∧ Below w.heap.size w wr ∧ Hid (dec10 k = dec10 m ++ s.data.toList)) (fun n _ _ => (intOf n).toNat)
    case atStart => exact ⟨k, _, Nat.le_refl _, rfl, rfl, Below.refl _ _, by show _ = _; simp⟩
    case round =>
      obtain ⟨m, s, hm, rfl, rfl, hbl, HD⟩ := hrel
      obtain ⟨w1, rfl⟩ : ∃ w1 : World, w1 = wr := ⟨_, rfl⟩
      have hsz : s.size ≤ 1099511627776 := by
        have h2 := dec10_len k
        rw [HD.out, List.length_append] at h2
        have h3 : s.data.toList.length = s.size := by rw [Array.length_toList]; rfl
        omega
      by_cases hm0 : 0 < m
      · have hmi : (0 : Int) < (m : Int) := by omega
        have hst := Lib.hid (dec10_step hm0)
        go_wp2
        go_roundw
        case rel =>
          refine ⟨m / 10, _, by omega, by go_num, rfl, hbl.alloc hbl.size _, ?_⟩
          show _ = _
          rw [HD.out, hst.out, ba_append, List.append_assoc]
          have hq : (48 + (m : Int) % 10).toNat = 48 + m % 10 := by omega
          show _ = _ ++ ([b8 (48 + (m : Int) % 10)] ++ _)
          unfold b8
          rw [hq]
        case measure => simp [intOf]; omega
      · have HE := Lib.hid (show m = 0 by omega)
        go_wp2
        go_ret
        refine ⟨ret_str ?_, hbl⟩
        have := HD.out
        rw [HE.out] at this
        unfold markB
        rw [if_neg h0, this]
        apply ba_ext
        simp [dec10]

end Go.Proofs.Ytmangjjaijhcnaa
