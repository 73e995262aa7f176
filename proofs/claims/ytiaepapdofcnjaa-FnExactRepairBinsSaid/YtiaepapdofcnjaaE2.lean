/- What the laws do with letters: a copy in new memory, marks. -/
import Derived.Test.YtiaepapdofcnjaaE1
namespace Go.Proofs.Ytiaepapdofcnjaa
open Go.RowKit

theorem Try.infoLtr : (Try.prog.info? 103).map (fun i => (i.zero, i.size, i.bytes)) = some (some (.agg #[.int .i64 0, .string ⟨#[]⟩]), 2, 24) := by kernel_rfl

set_option maxHeartbeats 400000 in
theorem laws_toLetterS (v : Value) (xs : List Ltr) (w : World) (hv : rd w w.heap.size v xs) (hl : xs.length ≤ 1048576) :
    Calls Try.prog 30 #[v] w fun e w' => ∃ v', e = .returned v' ∧ own 103 w.heap.size w' v' xs ∧ Below w.heap.size w w' := by
  obtain ⟨A, n, c, rfl, hn, hc, hm, hr⟩ := hv
  subst hn
  unfold maxLen at hm
  have HR := Lib.hid hr; clear hr
  obtain ⟨i0, hi, hz0, hz1, hz2⟩ := info_parts Try.infoLtr
  have hmk := make_row (P := Try.prog) 29 103 i0 _ Try.underlying29 hi hz0 xs.length (by rw [hz2]; omega) (by omega)
  go_enter Try.func30, Try.ntmps30
  go_wp2
  have hf0 : filled 103 (w.alloc (Obj.cells (madeCells #[Value.int IntKind.i64 0, Value.string ⟨#[]⟩] (xs.length * 2)) 103)) w.heap.size xs.length 0 xs := filled.made w _ _ _ (by rw [size_madeCells]; rfl) xs
  have hb0 : Below w.heap.size w (w.alloc (Obj.cells (madeCells #[Value.int IntKind.i64 0, Value.string ⟨#[]⟩] (xs.length * 2)) 103)) := (Below.refl _ _).alloc (Nat.le_refl _) _
  generalize w.alloc (Obj.cells (madeCells #[Value.int IntKind.i64 0, Value.string ⟨#[]⟩] (xs.length * 2)) 103) = w0 at *
  clear hmk
  go_loopw [4] (fun i wr => ∃ k : Nat, k ≤ xs.length ∧ i = .int .i64 k ∧ Below w.heap.size w wr ∧ filled 103 wr w.heap.size xs.length k xs) (fun i _ => xs.length - (intOf i).toNat)
  case atStart => exact ⟨0, Nat.zero_le _, rfl, hb0, hf0⟩
  case round =>
    obtain ⟨k, hk, rfl, hbl, hf⟩ := hrel
    obtain ⟨w1, rfl⟩ : ∃ w1 : World, w1 = wr := ⟨_, rfl⟩
    clear hf0 hb0
    by_cases hlt : k < xs.length
    · obtain ⟨b, o, rfl, hb, hok, c1, c2⟩ := HR.out.ltr k hlt
      have HST := Lib.hid (fun (W : World) (hF : filled 103 W w.heap.size xs.length k xs) => hF.step hlt (Nat.le_refl _) (ecs := xs[k].cells) ⟨hok, rfl⟩)
      generalize xs[k] = x at *
      have c1' : w1.cell? ⟨b, o + k * 2, none⟩ = some (.int .i64 x.id) := (hbl.cell (p := ⟨b, o + k * 2, none⟩) hb).trans c1
      have c2' : w1.cell? ⟨b, o + k * 2 + 1, none⟩ = some (.string x.code) := (hbl.cell (p := ⟨b, o + k * 2 + 1, none⟩) hb).trans c2
      clear c1 c2
      have HF := Lib.hid hf; clear hf
      go_wp2_with fail
      refine (laws_toLetter _ _).mono ?_
      rintro e w2 ⟨rfl, hb3⟩
      have hf2 := HF.out.below hb3
      have hb2 := hbl.trans (hb3.mono hbl.size)
      obtain ⟨u0, g0⟩ := hf2.cell (j := k * 2) (by show _ < _ * 2; omega)
      obtain ⟨u1, g1⟩ := hf2.cell (j := k * 2 + 1) (by show _ < _ * 2; omega)
      have f0 := hf2.free (k * 2)
      have f1 := hf2.free (k * 2 + 1)
      have HF2 := Lib.hid hf2; clear hf2
      go_wp2_with fail
      go_roundw
      case rel => exact ⟨k + 1, by omega, by go_num, hb2.trans (setAll_below x.cells w2 (k * 2) _ (Nat.le_refl _)), HST.out w2 HF2.out⟩
      case measure => simp [intOf]; omega
    · have HE := Lib.hid (show k = xs.length by omega)
      have HF := Lib.hid hf; clear hf
      go_wp2
      go_ret
      exact ⟨_, rfl, (HE.out ▸ HF.out : filled _ _ _ _ xs.length _).own rfl (Nat.le_refl _) (by unfold maxLen; omega), hbl⟩

/-- The decimal digits of a number; none of 0. -/
def dec10 : Nat → List UInt8
  | 0 => []
  | n + 1 => dec10 ((n + 1) / 10) ++ [UInt8.ofNat (48 + (n + 1) % 10)]
  decreasing_by omega
theorem dec10_len (n : Nat) : (dec10 n).length ≤ n := by
  induction n using Nat.strongRecOn with
  | _ n ih =>
    cases n with
    | zero => simp [dec10]
    | succ n =>
      have := ih ((n + 1) / 10) (by omega)
      rw [dec10, List.length_append, List.length_singleton]
      omega
theorem dec10_step {n : Nat} (h : 0 < n) : dec10 n = dec10 (n / 10) ++ [UInt8.ofNat (48 + n % 10)] := by
  cases n with
  | zero => omega
  | succ n => rw [dec10]
/-- 'markText': the letter m and the digits of k. -/
def markB (k : Nat) : ByteArray := if k = 0 then ⟨#[109, 48]⟩ else ⟨(109 :: dec10 k).toArray⟩

/-- 'byte(n)' -/
def b8 (n : Int) : UInt8 := UInt8.ofNat n.toNat
/-- 'string([]byte{x})' -/
theorem byteString (W : World) (n : Int) : (convert 91 9 (.slice (some ⟨W.heap.size, 0, none⟩) 1 1)).run Try.prog (W.alloc (.cells #[.int .u8 n] 5)) = .ok (.string ⟨#[b8 n]⟩) (W.alloc (.cells #[.int .u8 n] 5)) := by
  rw [run_convert_bytes_string _ _ _ 5 _ _ _ Try.underlying91 Try.underlying5 Try.underlying9]
  rw [run_bytesToString _ _ _ _ [n] (by
    refine run_loadCells_list _ _ [Value.int .u8 n] fun j v hj => ?_
    rw [add_lit, Nat.zero_add, cell_new]
    simpa using hj)]
  rfl
theorem ba_ext {a b : ByteArray} (h : a.data.toList = b.data.toList) : a = b := WideShapes.bytes_inj h
theorem ba_append (a b : ByteArray) : (a ++ b).data.toList = a.data.toList ++ b.data.toList := by simp

set_option maxHeartbeats 400000 in
theorem laws_markText (k : Nat) (w : World) (hk : k ≤ 1099511627776) :
    Calls Try.prog 77 #[.int .i64 k] w fun e w' => e = .returned (.string (markB k)) ∧ Below w.heap.size w w' := by
  have hbs := byteString
  go_enter Try.func77, Try.ntmps77
  by_cases h0 : k = 0
  · subst h0
    go_wp2
    go_ret
    exact ⟨rfl, Below.refl _ _⟩
  · have h1 : (0 : Int) < (k : Int) := by omega
    go_wp2
    go_loopw [0, 3] (fun n t wr => ∃ (m : Nat) (s : ByteArray), m ≤ k ∧ n = .int .i64 m ∧ t = .string s ∧ Below w.heap.size w wr ∧ Hid (dec10 k = dec10 m ++ s.data.toList)) (fun n _ _ => (intOf n).toNat)
    case atStart => exact ⟨k, _, Nat.le_refl _, rfl, rfl, Below.refl _ _, by show _ = _; simp⟩
    case round =>
      obtain ⟨m, s, hm, rfl, rfl, hbl, HD⟩ := hrel
      obtain ⟨w1, rfl⟩ : ∃ w1 : World, w1 = wr := ⟨_, rfl⟩
      have hsz : s.size ≤ 1099511627776 := by
        have h2 := dec10_len k
        rw [HD.out, List.length_append] at h2
        have h3 : s.data.toList.length = s.size := by rw [Array.length_toList]; rfl
        omega
      by_cases hm0 : 0 < m
      · have hmi : (0 : Int) < (m : Int) := by omega
        have hst := Lib.hid (dec10_step hm0)
        go_wp2
        go_roundw
        case rel =>
          refine ⟨m / 10, _, by omega, by go_num, rfl, hbl.alloc hbl.size _, ?_⟩
          show _ = _
          rw [HD.out, hst.out, ba_append, List.append_assoc]
          have hq : (48 + (m : Int) % 10).toNat = 48 + m % 10 := by omega
          show _ = _ ++ ([b8 (48 + (m : Int) % 10)] ++ _)
          unfold b8
          rw [hq]
        case measure => simp [intOf]; omega
      · have HE := Lib.hid (show m = 0 by omega)
        go_wp2
        go_ret
        refine ⟨ret_str ?_, hbl⟩
        have := HD.out
        rw [HE.out] at this
        unfold markB
        rw [if_neg h0, this]
        apply ba_ext
        simp [dec10]

end Go.Proofs.Ytiaepapdofcnjaa
