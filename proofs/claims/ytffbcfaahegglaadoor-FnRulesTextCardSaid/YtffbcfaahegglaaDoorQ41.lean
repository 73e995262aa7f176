/- FA FB FC FR -/
import Derived.Test.YtffbcfaahegglaaDoorQ39
import Derived.Test.YtffbcfaahegglaaDoorQ10
import Derived.Test.YtffbcfaahegglaaDoorQ17
import Derived.Test.YtffbcfaahegglaaDoorQ8
import Derived.Lib.SmallJoins
import Derived.Test.YtffbcfaahegglaaDoorQ7
import Derived.Test.YtffbcfaahegglaaDoorQ6
import Derived.Test.YtffbcfaahegglaaDoorQ29
namespace Go.Proofs.YtffbcfaahegglaaDoor
open Go.RowKit

/-! ### Plain facts -/
theorem decDigits_dec : ∀ n : Nat, Lib.decDigits n = decL n := by
  intro n
  induction n using Nat.strongRecOn with
  | _ n ih =>
    rw [Lib.decDigits]
    by_cases h : n < 10
    · rw [dif_pos h]
      unfold decL
      by_cases h0 : n = 0
      · rw [if_pos h0, h0]; rfl
      · rw [if_neg h0, dec10_small (by omega) (by omega)]
        unfold b8
        rw [show (48 + (n : Int)).toNat = 48 + n by omega]
    · rw [dif_neg h, ih (n / 10) (by omega)]
      unfold decL
      rw [if_neg (by omega), if_neg (by omega), dec10_step (n := n) (by omega)]
theorem itoa_dec (n : Nat) : (⟨(Lib.itoa (n : Int)).toArray⟩ : ByteArray) = decB n := by
  unfold Lib.itoa decB
  rw [if_neg (by omega), Int.toNat_natCast, decDigits_dec]
theorem inter_snoc {α : Type} (sep x : List α) : ∀ (l : List (List α)), l ≠ [] → sep.intercalate (l ++ [x]) = sep.intercalate l ++ sep ++ x
  | [], h => absurd rfl h
  | [a], _ => by simp [List.intercalate, List.intersperse]
  | a :: b :: l, _ => by
    have ih := inter_snoc sep x (b :: l) (by simp)
    have e : ∀ (c : List α) (m : List (List α)), sep.intercalate (a :: c :: m) = a ++ sep ++ sep.intercalate (c :: m) := fun c m => by
      simp [List.intercalate, List.intersperse]
    rw [List.cons_append, List.cons_append, e, ← List.cons_append, ih, e]
    simp only [List.append_assoc]
/-- Parts with a separator between them. -/
def joinT (ps : List ByteArray) (sep : ByteArray) : ByteArray := ⟨(Lib.join (ps.map (·.data.toList)) sep.data.toList).toArray⟩
theorem joinT_nil (sep : ByteArray) : joinT [] sep = ⟨#[]⟩ := by
  unfold joinT Lib.join; rfl
theorem joinT_one (p sep : ByteArray) : joinT [p] sep = p := by
  refine ba_ext ?_
  simp [joinT, Lib.join, List.intercalate, List.intersperse]
theorem joinT_snoc (ps : List ByteArray) (p sep : ByteArray) (h : ps ≠ []) : joinT (ps ++ [p]) sep = joinT ps sep ++ sep ++ p := by
  refine ba_ext ?_
  rw [ba_append, ba_append]
  unfold joinT Lib.join
  rw [List.map_append, List.map_cons, List.map_nil, inter_snoc _ _ _ (by simpa using h)]
theorem joinT_size (ps : List ByteArray) (sep : ByteArray) (m : Nat) (h : ∀ p ∈ ps, p.size ≤ m) : (joinT ps sep).size ≤ ps.length * (m + sep.size) := by
  have key : ∀ l : List ByteArray, (∀ p ∈ l, p.size ≤ m) → (joinT l.reverse sep).size ≤ l.length * (m + sep.size) := fun l => by
    induction l with
    | nil => intro _; rw [List.reverse_nil, joinT_nil]; exact Nat.zero_le _
    | cons p l ih =>
      intro hl
      have ih := ih fun q hq => hl q (List.mem_cons_of_mem _ hq)
      have hp := hl p List.mem_cons_self
      rw [List.reverse_cons, List.length_cons, Nat.add_mul, Nat.one_mul]
      by_cases h0 : l.reverse = []
      · rw [h0, List.nil_append, joinT_one]; omega
      · rw [joinT_snoc _ _ _ h0, ByteArray.size_append, ByteArray.size_append]; omega
  have := key ps.reverse (fun p hp => h p (by simpa using hp))
  rwa [List.reverse_reverse, List.length_reverse] at this
theorem joinT_len (ps : List ByteArray) (sep : ByteArray) : (Lib.join (ps.map (·.data.toList)) sep.data.toList).length = (joinT ps sep).size := List.size_toArray.symm

/-- A letter as a text. -/
def fmtL (x : Ltr) : ByteArray := decB x.id.toNat ++ ⟨#[58]⟩ ++ x.code
theorem dec10_size {n : Nat} (h : n ≤ 9999) : (decB n).size ≤ 4 ∧ 1 ≤ (decB n).size := by
  have key : ∀ (f m : Nat), m < 10 ^ f → (dec10 m).length ≤ f ∧ (0 < m → 1 ≤ (dec10 m).length) := fun f => by
    induction f with
    | zero => intro m hm; have : m = 0 := by simp at hm; exact hm
              subst this; exact ⟨by rw [dec10]; simp, fun h => by omega⟩
    | succ f ih =>
      intro m hm
      by_cases h0 : m = 0
      · subst h0; exact ⟨by rw [dec10]; simp, fun h => by omega⟩
      · have hd : m / 10 < 10 ^ f := by
          rw [Nat.pow_succ] at hm
          exact Nat.div_lt_of_lt_mul (by omega)
        have := (ih (m / 10) hd).1
        rw [dec10_step (by omega), List.length_append]
        exact ⟨by simp; omega, fun _ => by simp⟩
  have hk := key 4 n (by omega)
  have hs : (decB n).size = (decL n).length := List.size_toArray
  rw [hs]
  unfold decL
  by_cases h0 : n = 0
  · rw [if_pos h0]; simp
  · rw [if_neg h0]; exact ⟨hk.1, hk.2 (by omega)⟩
theorem fmtL_size {x : Ltr} (h : x.id ≤ 9999) (hc : x.code.size = 7) : (fmtL x).size ≤ 12 ∧ 1 ≤ (fmtL x).size := by
  have := dec10_size (n := x.id.toNat) (by omega)
  unfold fmtL
  rw [ByteArray.size_append, ByteArray.size_append, hc]
  show _ + 1 + 7 ≤ 12 ∧ 1 ≤ _ + 1 + 7
  omega
def spT : ByteArray := ⟨#[32]⟩
/-- A batch as a text; nothing if it is none. -/
def fmtB (xs : List Ltr) : ByteArray := if okB xs = true then (if xs.length = 0 then ⟨#[45]⟩ else joinT (xs.map fmtL) spT) else ⟨#[]⟩
theorem fmtB_no {xs : List Ltr} (h : okB xs = false) : fmtB xs = ⟨#[]⟩ := by unfold fmtB; rw [h]; rfl
theorem fmtB_empty {xs : List Ltr} (h : okB xs = true) (h0 : xs.length = 0) : fmtB xs = ⟨#[45]⟩ := by unfold fmtB; rw [if_pos h, if_pos h0]
theorem fmtB_some {xs : List Ltr} (h : okB xs = true) (h0 : xs.length ≠ 0) : fmtB xs = joinT (xs.map fmtL) spT := by unfold fmtB; rw [if_pos h, if_neg h0]
theorem okB_fmt {xs : List Ltr} (h : okB xs = true) : ∀ p ∈ xs.map fmtL, p.size ≤ 12 ∧ 1 ≤ p.size := fun p hp => by
  obtain ⟨x, hx, rfl⟩ := List.mem_map.1 hp
  obtain ⟨k, hk, rfl⟩ := List.getElem_of_mem hx
  have h1 := (okB_iff.1 h).2 k hk
  have h2 := h1.2.2.1
  unfold isCode at h2
  rw [Bool.and_eq_true, beq_iff_eq] at h2
  exact fmtL_size h1.2.1 h2.1
theorem fmtB_size (xs : List Ltr) : (fmtB xs).size ≤ 1000 := by
  cases h : okB xs
  · rw [fmtB_no h]; exact Nat.zero_le _
  · by_cases h0 : xs.length = 0
    · rw [fmtB_empty h h0]; exact (by decide : (1 : Nat) ≤ 1000)
    · rw [fmtB_some h h0]
      have h1 := joinT_size (xs.map fmtL) spT 12 fun p hp => (okB_fmt h p hp).1
      have h2 := (okB_iff.1 h).1
      rw [List.length_map] at h1
      have h3 : xs.length * (12 + spT.size) ≤ 60 * 13 := Nat.mul_le_mul h2 (Nat.le_refl _)
      omega
/-- The text of the first letters, as the reference writes it. -/
def preB (xs : List Ltr) (k : Nat) : ByteArray := joinT ((xs.take k).map fmtL) spT
theorem preB_zero (xs : List Ltr) : preB xs 0 = ⟨#[]⟩ := joinT_nil _
theorem preB_one {xs : List Ltr} (h : 0 < xs.length) : preB xs 1 = fmtL xs[0] := by
  unfold preB
  rw [List.take_succ_eq_append_getElem h, List.take_zero, List.nil_append, List.map_cons, List.map_nil, joinT_one]
theorem preB_succ {xs : List Ltr} {k : Nat} (h : k < xs.length) (h0 : 0 < k) : preB xs (k + 1) = preB xs k ++ spT ++ fmtL xs[k] := by
  unfold preB
  rw [List.take_succ_eq_append_getElem h, List.map_append, List.map_cons, List.map_nil, joinT_snoc]
  intro e
  have := congrArg List.length e
  rw [List.length_map, List.length_take, List.length_nil] at this
  omega
theorem preB_size {xs : List Ltr} (h : okB xs = true) (k : Nat) : (preB xs k).size ≤ 780 := by
  have h1 := joinT_size ((xs.take k).map fmtL) spT 12 fun p hp => (okB_fmt h p (by
    obtain ⟨x, hx, rfl⟩ := List.mem_map.1 hp
    exact List.mem_map.2 ⟨x, List.mem_of_mem_take hx, rfl⟩)).1
  have h2 := (okB_iff.1 h).1
  rw [List.length_map] at h1
  have h3 : (xs.take k).length * (12 + spT.size) ≤ 60 * 13 := Nat.mul_le_mul (by rw [List.length_take]; omega) (Nat.le_refl _)
  unfold preB
  omega
theorem preB_pos {xs : List Ltr} (h : okB xs = true) (h0 : 0 < xs.length) : 1 ≤ (preB xs xs.length).size := by
  obtain ⟨k, hk⟩ : ∃ k, xs.length = k + 1 := ⟨xs.length - 1, by omega⟩
  rw [hk]
  have hp : ∀ (j : Nat) (hj : j < xs.length), 1 ≤ (fmtL xs[j]).size := fun j hj => (okB_fmt h _ (List.mem_map.2 ⟨_, List.getElem_mem hj, rfl⟩)).2
  by_cases hk0 : k = 0
  · subst hk0
    rw [preB_one h0]; exact hp 0 h0
  · rw [preB_succ (by omega) (by omega), ByteArray.size_append]
    have := hp k (by omega)
    omega

end Go.Proofs.YtffbcfaahegglaaDoor

namespace Go.Proofs.YtffbcfaahegglaaDoor
open Go.RowKit

/-- The library's table of powers of ten lies where it lay. -/
def TabW (w : World) : Prop := Lib.TabIs Tryd.prog w "internal/strconv.uint64pow10" .u64 Lib.pow10Tab
theorem TabW.on {w w' : World} (h : TabW w) (hb : Below w.heap.size w w') : TabW w' :=
  Go.Joins.tab_stays (g := 3) (by kernel_rfl) h hb (Nat.le_refl _)
theorem below_grow (w : World) (k : Nat) (os : Array Obj) : Below w.heap.size w (Go.Sort.grow (w.drewN k) os) := by
  have h := below_drewN (Below.refl w.heap.size w) k
  refine ⟨h.os, h.tape, h.output, ?_, fun i hi => ?_⟩
  · show _ ≤ ((w.drewN k).heap ++ os).size
    rw [Array.size_append]
    have := h.size
    omega
  · show ((w.drewN k).heap ++ os)[i]? = _
    rw [Array.getElem?_append_left (by have := h.size; omega)]
    exact h.block i hi
theorem strconv_ItoaN (n : Nat) (w : World) (hn : n ≤ 9999) (ht : TabW w) :
    Calls Tryd.prog 69 #[.int .i64 (n : Int)] w fun e w' => e = .returned (.string (decB n)) ∧ Below w.heap.size w w' := by
  refine (Tryd.strconv_Itoa (n : Int) (by omega) (by omega) w ht).mono ?_
  rintro e w' ⟨rfl, k, os, rfl⟩
  exact ⟨by rw [itoa_dec], below_grow w k os⟩

theorem join_own {T base g n c : Nat} {w : World} {ps : List ByteArray} {sep : ByteArray} (h : own T base w (.slice (some ⟨g, 0, none⟩) n c) ps) (hn : n = ps.length) (hN : ps.length ≤ 1048576) (hs : (joinT ps sep).size ≤ 140737488355328) :
    Calls Tryd.prog 40 #[.slice (some ⟨g, 0, none⟩) n c, .string sep] w fun e w' => e = .returned (.string (joinT ps sep)) ∧ Below w.heap.size w w' := by
  obtain ⟨A', n', c', hv, hn', hc, hm, hr⟩ := h.rd
  injection hv with e1 e2 e3
  subst e1 e2 e3 hn
  have hg : g < w.heap.size := (h.blk g rfl).2
  refine Tryd.strings_Join g 0 c ps sep w (fun j x hx => ?_) hg (by omega) hc (by rw [joinT_len]; exact hs)
  · obtain ⟨hj, rfl⟩ := List.getElem?_eq_some_iff.1 hx
    obtain ⟨b, o, hA, _, _, c1⟩ := hr.str j hj
    injection hA with hA
    injection hA with hA1 hA2
    subst hA1 hA2
    exact c1

set_option maxRecDepth 100000 in
set_option maxHeartbeats 1600000 in
theorem impl_FormatBatch (v : Value) (xs : List Ltr) (w : World) (hv : rd w w.heap.size v xs) (ht : TabW w) :
    Calls Tryd.prog 34 #[v] w fun e w' => e = .returned (.string (fmtB xs)) ∧ Below w.heap.size w w' := by
  have HV := Lib.hid hv
  obtain ⟨A, n, c, rfl, hn, hc, hm, hr⟩ := hv
  subst hn
  have HR := Lib.hid hr; clear hr
  have HT := Lib.hid ht; clear ht
  obtain ⟨i0, hi, hz0, hz1, hz2⟩ := info_parts Tryd.infoStr
  have l0 := Below.refl w.heap.size w
  go_enter Tryd.func34, Tryd.ntmps34
  go_wp2_with fail
  refine (impl_BatchValid _ xs _ HV.out).mono ?_
  rintro e w1 ⟨rfl, b1⟩
  have l1 := b1
  clear b1 l0
  cases hok : okB xs
  · have HF := Lib.hid (fmtB_no hok)
    clear hok
    go_wp2_with fail
    go_ret
    exact ⟨ret_str HF.out.symm, l1⟩
  have HOK := Lib.hid hok
  have h60 := (okB_iff.1 hok).1
  by_cases h0 : xs.length = 0
  · have HF := Lib.hid (fmtB_empty hok h0)
    have hl0 : ((xs.length : Int) == 0) = true := by rw [h0]; rfl
    clear hok h0
    go_wp2_with fail
    go_ret
    exact ⟨ret_str HF.out.symm, l1⟩
  have HF := Lib.hid (fmtB_some hok h0)
  have hl0 : ((xs.length : Int) == 0) = false := beq_eq_false_iff_ne.2 (by omega)
  have hpos : 0 < xs.length := by omega
  clear hok h0
  have hmk := make_row (P := Tryd.prog) 61 9 i0 _ Tryd.underlying61 hi hz0 xs.length (by rw [hz2]; omega) (by omega)
  go_wp2_with fail
  have hf0 : filled 9 (w1.alloc (Obj.cells (madeCells #[.string ⟨#[]⟩] xs.length) 9)) w1.heap.size xs.length 0 (xs.map fmtL) := filled.made w1 _ _ _ (by rw [size_madeCells]; exact (Nat.mul_one _).symm) _
  have hb0 : Below w1.heap.size w1 (w1.alloc (Obj.cells (madeCells #[.string ⟨#[]⟩] xs.length) 9)) := (Below.refl _ _).alloc (Nat.le_refl _) _
  generalize w1.alloc (Obj.cells (madeCells #[.string ⟨#[]⟩] xs.length) 9) = w0 at *
  clear hmk
  have HLN : Hid ((xs.map fmtL).length = xs.length) := by show _ = _; rw [List.length_map]
  go_loopw [17] (fun i wr => ∃ k : Nat, k ≤ xs.length ∧ i = .int .i64 k ∧ Below w1.heap.size w1 wr ∧ filled 9 wr w1.heap.size xs.length k (xs.map fmtL)) (fun i _ => xs.length - (intOf i).toNat)
  case atStart => exact ⟨0, Nat.zero_le _, rfl, hb0, hf0⟩
  case round =>
    obtain ⟨k, hk, rfl, hbl, hf⟩ := hrel
    obtain ⟨w2, rfl⟩ : ∃ w2 : World, w2 = wr := ⟨_, rfl⟩
    clear hf0 hb0
    have hs1 := l1.size
    by_cases hlt : k < xs.length
    · obtain ⟨b, o, rfl, hb, ⟨⟨hi1, hi2⟩, hcz⟩, y1, y2⟩ := HR.out.ltrU k hlt
      have y1 := y1 w2 (later_trans l1 hbl)
      have y2 := y2 w2 (later_trans l1 hbl)
      obtain ⟨z1, z2, z4, _⟩ := (okB_iff.1 HOK.out).2 k hlt
      have hLk : (xs.map fmtL)[k]'(by rw [HLN.out]; exact hlt) = fmtL xs[k] := by simp
      have HSZ := Lib.hid (okB_fmt HOK.out (fmtL xs[k]) (List.mem_map.2 ⟨_, List.getElem_mem hlt, rfl⟩))
      have HST := Lib.hid (fun (W : World) (hF : filled 9 W w1.heap.size xs.length k (xs.map fmtL)) => hF.step (by rw [HLN.out]; exact hlt) (by rw [HLN.out]; exact Nat.le_refl _) (ecs := [.string (fmtL xs[k])]) (by rw [hLk]; exact ⟨by have := HSZ.out.1; unfold maxLen; omega, rfl⟩))
      clear hLk
      generalize xs[k] = x at *
      obtain ⟨id, code⟩ := x
      simp only at hi1 hi2 hcz y1 y2 z1 z2 z4
      obtain ⟨m, rfl⟩ := Int.eq_ofNat_of_zero_le (show 0 ≤ id by omega)
      have hm9 : m ≤ 9999 := by omega
      have HFX : Hid (fmtL ⟨(m : Int), code⟩ = decB m ++ ⟨#[58]⟩ ++ code) := by show _ = _; unfold fmtL; rw [Int.toNat_natCast]
      have hki : (k : Int) < (xs.length : Int) := by omega
      have hki0 : (0 : Int) ≤ (k : Int) := by omega
      have hs2 := hbl.size
      obtain ⟨wb, hwb⟩ : ∃ u, u = w2.alloc (Obj.cells #[.int .i64 (m : Int), .string code] 98) := ⟨_, rfl⟩
      have q0 := box_cells hwb 0 (.int .i64 (m : Int)) rfl
      have q1 := box_cells hwb 1 (.string code) rfl
      have lb := (box_later hwb).1
      have hne : w1.heap.size < w2.heap.size := by obtain ⟨cs, h1, _⟩ := hf; exact (Array.getElem?_eq_some_iff.1 h1).1
      have HFB := Lib.hid (hf.below lb)
      have HLB := Lib.hid (later_trans hbl lb)
      have HTB := Lib.hid (HT.out.on (later_trans (later_trans l1 hbl) lb))
      have HWB := Lib.hid hwb; clear hwb hf
      go_wp2_with fail
      rw [← HWB.out]
      have ld := later_drew (Below.refl wb.heap.size wb)
      have hwz : wb.heap.size = w2.heap.size + 1 := by rw [HWB.out]; simp
      have e0 := q0 _ ld
      have e1 := q1 _ ld
      obtain ⟨hd4, _⟩ := dec10_size hm9
      have HIT := Lib.hid (fun W (hW : Below wb.heap.size wb W) => strconv_ItoaN m W hm9 (HTB.out.on hW))
      generalize decB m = t at *
      have hc7 : code.size = 7 := by
        unfold isCode at z4
        rw [Bool.and_eq_true, beq_iff_eq] at z4
        exact z4.1
      have hs58 : t.size + (⟨#[58]⟩ : ByteArray).size ≤ 9223372036854775807 := by show _ + 1 ≤ _; omega
      have hs59 : (t ++ (⟨#[58]⟩ : ByteArray)).size + code.size ≤ 9223372036854775807 := by rw [ByteArray.size_append]; show _ + 1 + _ ≤ _; omega
      have hs60 : ¬ 9223372036854775807 < t.size + 1 + code.size := by omega
      have hs61 : ¬ 9223372036854775807 < t.size + 1 := by omega
      have HC7 := Lib.hid hc7; clear hc7
      go_region_held3 (fun W => W.cell? ⟨w2.heap.size, 0, none⟩ = some (.int .i64 (m : Int)) ∧ W.cell? ⟨w2.heap.size, 1, none⟩ = some (.string code)) (first | exact ⟨e0, e1⟩ | exact ⟨e03, e13⟩ | exact ⟨e04 _, e14 _⟩ | fail) (first | (go_at_call 69; (with_reducible refine (HIT.out _ ld).mono ?_); rintro e w3 ⟨rfl, b3⟩; have l3 := later_trans ld b3; have e03 := q0 w3 l3; have e13 := q1 w3 l3; have hf3 := HFB.out.below l3; obtain ⟨u0, g0⟩ := hf3.cell (j := k) (by show _ < _ * 1; omega); have f0 := hf3.free k; have e04 := (fun v : Value => (World.cell?_setCell_other w3 ⟨w1.heap.size, k, none⟩ ⟨w2.heap.size, 0, none⟩ v (fun e => by injection e; omega)).trans e03); have e14 := (fun v : Value => (World.cell?_setCell_other w3 ⟨w1.heap.size, k, none⟩ ⟨w2.heap.size, 1, none⟩ v (fun e => by injection e; omega)).trans e13)) | fail)
      all_goals
        have HF3 := Lib.hid hf3
        have HB3 := Lib.hid (later_trans HLB.out l3)
        clear hf3 g0 f0 e03 e13 e04 e14 b3 l3 e0 e1
        go_wp2_with fail
        go_roundw
        case rel =>
          have := HST.out w3 HF3.out
          rw [show k * El.size ByteArray = k from Nat.mul_one k, HFX.out] at this
          exact ⟨k + 1, by omega, by go_num, HB3.out.trans (setAll_below [.string _] w3 k _ (Nat.le_refl _)), this⟩
        case measure => simp [intOf]; omega
    · have HE := Lib.hid (show k = xs.length by omega)
      have HO := Lib.hid ((HE.out ▸ hf : filled _ _ _ _ xs.length _).own HLN.out.symm (Nat.le_refl _) (by unfold maxLen; omega))
      clear hf
      have l2 := later_trans l1 hbl
      have hjz := joinT_size (xs.map fmtL) spT 12 fun p hp => (okB_fmt HOK.out p hp).1
      rw [HLN.out] at hjz
      have hjz2 : xs.length * (12 + spT.size) ≤ 60 * 13 := Nat.mul_le_mul h60 (Nat.le_refl _)
      have HJ := Lib.hid (join_own (sep := spT) HO.out HLN.out.symm (by rw [HLN.out]; omega) (by omega))
      clear hjz hjz2
      go_wp2_with fail
      refine HJ.out.mono ?_
      rw [← HF.out]
      rintro e w3 ⟨rfl, b3⟩
      have l3 := later_trans l2 b3
      go_wp2_with fail
      go_ret
      exact ⟨rfl, l3⟩

end Go.Proofs.YtffbcfaahegglaaDoor

namespace Go.Proofs.YtffbcfaahegglaaDoor
open Go.RowKit

theorem spec_l2Dash (s : ByteArray) (w : World) :
    Calls Tryd.prog 44 #[.string s] w fun e w' => e = .returned (.string (if s.size = 0 then ⟨#[45]⟩ else s)) ∧ w = w' := by
  by_cases h : s.size = 0
  · have he : s.toList.isEmpty = true := by
      rw [ByteArray.toList_eq, List.isEmpty_iff_length_eq_zero]; simpa using h
    rw [if_pos h]
    clear h
    go_enter Tryd.func44, Tryd.ntmps44
    go_wp2
    go_ret
    exact ⟨rfl, rfl⟩
  · have he : s.toList.isEmpty = false := by
      rw [ByteArray.toList_eq, Bool.eq_false_iff, Ne, List.isEmpty_iff_length_eq_zero]; simpa using h
    rw [if_neg h]
    clear h
    go_enter Tryd.func44, Tryd.ntmps44
    go_wp2
    go_ret
    exact ⟨rfl, rfl⟩

set_option maxRecDepth 100000 in
set_option maxHeartbeats 1600000 in
theorem spec_FormatBatch (v : Value) (xs : List Ltr) (w : World) (hv : rd w w.heap.size v xs) :
    Calls Tryd.prog 37 #[v] w fun e w' => e = .returned (.string (fmtB xs)) ∧ Below w.heap.size w w' := by
  have HV := Lib.hid hv
  obtain ⟨A, n, c, rfl, hn, hc, hm, hr⟩ := hv
  subst hn
  have HR := Lib.hid hr; clear hr
  go_enter Tryd.func37, Tryd.ntmps37
  go_wp2_with fail
  refine (spec_BatchValid _ xs _ HV.out).mono ?_
  rintro e w1 ⟨rfl, b1⟩
  have l1 := b1
  clear b1
  cases hok : okB xs
  · have HF := Lib.hid (fmtB_no hok)
    clear hok
    go_wp2_with fail
    go_ret
    exact ⟨ret_str HF.out.symm, l1⟩
  have HOK := Lib.hid hok
  have h60 := (okB_iff.1 hok).1
  have HF : Hid (fmtB xs = if (preB xs xs.length).size = 0 then ⟨#[45]⟩ else preB xs xs.length) := by
    show _ = _
    by_cases h0 : xs.length = 0
    · rw [fmtB_empty hok h0, h0, preB_zero]; rfl
    · have := preB_pos hok (by omega)
      rw [fmtB_some hok h0, if_neg (by omega)]
      unfold preB
      rw [List.take_length]
  clear hok
  go_wp2_with fail
  go_loopw [3, 4] (fun t i wr => ∃ k : Nat, k ≤ xs.length ∧ i = .int .i64 k ∧ t = .string (preB xs k) ∧ Below w.heap.size w wr) (fun _ i _ => xs.length - (intOf i).toNat)
  case atStart => exact ⟨0, Nat.zero_le _, rfl, by rw [preB_zero], l1⟩
  case round =>
    obtain ⟨k, hk, rfl, rfl, lr⟩ := hrel
    obtain ⟨w2, rfl⟩ : ∃ w2 : World, w2 = wr := ⟨_, rfl⟩
    clear l1
    by_cases hlt : k < xs.length
    · obtain ⟨b, o, rfl, hb, ⟨⟨hi1, hi2⟩, hcz⟩, y1, y2⟩ := HR.out.ltrU k hlt
      obtain ⟨z1, z2, z4, _⟩ := (okB_iff.1 HOK.out).2 k hlt
      have HP0 : Hid (k = 0 → preB xs 1 = fmtL xs[k]) := fun h => by subst h; exact preB_one hlt
      have HP1 := Lib.hid (fun h => preB_succ hlt h)
      have hps := preB_size HOK.out k
      have hZ := Lib.hid (preB_zero xs)
      obtain ⟨PN, hPN⟩ : ∃ P, preB xs (k + 1) = P := ⟨_, rfl⟩
      obtain ⟨P, hP⟩ : ∃ P, preB xs k = P := ⟨_, rfl⟩
      rw [hPN] at HP1
      rw [hP] at HP1 hps ⊢
      have HPN := Lib.hid hPN
      have HPK := Lib.hid hP
      clear hPN hP
      generalize xs[k] = x at *
      obtain ⟨id, code⟩ := x
      simp only at hi1 hi2 hcz y1 y2 z1 z2 z4
      obtain ⟨m, rfl⟩ := Int.eq_ofNat_of_zero_le (show 0 ≤ id by omega)
      have hm9 : m ≤ 9999 := by omega
      have HFX : Hid (fmtL ⟨(m : Int), code⟩ = decB m ++ ⟨#[58]⟩ ++ code) := by show _ = _; unfold fmtL; rw [Int.toNat_natCast]
      have hki : (k : Int) < (xs.length : Int) := by omega
      have hki0 : (0 : Int) ≤ (k : Int) := by omega
      have y1' := fun W (h : Below w2.heap.size w2 W) => y1 W (later_trans lr h)
      have y2' := fun W (h : Below w2.heap.size w2 W) => y2 W (later_trans lr h)
      obtain ⟨hd4, _⟩ := dec10_size hm9
      have HDC := Lib.hid (fun W => spec_l9Dec m W (by omega))
      have hc7 : code.size = 7 := by
        unfold isCode at z4
        rw [Bool.and_eq_true, beq_iff_eq] at z4
        exact z4.1
      have hc7' : code.size ≤ 7 := by omega
      have ld := later_drew (Below.refl w2.heap.size w2)
      clear y1 y2 hc7 z4 hi1 hi2
      generalize decB m = t at *
      by_cases hk0 : k = 0
      · subst hk0
        simp only [Nat.zero_mul, Nat.zero_add, Nat.add_zero] at y1' y2'
        have HEQ : Hid (Value.string (P ++ t ++ ⟨#[58]⟩ ++ code) = .string (preB xs (0 + 1))) := by
          show _ = _
          have e1 : preB xs (0 + 1) = fmtL ⟨(m : Int), code⟩ := HP0.out rfl
          have e2 : P = ⟨#[]⟩ := by rw [← HPK.out, hZ.out]
          rw [e1, HFX.out, e2]
          all_goals congr 1
          all_goals refine ba_ext ?_
          all_goals simp
        clear hki hki0
        have hki : (0 : Int) < (xs.length : Int) := by omega
        go_wp2_with fail
        have ha1 : ¬ 9223372036854775807 < P.size + t.size := by omega
        have ha2 : ¬ 9223372036854775807 < P.size + t.size + 1 := by omega
        have ha3 : ¬ 9223372036854775807 < P.size + t.size + 1 + code.size := by omega
        go_region_held3 (fun W => Below w2.heap.size w2 W) (first | exact ld | exact l3 | fail) (first | (go_at_call 73; (with_reducible refine (HDC.out _).mono ?_); rintro e w3 ⟨rfl, b3⟩; have l3 := later_trans ld b3) | fail)
        all_goals
          go_wp2_with fail
          go_roundw
          case rel => exact ⟨0 + 1, by omega, by go_num, HEQ.out, later_trans lr l3⟩
          case measure => simp [intOf]; omega
      · have hki1 : (0 : Int) < (k : Int) := by omega
        have HEQ : Hid (Value.string (P ++ ⟨#[32]⟩ ++ t ++ ⟨#[58]⟩ ++ code) = .string (preB xs (k + 1))) := by
          show _ = _
          rw [HPN.out, HP1.out (by omega), HFX.out]
          congr 1
          refine ba_ext ?_
          simp [spT]
        have hQs : (P ++ (⟨#[32]⟩ : ByteArray)).size ≤ 781 := by rw [ByteArray.size_append]; show _ + 1 ≤ _; omega
        go_wp2_with fail
        generalize P ++ (⟨#[32]⟩ : ByteArray) = Q at *
        have ha1 : ¬ 9223372036854775807 < Q.size + t.size := by omega
        have ha2 : ¬ 9223372036854775807 < Q.size + t.size + 1 := by omega
        have ha3 : ¬ 9223372036854775807 < Q.size + t.size + 1 + code.size := by omega
        go_region_held3 (fun W => Below w2.heap.size w2 W) (first | exact ld | exact l3 | fail) (first | (go_at_call 73; (with_reducible refine (HDC.out _).mono ?_); rintro e w3 ⟨rfl, b3⟩; have l3 := later_trans ld b3) | fail)
        all_goals
          go_wp2_with fail
          go_roundw
          case rel => exact ⟨k + 1, by omega, by go_num, HEQ.out, later_trans lr l3⟩
          case measure => simp [intOf]; omega
    · have HE := Lib.hid (show k = xs.length by omega)
      have HPE : Hid (preB xs k = preB xs xs.length) := by show _ = _; rw [HE.out]
      generalize preB xs k = P at *
      by_cases hz : P.size = 0
      · have HZ2 : Hid (fmtB xs = ⟨#[45]⟩) := by show _ = _; rw [HF.out, ← HPE.out, if_pos hz]
        have HD := Lib.hid (fun W => spec_l2Dash P W)
        rw [if_pos hz] at HD
        clear hz
        go_wp2_with fail
        refine (HD.out _).mono ?_
        rintro e w3 ⟨rfl, rfl⟩
        go_wp2_with fail
        go_ret
        exact ⟨ret_str HZ2.out.symm, lr⟩
      · have HZ2 : Hid (fmtB xs = P) := by show _ = _; rw [HF.out, ← HPE.out, if_neg hz]
        have HD := Lib.hid (fun W => spec_l2Dash P W)
        rw [if_neg hz] at HD
        clear hz
        go_wp2_with fail
        refine (HD.out _).mono ?_
        rintro e w3 ⟨rfl, rfl⟩
        go_wp2_with fail
        go_ret
        exact ⟨ret_str HZ2.out.symm, lr⟩

end Go.Proofs.YtffbcfaahegglaaDoor

namespace Go.Proofs.YtffbcfaahegglaaDoor
open Go.RowKit

def fmtU (x : Fwd) : ByteArray := x.src ++ ⟨#[62]⟩ ++ x.dst
theorem pfx_size {s : ByteArray} (h : isPfx s = true) : s.size ≤ 7 := by
  unfold isPfx at h
  simp only [Bool.and_eq_true, decide_eq_true_iff] at h
  omega
theorem name_size {s : ByteArray} (h : isName s = true) : 1 ≤ s.size ∧ s.size ≤ 8 := by
  unfold isName at h
  simp only [Bool.and_eq_true, decide_eq_true_iff] at h
  omega
/-- Rules as a text; nothing if they are not valid. -/
def fmtRu (rs : List Fwd) : ByteArray := if rulesOk rs = true then (if rs.length = 0 then ⟨#[45]⟩ else joinT (rs.map fmtU) spT) else ⟨#[]⟩
theorem fmtRu_no {rs : List Fwd} (h : rulesOk rs = false) : fmtRu rs = ⟨#[]⟩ := by unfold fmtRu; rw [h]; rfl
theorem fmtRu_empty {rs : List Fwd} (h : rulesOk rs = true) (h0 : rs.length = 0) : fmtRu rs = ⟨#[45]⟩ := by unfold fmtRu; rw [if_pos h, if_pos h0]
theorem fmtRu_some {rs : List Fwd} (h : rulesOk rs = true) (h0 : rs.length ≠ 0) : fmtRu rs = joinT (rs.map fmtU) spT := by unfold fmtRu; rw [if_pos h, if_neg h0]
theorem rule_sizes {rs : List Fwd} (h : rulesOk rs = true) {k : Nat} (hk : k < rs.length) : rs[k].src.size ≤ 7 ∧ 1 ≤ rs[k].dst.size ∧ rs[k].dst.size ≤ 8 := by
  obtain ⟨h1, h2, _⟩ := (rulesOk_iff.1 h).2 k hk
  exact ⟨pfx_size h1, name_size h2⟩
theorem rule_fmt {rs : List Fwd} (h : rulesOk rs = true) : ∀ p ∈ rs.map fmtU, p.size ≤ 16 ∧ 1 ≤ p.size := fun p hp => by
  obtain ⟨x, hx, rfl⟩ := List.mem_map.1 hp
  obtain ⟨k, hk, rfl⟩ := List.getElem_of_mem hx
  have h1 := rule_sizes h hk
  unfold fmtU
  rw [ByteArray.size_append, ByteArray.size_append]
  show _ + 1 + _ ≤ 16 ∧ 1 ≤ _ + 1 + _
  omega
def preU (rs : List Fwd) (k : Nat) : ByteArray := joinT ((rs.take k).map fmtU) spT
theorem preU_zero (rs : List Fwd) : preU rs 0 = ⟨#[]⟩ := joinT_nil _
theorem preU_one {rs : List Fwd} (h : 0 < rs.length) : preU rs 1 = fmtU rs[0] := by
  unfold preU
  rw [List.take_succ_eq_append_getElem h, List.take_zero, List.nil_append, List.map_cons, List.map_nil, joinT_one]
theorem preU_succ {rs : List Fwd} {k : Nat} (h : k < rs.length) (h0 : 0 < k) : preU rs (k + 1) = preU rs k ++ spT ++ fmtU rs[k] := by
  unfold preU
  rw [List.take_succ_eq_append_getElem h, List.map_append, List.map_cons, List.map_nil, joinT_snoc]
  intro e
  have := congrArg List.length e
  rw [List.length_map, List.length_take, List.length_nil] at this
  omega
theorem preU_size {rs : List Fwd} (h : rulesOk rs = true) (k : Nat) : (preU rs k).size ≤ 340 := by
  have h1 := joinT_size ((rs.take k).map fmtU) spT 16 fun p hp => (rule_fmt h p (by
    obtain ⟨x, hx, rfl⟩ := List.mem_map.1 hp
    exact List.mem_map.2 ⟨x, List.mem_of_mem_take hx, rfl⟩)).1
  have h2 := (rulesOk_iff.1 h).1
  rw [List.length_map] at h1
  have h3 : (rs.take k).length * (16 + spT.size) ≤ 20 * 17 := Nat.mul_le_mul (by rw [List.length_take]; omega) (Nat.le_refl _)
  unfold preU
  omega
theorem preU_pos {rs : List Fwd} (h : rulesOk rs = true) (h0 : 0 < rs.length) : 1 ≤ (preU rs rs.length).size := by
  obtain ⟨k, hk⟩ : ∃ k, rs.length = k + 1 := ⟨rs.length - 1, by omega⟩
  rw [hk]
  have hp : ∀ (j : Nat) (hj : j < rs.length), 1 ≤ (fmtU rs[j]).size := fun j hj => (rule_fmt h _ (List.mem_map.2 ⟨_, List.getElem_mem hj, rfl⟩)).2
  by_cases hk0 : k = 0
  · subst hk0
    rw [preU_one h0]; exact hp 0 h0
  · rw [preU_succ (by omega) (by omega), ByteArray.size_append]
    have := hp k (by omega)
    omega
theorem fmtRu_size (rs : List Fwd) : (fmtRu rs).size ≤ 340 := by
  cases h : rulesOk rs
  · rw [fmtRu_no h]; exact Nat.zero_le _
  · by_cases h0 : rs.length = 0
    · rw [fmtRu_empty h h0]; exact (by decide : (1 : Nat) ≤ 340)
    · rw [fmtRu_some h h0]
      have := preU_size h rs.length
      unfold preU at this
      rwa [List.take_length] at this

set_option maxRecDepth 100000 in
set_option maxHeartbeats 1600000 in
theorem spec_FormatRules (v : Value) (rs : List Fwd) (w : World) (hv : rd w w.heap.size v rs) :
    Calls Tryd.prog 15 #[v] w fun e w' => e = .returned (.string (fmtRu rs)) ∧ Below w.heap.size w w' := by
  have HV := Lib.hid hv
  obtain ⟨A, n, c, rfl, hn, hc, hm, hr⟩ := hv
  subst hn
  have HR := Lib.hid hr; clear hr
  go_enter Tryd.func15, Tryd.ntmps15
  go_wp2_with fail
  refine (spec_RulesValid _ rs _ HV.out).mono ?_
  rintro e w1 ⟨rfl, rfl⟩
  have l1 := Below.refl w.heap.size w
  cases hok : rulesOk rs
  · have HF := Lib.hid (fmtRu_no hok)
    clear hok
    go_wp2_with fail
    go_ret
    exact ⟨ret_str HF.out.symm, l1⟩
  have HOK := Lib.hid hok
  have h60 := (rulesOk_iff.1 hok).1
  have HF : Hid (fmtRu rs = if (preU rs rs.length).size = 0 then ⟨#[45]⟩ else preU rs rs.length) := by
    show _ = _
    by_cases h0 : rs.length = 0
    · rw [fmtRu_empty hok h0, h0, preU_zero]; rfl
    · have := preU_pos hok (by omega)
      rw [fmtRu_some hok h0, if_neg (by omega)]
      unfold preU
      rw [List.take_length]
  clear hok
  go_wp2_with fail
  go_loopw [3, 4] (fun t i wr => ∃ k : Nat, k ≤ rs.length ∧ i = .int .i64 k ∧ t = .string (preU rs k) ∧ Below w.heap.size w wr) (fun _ i _ => rs.length - (intOf i).toNat)
  case atStart => exact ⟨0, Nat.zero_le _, rfl, by rw [preU_zero], l1⟩
  case round =>
    obtain ⟨k, hk, rfl, rfl, lr⟩ := hrel
    obtain ⟨w2, rfl⟩ : ∃ w2 : World, w2 = wr := ⟨_, rfl⟩
    clear l1
    by_cases hlt : k < rs.length
    · obtain ⟨b, o, rfl, hb, _, y1, y2⟩ := HR.out.fwdU k hlt
      have y1 := y1 w2 lr
      have y2 := y2 w2 lr
      have HSZ := Lib.hid (rule_sizes HOK.out hlt)
      have HP0 : Hid (k = 0 → preU rs 1 = fmtU rs[k]) := fun h => by subst h; exact preU_one hlt
      have HP1 := Lib.hid (fun h => preU_succ hlt h)
      have hps := preU_size HOK.out k
      have hZ := Lib.hid (preU_zero rs)
      obtain ⟨PN, hPN⟩ : ∃ P, preU rs (k + 1) = P := ⟨_, rfl⟩
      obtain ⟨P, hP⟩ : ∃ P, preU rs k = P := ⟨_, rfl⟩
      rw [hPN] at HP1
      rw [hP] at HP1 hps ⊢
      have HPN := Lib.hid hPN
      have HPK := Lib.hid hP
      clear hPN hP
      generalize rs[k] = x at *
      obtain ⟨p, q⟩ := x
      have hsz := HSZ.out
      simp only at hsz y1 y2
      obtain ⟨s1, _, s2⟩ := hsz
      have hki : (k : Int) < (rs.length : Int) := by omega
      have hki0 : (0 : Int) ≤ (k : Int) := by omega
      by_cases hk0 : k = 0
      · subst hk0
        simp only [Nat.zero_mul, Nat.zero_add, Nat.add_zero] at y1 y2
        have HEQ : Hid (Value.string (P ++ p ++ ⟨#[62]⟩ ++ q) = .string (preU rs (0 + 1))) := by
          show _ = _
          have e1 : preU rs (0 + 1) = fmtU ⟨p, q⟩ := HP0.out rfl
          have e2 : P = ⟨#[]⟩ := by rw [← HPK.out, hZ.out]
          rw [e1, e2]
          unfold fmtU
          all_goals congr 1
          all_goals refine ba_ext ?_
          all_goals simp
        clear hki hki0
        have hki : (0 : Int) < (rs.length : Int) := by omega
        have ha1 : ¬ 9223372036854775807 < P.size + p.size := by omega
        have ha2 : ¬ 9223372036854775807 < P.size + p.size + 1 := by omega
        have ha3 : ¬ 9223372036854775807 < P.size + p.size + 1 + q.size := by omega
        go_wp2_with fail
        go_quiet (fail)
        go_wp2_with fail
        go_roundw
        case rel => exact ⟨0 + 1, by omega, by go_num, HEQ.out, below_drewN lr _⟩
        case measure => simp [intOf]; omega
      · have hki1 : (0 : Int) < (k : Int) := by omega
        have HEQ : Hid (Value.string (P ++ ⟨#[32]⟩ ++ p ++ ⟨#[62]⟩ ++ q) = .string (preU rs (k + 1))) := by
          show _ = _
          rw [HPN.out, HP1.out (by omega)]
          unfold fmtU
          congr 1
          refine ba_ext ?_
          simp [spT]
        have hQs : (P ++ (⟨#[32]⟩ : ByteArray)).size ≤ 341 := by rw [ByteArray.size_append]; show _ + 1 ≤ _; omega
        go_wp2_with fail
        generalize P ++ (⟨#[32]⟩ : ByteArray) = Q at *
        have ha1 : ¬ 9223372036854775807 < Q.size + p.size := by omega
        have ha2 : ¬ 9223372036854775807 < Q.size + p.size + 1 := by omega
        have ha3 : ¬ 9223372036854775807 < Q.size + p.size + 1 + q.size := by omega
        go_quiet (fail)
        go_wp2_with fail
        go_roundw
        case rel => exact ⟨k + 1, by omega, by go_num, HEQ.out, below_drewN lr _⟩
        case measure => simp [intOf]; omega
    · have HE := Lib.hid (show k = rs.length by omega)
      have HPE : Hid (preU rs k = preU rs rs.length) := by show _ = _; rw [HE.out]
      generalize preU rs k = P at *
      by_cases hz : P.size = 0
      · have HZ2 : Hid (fmtRu rs = ⟨#[45]⟩) := by show _ = _; rw [HF.out, ← HPE.out, if_pos hz]
        have HD := Lib.hid (fun W => spec_l2Dash P W)
        rw [if_pos hz] at HD
        clear hz
        go_wp2_with fail
        refine (HD.out _).mono ?_
        rintro e w3 ⟨rfl, rfl⟩
        go_wp2_with fail
        go_ret
        exact ⟨ret_str HZ2.out.symm, lr⟩
      · have HZ2 : Hid (fmtRu rs = P) := by show _ = _; rw [HF.out, ← HPE.out, if_neg hz]
        have HD := Lib.hid (fun W => spec_l2Dash P W)
        rw [if_neg hz] at HD
        clear hz
        go_wp2_with fail
        refine (HD.out _).mono ?_
        rintro e w3 ⟨rfl, rfl⟩
        go_wp2_with fail
        go_ret
        exact ⟨ret_str HZ2.out.symm, lr⟩

set_option maxRecDepth 100000 in
set_option maxHeartbeats 1600000 in
theorem impl_FormatRules (v : Value) (rs : List Fwd) (w : World) (hv : rd w w.heap.size v rs) :
    Calls Tryd.prog 14 #[v] w fun e w' => e = .returned (.string (fmtRu rs)) ∧ Below w.heap.size w w' := by
  have HV := Lib.hid hv
  obtain ⟨A, n, c, rfl, hn, hc, hm, hr⟩ := hv
  subst hn
  have HR := Lib.hid hr; clear hr
  obtain ⟨i0, hi, hz0, hz1, hz2⟩ := info_parts Tryd.infoStr
  have l0 := Below.refl w.heap.size w
  go_enter Tryd.func14, Tryd.ntmps14
  go_wp2_with fail
  refine (impl_RulesValid _ rs _ HV.out).mono ?_
  rintro e w1 ⟨rfl, b1⟩
  have l1 := b1
  clear b1 l0
  cases hok : rulesOk rs
  · have HF := Lib.hid (fmtRu_no hok)
    clear hok
    go_wp2_with fail
    go_ret
    exact ⟨ret_str HF.out.symm, l1⟩
  have HOK := Lib.hid hok
  have h60 := (rulesOk_iff.1 hok).1
  by_cases h0 : rs.length = 0
  · have HF := Lib.hid (fmtRu_empty hok h0)
    have hl0 : ((rs.length : Int) == 0) = true := by rw [h0]; rfl
    clear hok h0
    go_wp2_with fail
    go_ret
    exact ⟨ret_str HF.out.symm, l1⟩
  have HF := Lib.hid (fmtRu_some hok h0)
  have hl0 : ((rs.length : Int) == 0) = false := beq_eq_false_iff_ne.2 (by omega)
  have hpos : 0 < rs.length := by omega
  clear hok h0
  have hmk := make_row (P := Tryd.prog) 61 9 i0 _ Tryd.underlying61 hi hz0 rs.length (by rw [hz2]; omega) (by omega)
  go_wp2_with fail
  have hf0 : filled 9 (w1.alloc (Obj.cells (madeCells #[.string ⟨#[]⟩] rs.length) 9)) w1.heap.size rs.length 0 (rs.map fmtU) := filled.made w1 _ _ _ (by rw [size_madeCells]; exact (Nat.mul_one _).symm) _
  have hb0 : Below w1.heap.size w1 (w1.alloc (Obj.cells (madeCells #[.string ⟨#[]⟩] rs.length) 9)) := (Below.refl _ _).alloc (Nat.le_refl _) _
  generalize w1.alloc (Obj.cells (madeCells #[.string ⟨#[]⟩] rs.length) 9) = w0 at *
  clear hmk
  have HLN : Hid ((rs.map fmtU).length = rs.length) := by show _ = _; rw [List.length_map]
  go_loopw [17] (fun i wr => ∃ k : Nat, k ≤ rs.length ∧ i = .int .i64 k ∧ Below w1.heap.size w1 wr ∧ filled 9 wr w1.heap.size rs.length k (rs.map fmtU)) (fun i _ => rs.length - (intOf i).toNat)
  case atStart => exact ⟨0, Nat.zero_le _, rfl, hb0, hf0⟩
  case round =>
    obtain ⟨k, hk, rfl, hbl, hf⟩ := hrel
    obtain ⟨w2, rfl⟩ : ∃ w2 : World, w2 = wr := ⟨_, rfl⟩
    clear hf0 hb0
    have hs1 := l1.size
    by_cases hlt : k < rs.length
    · obtain ⟨b, o, rfl, hb, _, y1, y2⟩ := HR.out.fwdU k hlt
      have y1 := y1 w2 (later_trans l1 hbl)
      have y2 := y2 w2 (later_trans l1 hbl)
      have HSZ0 := Lib.hid (rule_sizes HOK.out hlt)
      have hLk : (rs.map fmtU)[k]'(by rw [HLN.out]; exact hlt) = fmtU rs[k] := by simp
      have HSZ := Lib.hid (rule_fmt HOK.out (fmtU rs[k]) (List.mem_map.2 ⟨_, List.getElem_mem hlt, rfl⟩))
      have HST := Lib.hid (fun (W : World) (hF : filled 9 W w1.heap.size rs.length k (rs.map fmtU)) => hF.step (by rw [HLN.out]; exact hlt) (by rw [HLN.out]; exact Nat.le_refl _) (ecs := [.string (fmtU rs[k])]) (by rw [hLk]; exact ⟨by have := HSZ.out.1; unfold maxLen; omega, rfl⟩))
      clear hLk
      generalize rs[k] = x at *
      obtain ⟨p, q⟩ := x
      have hsz := HSZ0.out
      simp only at hsz y1 y2
      obtain ⟨s1, _, s2⟩ := hsz
      have HFX : Hid (fmtU ⟨p, q⟩ = p ++ ⟨#[62]⟩ ++ q) := rfl
      have hki : (k : Int) < (rs.length : Int) := by omega
      have hki0 : (0 : Int) ≤ (k : Int) := by omega
      have hs2 := hbl.size
      have hne : w1.heap.size < w2.heap.size := by obtain ⟨cs, h1, _⟩ := hf; exact (Array.getElem?_eq_some_iff.1 h1).1
      have hs60 : ¬ 9223372036854775807 < p.size + 1 + q.size := by omega
      have hs61 : ¬ 9223372036854775807 < p.size + 1 := by omega
      have lb : Below w2.heap.size w2 (w2.alloc (Obj.cells #[.string p, .string q] 65)) := (Below.refl _ _).alloc (Nat.le_refl _) _
      have hf3 := hf.below lb
      obtain ⟨u0, g0⟩ := hf3.cell (j := k) (by show _ < _ * 1; omega)
      have f0 := hf3.free k
      have HF3 := Lib.hid hf
      have HLB := Lib.hid hbl
      clear hf3 hf
      go_wp2_with fail
      go_roundw
      case rel =>
        have := HST.out _ HF3.out
        rw [show k * El.size ByteArray = k from Nat.mul_one k, HFX.out] at this
        have hbs := HLB.out.trans (setAll_below [.string (p ++ ⟨#[62]⟩ ++ q)] _ k _ (Nat.le_refl _))
        exact ⟨k + 1, by omega, by go_num, hbs.alloc hbs.size _, this.below ((Below.refl _ _).alloc (Nat.le_refl _) _)⟩
      case measure => simp [intOf]; omega
    · have HE := Lib.hid (show k = rs.length by omega)
      have HO := Lib.hid ((HE.out ▸ hf : filled _ _ _ _ rs.length _).own HLN.out.symm (Nat.le_refl _) (by unfold maxLen; omega))
      clear hf
      have l2 := later_trans l1 hbl
      have hjz := joinT_size (rs.map fmtU) spT 16 fun p hp => (rule_fmt HOK.out p hp).1
      rw [HLN.out] at hjz
      have hjz2 : rs.length * (16 + spT.size) ≤ 20 * 17 := Nat.mul_le_mul h60 (Nat.le_refl _)
      have HJ := Lib.hid (join_own (sep := spT) HO.out HLN.out.symm (by rw [HLN.out]; omega) (by omega))
      clear hjz hjz2
      go_wp2_with fail
      refine HJ.out.mono ?_
      rw [← HF.out]
      rintro e w3 ⟨rfl, b3⟩
      have l3 := later_trans l2 b3
      go_wp2_with fail
      go_ret
      exact ⟨rfl, l3⟩

end Go.Proofs.YtffbcfaahegglaaDoor
