/- FA FB FC FR PS ZS QC QD -/
import Derived.Test.YtpinkbodbedajaaGreatDoorQ18
import Derived.Test.YtpinkbodbedajaaGreatDoorQ2
import Derived.Test.YtpinkbodbedajaaGreatDoorQ12
import Derived.Test.YtpinkbodbedajaaGreatDoorQ4
import Derived.Lib.SmallJoins
import Derived.Test.YtpinkbodbedajaaGreatDoorQ8
import Derived.Test.YtpinkbodbedajaaGreatDoorQ3
import Derived.Test.YtpinkbodbedajaaGreatDoorQ16
import Derived.Test.YtpinkbodbedajaaGreatDoorQ20
import Derived.Lib.SplitLaws
namespace Go.Proofs.YtpinkbodbedajaaGreatDoor
open Go.RowKit

/-! ### Plain facts -/
theorem decDigits_dec : ∀ n : Nat, Lib.decDigits n = decL n := by
  intro n
  induction n using Nat.strongRecOn with
  | _ n ih =>
    rw [Lib.decDigits]
    by_cases h : n < 10
    · rw [dif_pos h]
      unfold decL
      by_cases h0 : n = 0
      · rw [if_pos h0, h0]; rfl
      · rw [if_neg h0, dec10_small (by omega) (by omega)]
        unfold b8
        rw [show (48 + (n : Int)).toNat = 48 + n by omega]
    · rw [dif_neg h, ih (n / 10) (by omega)]
      unfold decL
      rw [if_neg (by omega), if_neg (by omega), dec10_step (n := n) (by omega)]
theorem itoa_dec (n : Nat) : (⟨(Lib.itoa (n : Int)).toArray⟩ : ByteArray) = decB n := by
  unfold Lib.itoa decB
  rw [if_neg (by omega), Int.toNat_natCast, decDigits_dec]
theorem inter_snoc {α : Type} (sep x : List α) : ∀ (l : List (List α)), l ≠ [] → sep.intercalate (l ++ [x]) = sep.intercalate l ++ sep ++ x
  | [], h => absurd rfl h
  | [a], _ => by simp [List.intercalate, List.intersperse]
  | a :: b :: l, _ => by
    have ih := inter_snoc sep x (b :: l) (by simp)
    have e : ∀ (c : List α) (m : List (List α)), sep.intercalate (a :: c :: m) = a ++ sep ++ sep.intercalate (c :: m) := fun c m => by
      simp [List.intercalate, List.intersperse]
    rw [List.cons_append, List.cons_append, e, ← List.cons_append, ih, e]
    simp only [List.append_assoc]
/-- Parts with a separator between them. -/
def joinT (ps : List ByteArray) (sep : ByteArray) : ByteArray := ⟨(Lib.join (ps.map (·.data.toList)) sep.data.toList).toArray⟩
theorem joinT_nil (sep : ByteArray) : joinT [] sep = ⟨#[]⟩ := by
  unfold joinT Lib.join; rfl
theorem joinT_one (p sep : ByteArray) : joinT [p] sep = p := by
  refine ba_ext ?_
  simp [joinT, Lib.join, List.intercalate, List.intersperse]
theorem joinT_snoc (ps : List ByteArray) (p sep : ByteArray) (h : ps ≠ []) : joinT (ps ++ [p]) sep = joinT ps sep ++ sep ++ p := by
  refine ba_ext ?_
  rw [ba_append, ba_append]
  unfold joinT Lib.join
  rw [List.map_append, List.map_cons, List.map_nil, inter_snoc _ _ _ (by simpa using h)]
theorem joinT_size (ps : List ByteArray) (sep : ByteArray) (m : Nat) (h : ∀ p ∈ ps, p.size ≤ m) : (joinT ps sep).size ≤ ps.length * (m + sep.size) := by
  have key : ∀ l : List ByteArray, (∀ p ∈ l, p.size ≤ m) → (joinT l.reverse sep).size ≤ l.length * (m + sep.size) := fun l => by
    induction l with
    | nil => intro _; rw [List.reverse_nil, joinT_nil]; exact Nat.zero_le _
    | cons p l ih =>
      intro hl
      have ih := ih fun q hq => hl q (List.mem_cons_of_mem _ hq)
      have hp := hl p List.mem_cons_self
      rw [List.reverse_cons, List.length_cons, Nat.add_mul, Nat.one_mul]
      by_cases h0 : l.reverse = []
      · rw [h0, List.nil_append, joinT_one]; omega
      · rw [joinT_snoc _ _ _ h0, ByteArray.size_append, ByteArray.size_append]; omega
  have := key ps.reverse (fun p hp => h p (by simpa using hp))
  rwa [List.reverse_reverse, List.length_reverse] at this
theorem joinT_len (ps : List ByteArray) (sep : ByteArray) : (Lib.join (ps.map (·.data.toList)) sep.data.toList).length = (joinT ps sep).size := List.size_toArray.symm

/-- A letter as a text. -/
def fmtL (x : Ltr) : ByteArray := decB x.id.toNat ++ ⟨#[58]⟩ ++ x.code
theorem dec10_size {n : Nat} (h : n ≤ 9999) : (decB n).size ≤ 4 ∧ 1 ≤ (decB n).size := by
  have key : ∀ (f m : Nat), m < 10 ^ f → (dec10 m).length ≤ f ∧ (0 < m → 1 ≤ (dec10 m).length) := fun f => by
    induction f with
    | zero => intro m hm; have : m = 0 := by simp at hm; exact hm
              subst this; exact ⟨by rw [dec10]; simp, fun h => by omega⟩
    | succ f ih =>
      intro m hm
      by_cases h0 : m = 0
      · subst h0; exact ⟨by rw [dec10]; simp, fun h => by omega⟩
      · have hd : m / 10 < 10 ^ f := by
          rw [Nat.pow_succ] at hm
          exact Nat.div_lt_of_lt_mul (by omega)
        have := (ih (m / 10) hd).1
        rw [dec10_step (by omega), List.length_append]
        exact ⟨by simp; omega, fun _ => by simp⟩
  have hk := key 4 n (by omega)
  have hs : (decB n).size = (decL n).length := List.size_toArray
  rw [hs]
  unfold decL
  by_cases h0 : n = 0
  · rw [if_pos h0]; simp
  · rw [if_neg h0]; exact ⟨hk.1, hk.2 (by omega)⟩
theorem fmtL_size {x : Ltr} (h : x.id ≤ 9999) (hc : x.code.size = 7) : (fmtL x).size ≤ 12 ∧ 1 ≤ (fmtL x).size := by
  have := dec10_size (n := x.id.toNat) (by omega)
  unfold fmtL
  rw [ByteArray.size_append, ByteArray.size_append, hc]
  show _ + 1 + 7 ≤ 12 ∧ 1 ≤ _ + 1 + 7
  omega
def spT : ByteArray := ⟨#[32]⟩
/-- A batch as a text; nothing if it is none. -/
def fmtB (xs : List Ltr) : ByteArray := if okB xs = true then (if xs.length = 0 then ⟨#[45]⟩ else joinT (xs.map fmtL) spT) else ⟨#[]⟩
theorem fmtB_no {xs : List Ltr} (h : okB xs = false) : fmtB xs = ⟨#[]⟩ := by unfold fmtB; rw [h]; rfl
theorem fmtB_empty {xs : List Ltr} (h : okB xs = true) (h0 : xs.length = 0) : fmtB xs = ⟨#[45]⟩ := by unfold fmtB; rw [if_pos h, if_pos h0]
theorem fmtB_some {xs : List Ltr} (h : okB xs = true) (h0 : xs.length ≠ 0) : fmtB xs = joinT (xs.map fmtL) spT := by unfold fmtB; rw [if_pos h, if_neg h0]
theorem okB_fmt {xs : List Ltr} (h : okB xs = true) : ∀ p ∈ xs.map fmtL, p.size ≤ 12 ∧ 1 ≤ p.size := fun p hp => by
  obtain ⟨x, hx, rfl⟩ := List.mem_map.1 hp
  obtain ⟨k, hk, rfl⟩ := List.getElem_of_mem hx
  have h1 := (okB_iff.1 h).2 k hk
  have h2 := h1.2.2.1
  unfold isCode at h2
  rw [Bool.and_eq_true, beq_iff_eq] at h2
  exact fmtL_size h1.2.1 h2.1
theorem fmtB_size (xs : List Ltr) : (fmtB xs).size ≤ 1000 := by
  cases h : okB xs
  · rw [fmtB_no h]; exact Nat.zero_le _
  · by_cases h0 : xs.length = 0
    · rw [fmtB_empty h h0]; exact (by decide : (1 : Nat) ≤ 1000)
    · rw [fmtB_some h h0]
      have h1 := joinT_size (xs.map fmtL) spT 12 fun p hp => (okB_fmt h p hp).1
      have h2 := (okB_iff.1 h).1
      rw [List.length_map] at h1
      have h3 : xs.length * (12 + spT.size) ≤ 60 * 13 := Nat.mul_le_mul h2 (Nat.le_refl _)
      omega
end Go.Proofs.YtpinkbodbedajaaGreatDoor

namespace Go.Proofs.YtpinkbodbedajaaGreatDoor
open Go.RowKit

/-- The library's table of powers of ten lies where it lay. -/
def TabW (w : World) : Prop := Lib.TabIs Tryz.prog w "internal/strconv.uint64pow10" .u64 Lib.pow10Tab
theorem TabW.on {w w' : World} (h : TabW w) (hb : Below w.heap.size w w') : TabW w' :=
  Go.Joins.tab_stays (g := 2) (by kernel_rfl) h hb (Nat.le_refl _)
theorem below_grow (w : World) (k : Nat) (os : Array Obj) : Below w.heap.size w (Go.Sort.grow (w.drewN k) os) := by
  have h := below_drewN (Below.refl w.heap.size w) k
  refine ⟨h.os, h.tape, h.output, ?_, fun i hi => ?_⟩
  · show _ ≤ ((w.drewN k).heap ++ os).size
    rw [Array.size_append]
    have := h.size
    omega
  · show ((w.drewN k).heap ++ os)[i]? = _
    rw [Array.getElem?_append_left (by have := h.size; omega)]
    exact h.block i hi
theorem strconv_ItoaN (n : Nat) (w : World) (hn : n ≤ 9999) (ht : TabW w) :
    Calls Tryz.prog 56 #[.int .i64 (n : Int)] w fun e w' => e = .returned (.string (decB n)) ∧ Below w.heap.size w w' := by
  refine (Tryz.strconv_Itoa (n : Int) (by omega) (by omega) w ht).mono ?_
  rintro e w' ⟨rfl, k, os, rfl⟩
  exact ⟨by rw [itoa_dec], below_grow w k os⟩

theorem join_own {T base g n c : Nat} {w : World} {ps : List ByteArray} {sep : ByteArray} (h : own T base w (.slice (some ⟨g, 0, none⟩) n c) ps) (hn : n = ps.length) (hN : ps.length ≤ 1048576) (hs : (joinT ps sep).size ≤ 140737488355328) :
    Calls Tryz.prog 57 #[.slice (some ⟨g, 0, none⟩) n c, .string sep] w fun e w' => e = .returned (.string (joinT ps sep)) ∧ Below w.heap.size w w' := by
  obtain ⟨A', n', c', hv, hn', hc, hm, hr⟩ := h.rd
  injection hv with e1 e2 e3
  subst e1 e2 e3 hn
  have hg : g < w.heap.size := (h.blk g rfl).2
  refine Tryz.strings_Join g 0 c ps sep w (fun j x hx => ?_) hg (by omega) hc (by rw [joinT_len]; exact hs)
  · obtain ⟨hj, rfl⟩ := List.getElem?_eq_some_iff.1 hx
    obtain ⟨b, o, hA, _, _, c1⟩ := hr.str j hj
    injection hA with hA
    injection hA with hA1 hA2
    subst hA1 hA2
    exact c1

set_option maxRecDepth 100000 in
set_option maxHeartbeats 1600000 in
theorem impl_FormatBatch (v : Value) (xs : List Ltr) (w : World) (hv : rd w w.heap.size v xs) (ht : TabW w) :
    Calls Tryz.prog 12 #[v] w fun e w' => e = .returned (.string (fmtB xs)) ∧ Below w.heap.size w w' := by
  have HV := Lib.hid hv
  obtain ⟨A, n, c, rfl, hn, hc, hm, hr⟩ := hv
  subst hn
  have HR := Lib.hid hr; clear hr
  have HT := Lib.hid ht; clear ht
  obtain ⟨i0, hi, hz0, hz1, hz2⟩ := info_parts Tryz.infoStr
  have l0 := Below.refl w.heap.size w
  go_enter Tryz.func12, Tryz.ntmps12
  go_wp2_with fail
  refine (impl_BatchValid _ xs _ HV.out).mono ?_
  rintro e w1 ⟨rfl, b1⟩
  have l1 := b1
  clear b1 l0
  cases hok : okB xs
  · have HF := Lib.hid (fmtB_no hok)
    clear hok
    go_wp2_with fail
    go_ret
    exact ⟨ret_str HF.out.symm, l1⟩
  have HOK := Lib.hid hok
  have h60 := (okB_iff.1 hok).1
  by_cases h0 : xs.length = 0
  · have HF := Lib.hid (fmtB_empty hok h0)
    have hl0 : ((xs.length : Int) == 0) = true := by rw [h0]; rfl
    clear hok h0
    go_wp2_with fail
    go_ret
    exact ⟨ret_str HF.out.symm, l1⟩
  have HF := Lib.hid (fmtB_some hok h0)
  have hl0 : ((xs.length : Int) == 0) = false := beq_eq_false_iff_ne.2 (by omega)
  have hpos : 0 < xs.length := by omega
  clear hok h0
  have hmk := make_row (P := Tryz.prog) 23 9 i0 _ Tryz.underlying23 hi hz0 xs.length (by rw [hz2]; omega) (by omega)
  go_wp2_with fail
  have hf0 : filled 9 (w1.alloc (Obj.cells (madeCells #[.string ⟨#[]⟩] xs.length) 9)) w1.heap.size xs.length 0 (xs.map fmtL) := filled.made w1 _ _ _ (by rw [size_madeCells]; exact (Nat.mul_one _).symm) _
  have hb0 : Below w1.heap.size w1 (w1.alloc (Obj.cells (madeCells #[.string ⟨#[]⟩] xs.length) 9)) := (Below.refl _ _).alloc (Nat.le_refl _) _
  generalize w1.alloc (Obj.cells (madeCells #[.string ⟨#[]⟩] xs.length) 9) = w0 at *
  clear hmk
  have HLN : Hid ((xs.map fmtL).length = xs.length) := by show _ = _; rw [List.length_map]
  go_loopw [17] (fun i wr => ∃ k : Nat, k ≤ xs.length ∧ i = .int .i64 k ∧ Below w1.heap.size w1 wr ∧ filled 9 wr w1.heap.size xs.length k (xs.map fmtL)) (fun i _ => xs.length - (intOf i).toNat)
  case atStart => exact ⟨0, Nat.zero_le _, rfl, hb0, hf0⟩
  case round =>
    obtain ⟨k, hk, rfl, hbl, hf⟩ := hrel
    obtain ⟨w2, rfl⟩ : ∃ w2 : World, w2 = wr := ⟨_, rfl⟩
    clear hf0 hb0
    have hs1 := l1.size
    by_cases hlt : k < xs.length
    · obtain ⟨b, o, rfl, hb, ⟨⟨hi1, hi2⟩, hcz⟩, y1, y2⟩ := HR.out.ltrU k hlt
      have y1 := y1 w2 (later_trans l1 hbl)
      have y2 := y2 w2 (later_trans l1 hbl)
      obtain ⟨z1, z2, z4, _⟩ := (okB_iff.1 HOK.out).2 k hlt
      have hLk : (xs.map fmtL)[k]'(by rw [HLN.out]; exact hlt) = fmtL xs[k] := by simp
      have HSZ := Lib.hid (okB_fmt HOK.out (fmtL xs[k]) (List.mem_map.2 ⟨_, List.getElem_mem hlt, rfl⟩))
      have HST := Lib.hid (fun (W : World) (hF : filled 9 W w1.heap.size xs.length k (xs.map fmtL)) => hF.step (by rw [HLN.out]; exact hlt) (by rw [HLN.out]; exact Nat.le_refl _) (ecs := [.string (fmtL xs[k])]) (by rw [hLk]; exact ⟨by have := HSZ.out.1; unfold maxLen; omega, rfl⟩))
      clear hLk
      generalize xs[k] = x at *
      obtain ⟨id, code⟩ := x
      simp only at hi1 hi2 hcz y1 y2 z1 z2 z4
      obtain ⟨m, rfl⟩ := Int.eq_ofNat_of_zero_le (show 0 ≤ id by omega)
      have hm9 : m ≤ 9999 := by omega
      have HFX : Hid (fmtL ⟨(m : Int), code⟩ = decB m ++ ⟨#[58]⟩ ++ code) := by show _ = _; unfold fmtL; rw [Int.toNat_natCast]
      have hki : (k : Int) < (xs.length : Int) := by omega
      have hki0 : (0 : Int) ≤ (k : Int) := by omega
      have hs2 := hbl.size
      obtain ⟨wb, hwb⟩ : ∃ u, u = w2.alloc (Obj.cells #[.int .i64 (m : Int), .string code] 89) := ⟨_, rfl⟩
      have q0 := box_cells hwb 0 (.int .i64 (m : Int)) rfl
      have q1 := box_cells hwb 1 (.string code) rfl
      have lb := (box_later hwb).1
      have hne : w1.heap.size < w2.heap.size := by obtain ⟨cs, h1, _⟩ := hf; exact (Array.getElem?_eq_some_iff.1 h1).1
      have HFB := Lib.hid (hf.below lb)
      have HLB := Lib.hid (later_trans hbl lb)
      have HTB := Lib.hid (HT.out.on (later_trans (later_trans l1 hbl) lb))
      have HWB := Lib.hid hwb; clear hwb hf
      go_wp2_with fail
      rw [← HWB.out]
      have ld := later_drew (Below.refl wb.heap.size wb)
      have hwz : wb.heap.size = w2.heap.size + 1 := by rw [HWB.out]; simp
      have e0 := q0 _ ld
      have e1 := q1 _ ld
      obtain ⟨hd4, _⟩ := dec10_size hm9
      have HIT := Lib.hid (fun W (hW : Below wb.heap.size wb W) => strconv_ItoaN m W hm9 (HTB.out.on hW))
      generalize decB m = t at *
      have hc7 : code.size = 7 := by
        unfold isCode at z4
        rw [Bool.and_eq_true, beq_iff_eq] at z4
        exact z4.1
      have hs58 : t.size + (⟨#[58]⟩ : ByteArray).size ≤ 9223372036854775807 := by show _ + 1 ≤ _; omega
      have hs59 : (t ++ (⟨#[58]⟩ : ByteArray)).size + code.size ≤ 9223372036854775807 := by rw [ByteArray.size_append]; show _ + 1 + _ ≤ _; omega
      have hs60 : ¬ 9223372036854775807 < t.size + 1 + code.size := by omega
      have hs61 : ¬ 9223372036854775807 < t.size + 1 := by omega
      have HC7 := Lib.hid hc7; clear hc7
      go_region_held3 (fun W => W.cell? ⟨w2.heap.size, 0, none⟩ = some (.int .i64 (m : Int)) ∧ W.cell? ⟨w2.heap.size, 1, none⟩ = some (.string code)) (first | exact ⟨e0, e1⟩ | exact ⟨e03, e13⟩ | exact ⟨e04 _, e14 _⟩ | fail) (first | (go_at_call 56; (with_reducible refine (HIT.out _ ld).mono ?_); rintro e w3 ⟨rfl, b3⟩; have l3 := later_trans ld b3; have e03 := q0 w3 l3; have e13 := q1 w3 l3; have hf3 := HFB.out.below l3; obtain ⟨u0, g0⟩ := hf3.cell (j := k) (by show _ < _ * 1; omega); have f0 := hf3.free k; have e04 := (fun v : Value => (World.cell?_setCell_other w3 ⟨w1.heap.size, k, none⟩ ⟨w2.heap.size, 0, none⟩ v (fun e => by injection e; omega)).trans e03); have e14 := (fun v : Value => (World.cell?_setCell_other w3 ⟨w1.heap.size, k, none⟩ ⟨w2.heap.size, 1, none⟩ v (fun e => by injection e; omega)).trans e13)) | fail)
      all_goals
        have HF3 := Lib.hid hf3
        have HB3 := Lib.hid (later_trans HLB.out l3)
        clear hf3 g0 f0 e03 e13 e04 e14 b3 l3 e0 e1
        go_wp2_with fail
        go_roundw
        case rel =>
          have := HST.out w3 HF3.out
          rw [show k * El.size ByteArray = k from Nat.mul_one k, HFX.out] at this
          exact ⟨k + 1, by omega, by go_num, HB3.out.trans (setAll_below [.string _] w3 k _ (Nat.le_refl _)), this⟩
        case measure => simp [intOf]; omega
    · have HE := Lib.hid (show k = xs.length by omega)
      have HO := Lib.hid ((HE.out ▸ hf : filled _ _ _ _ xs.length _).own HLN.out.symm (Nat.le_refl _) (by unfold maxLen; omega))
      clear hf
      have l2 := later_trans l1 hbl
      have hjz := joinT_size (xs.map fmtL) spT 12 fun p hp => (okB_fmt HOK.out p hp).1
      rw [HLN.out] at hjz
      have hjz2 : xs.length * (12 + spT.size) ≤ 60 * 13 := Nat.mul_le_mul h60 (Nat.le_refl _)
      have HJ := Lib.hid (join_own (sep := spT) HO.out HLN.out.symm (by rw [HLN.out]; omega) (by omega))
      clear hjz hjz2
      go_wp2_with fail
      refine HJ.out.mono ?_
      rw [← HF.out]
      rintro e w3 ⟨rfl, b3⟩
      have l3 := later_trans l2 b3
      go_wp2_with fail
      go_ret
      exact ⟨rfl, l3⟩

end Go.Proofs.YtpinkbodbedajaaGreatDoor

namespace Go.Proofs.YtpinkbodbedajaaGreatDoor
open Go.RowKit



end Go.Proofs.YtpinkbodbedajaaGreatDoor

namespace Go.Proofs.YtpinkbodbedajaaGreatDoor
open Go.RowKit

def fmtU (x : Fwd) : ByteArray := x.src ++ ⟨#[62]⟩ ++ x.dst
end Go.Proofs.YtpinkbodbedajaaGreatDoor

namespace Go.Proofs.YtpinkbodbedajaaGreatDoor
open Go.RowKit

theorem spl_nosep {c : UInt8} : ∀ {p : List UInt8}, c ∉ p → spl c p = [p]
  | [], _ => rfl
  | b :: p, h => by
    have hb : b ≠ c := fun e => h (by rw [e]; simp)
    exact spl_cons hb (spl_nosep fun m => h (List.mem_cons_of_mem _ m))
theorem spl_app {c : UInt8} (s : List UInt8) : ∀ {p : List UInt8}, c ∉ p → spl c (p ++ c :: s) = p :: spl c s
  | [], _ => spl_eq c s
  | b :: p, h => by
    have hb : b ≠ c := fun e => h (by rw [e]; simp)
    exact spl_cons hb (spl_app s fun m => h (List.mem_cons_of_mem _ m))
theorem inter_cons {α : Type} (sep a b : List α) (l : List (List α)) : sep.intercalate (a :: b :: l) = a ++ sep ++ sep.intercalate (b :: l) := by
  simp [List.intercalate, List.intersperse]
theorem inter_one {α : Type} (sep a : List α) : sep.intercalate [a] = a := by simp [List.intercalate, List.intersperse]
theorem spl_join {c : UInt8} : ∀ (ps : List (List UInt8)), ps ≠ [] → (∀ p ∈ ps, c ∉ p) → spl c ([c].intercalate ps) = ps
  | [], h, _ => absurd rfl h
  | [p], _, h => by rw [inter_one]; exact spl_nosep (h p (by simp))
  | p :: q :: ps, _, h => by
    rw [inter_cons, List.append_assoc, List.singleton_append, spl_app _ (h p (by simp)), spl_join (q :: ps) (by simp) fun x hx => h x (List.mem_cons_of_mem _ hx)]
theorem idx_of {c : UInt8} (s : List UInt8) : ∀ {p : List UInt8}, c ∉ p → Lib.indexByte (p ++ c :: s) c = (p.length : Int)
  | [], _ => by rw [List.nil_append, idx_cons, if_pos rfl]; rfl
  | b :: p, h => by
    have hb : b ≠ c := fun e => h (by rw [e]; simp)
    have ih := idx_of s (p := p) fun m => h (List.mem_cons_of_mem _ m)
    rw [List.cons_append, idx_cons, if_neg hb, if_neg (by omega), ih]
    simp
theorem joinT_data (ps : List ByteArray) : (joinT ps spT).data.toList = [(32 : UInt8)].intercalate (ps.map (·.data.toList)) := by
  unfold joinT Lib.join
  simp [spT]
theorem parts_join {ps : List ByteArray} (hne : ps ≠ []) (h : ∀ p ∈ ps, (32 : UInt8) ∉ p.data.toList) : partsB 32 (joinT ps spT) = ps := by
  unfold partsB
  rw [joinT_data, spl_join _ (by simpa using hne) (by simpa using h), List.map_map]
  conv => rhs; rw [← List.map_id ps]
  refine List.map_congr_left fun p _ => ?_
  exact ba_ext (by simp)
theorem ext_take (s : ByteArray) (i : Nat) : (s.extract 0 i).data.toList = s.data.toList.take i := by
  rw [ByteArray.data_extract]; simp
theorem ext_drop (s : ByteArray) (i : Nat) : (s.extract i s.size).data.toList = s.data.toList.drop i := by
  rw [ByteArray.data_extract]
  simp
  exact List.take_of_length_le (by rw [List.length_drop]; exact Nat.le_of_eq (congrArg (fun z => z - i) (by rw [Array.length_toList]; rfl)))
theorem digs_mem {l : List UInt8} (h : digs l = true) : ∀ b ∈ l, 48 ≤ b.toNat ∧ b.toNat ≤ 57 := by
  unfold digs at h
  intro b hb
  have := List.all_eq_true.1 h b hb
  simpa [dig] using this
/-! ### As the reference parses -/
end Go.Proofs.YtpinkbodbedajaaGreatDoor

namespace Go.Proofs.YtpinkbodbedajaaGreatDoor
open Go.RowKit

theorem indexB_one (s : ByteArray) (c : UInt8) : Lib.indexB s ⟨#[c]⟩ = Lib.indexByte s.data.toList c := by
  show Lib.index s.data.toList [c] = _
  exact Lib.index_one _ _
theorem parts_last {c : UInt8} {s : ByteArray} (h : Lib.indexByte s.data.toList c < 0) : partsB c s = [s] := by
  unfold partsB; rw [spl_none h]; rfl
theorem parts_cons {c : UInt8} {s : ByteArray} {i : Nat} (hi : Lib.indexByte s.data.toList c = (i : Int)) : partsB c s = s.extract 0 i :: partsB c (s.extract (i + 1) s.size) := by
  obtain ⟨hs1, hs2⟩ := spl_some hi
  unfold partsB
  rw [hs1, List.map_cons]
  have e1 : (⟨(s.data.toList.take i).toArray⟩ : ByteArray) = s.extract 0 i := ba_ext (by rw [ext_take])
  have e2 : s.data.toList.drop (i + 1) = (s.extract (i + 1) s.size).data.toList := by rw [ext_drop]
  rw [e1, e2]
theorem splitB_parts (c : UInt8) : ∀ (k : Nat) (s : ByteArray), Lib.countB s ⟨#[c]⟩ = k → Lib.splitB ⟨#[c]⟩ 0 k s = partsB c s
  | 0, s, hk => by
    rcases Lib.indexB_cases s ⟨#[c]⟩ with hix | ⟨i, hix, _⟩
    · rw [Lib.splitB_zero, parts_last (by rw [← indexB_one, hix]; decide)]
    · have := Lib.countB_hit s ⟨#[c]⟩ i (Nat.le_refl 1) hix
      omega
  | k + 1, s, hk => by
    rcases Lib.indexB_cases s ⟨#[c]⟩ with hix | ⟨i, hix, _⟩
    · rw [Lib.countB_miss s _ hix] at hk; omega
    · have h1 := Lib.countB_hit s ⟨#[c]⟩ i (Nat.le_refl 1) hix
      rw [Lib.splitB_hit ⟨#[c]⟩ 0 k s i hix, parts_cons (by rw [← indexB_one]; exact hix)]
      rw [show i + (⟨#[c]⟩ : ByteArray).size = i + 1 from rfl] at h1 ⊢
      rw [splitB_parts c k _ (by omega)]
      rfl
theorem parts_count (c : UInt8) (s : ByteArray) : (partsB c s).length = Lib.countB s ⟨#[c]⟩ + 1 := by
  rw [← splitB_parts c _ s rfl]
  exact Lib.splitB_all ⟨#[c]⟩ (Nat.le_refl 1) 0 _ s rfl
theorem parts_lenZ (c : UInt8) (s : ByteArray) : (partsB c s).length ≤ s.size + 1 := by
  rw [parts_count]
  have := Lib.countB_le ⟨#[c]⟩ (Nat.le_refl 1) s.size s (Nat.le_refl _)
  omega
theorem spl_memZ {c : UInt8} : ∀ {l p : List UInt8}, p ∈ spl c l → p.length ≤ l.length
  | [], p, h => by simp [spl] at h; subst h; exact Nat.le_refl _
  | b :: l, p, h => by
    by_cases hb : b = c
    · subst hb
      rw [spl_eq] at h
      rcases List.mem_cons.1 h with h | h
      · subst h; exact Nat.zero_le _
      · exact Nat.le_succ_of_le (spl_memZ h)
    · obtain ⟨q, qs, hq⟩ := List.exists_cons_of_ne_nil (spl_ne c l)
      rw [spl_cons hb hq] at h
      rcases List.mem_cons.1 h with h | h
      · subst h
        exact Nat.succ_le_succ (spl_memZ (c := c) (l := l) (by rw [hq]; simp))
      · exact Nat.le_succ_of_le (spl_memZ (c := c) (l := l) (by rw [hq]; exact List.mem_cons_of_mem _ h))
theorem parts_sizeZ {c : UInt8} {t p : ByteArray} (h : p ∈ partsB c t) : p.size ≤ t.size := by
  unfold partsB at h
  obtain ⟨l, hl, rfl⟩ := List.mem_map.1 h
  have := spl_memZ hl
  show l.toArray.size ≤ t.data.size
  simpa using this

/-! ### Lines -/
theorem parts_app {c : UInt8} (p : ByteArray) (hp : c ∉ p.data.toList) (s : ByteArray) : partsB c (p ++ ⟨#[c]⟩ ++ s) = p :: partsB c s := by
  unfold partsB
  have e : (p ++ ⟨#[c]⟩ ++ s).data.toList = p.data.toList ++ c :: s.data.toList := by rw [ba_append, ba_append]; simp
  rw [e, spl_app _ hp, List.map_cons]
/-- Lines, each with its end. -/
def linesT (ls : List ByteArray) : ByteArray := ls.foldr (fun l t => l ++ ⟨#[10]⟩ ++ t) ⟨#[]⟩
theorem linesT_nil : linesT [] = ⟨#[]⟩ := rfl
theorem linesT_cons (l : ByteArray) (ls : List ByteArray) : linesT (l :: ls) = l ++ ⟨#[10]⟩ ++ linesT ls := rfl
theorem linesT_parts : ∀ ls : List ByteArray, (∀ l ∈ ls, (10 : UInt8) ∉ l.data.toList) → partsB 10 (linesT ls) = ls ++ [⟨#[]⟩]
  | [], _ => rfl
  | l :: ls, h => by
    rw [linesT_cons, parts_app l (h l (by simp)), linesT_parts ls fun x hx => h x (List.mem_cons_of_mem _ hx)]
    rfl

end Go.Proofs.YtpinkbodbedajaaGreatDoor

namespace Go.Proofs.YtpinkbodbedajaaGreatDoor
open Go.RowKit

theorem cut_app {c : UInt8} {p q : ByteArray} (h : c ∉ p.data.toList) : cutAt c (p ++ ⟨#[c]⟩ ++ q) = some (p, q) := by
  have hd : (p ++ ⟨#[c]⟩ ++ q).data.toList = p.data.toList ++ c :: q.data.toList := by
    rw [ba_append, ba_append]
    simp
  have hi : Lib.indexByte (p ++ ⟨#[c]⟩ ++ q).data.toList c = (p.data.toList.length : Int) := by rw [hd]; exact idx_of _ h
  rw [cut_some hi]
  have e1 : (p ++ ⟨#[c]⟩ ++ q).extract 0 p.data.toList.length = p := ba_ext (by rw [ext_take, hd]; simp)
  have e2 : (p ++ ⟨#[c]⟩ ++ q).extract (p.data.toList.length + 1) (p ++ ⟨#[c]⟩ ++ q).size = q := ba_ext (by
    rw [ext_drop, hd, show p.data.toList ++ c :: q.data.toList = (p.data.toList ++ [c]) ++ q.data.toList by simp]
    exact List.drop_left' (by simp))
  rw [e1, e2]

/-! ### Parts parsed one by one -/
section
variable {α : Type} (f : ByteArray → Option α)
variable {f}
end

/-! ### Networks -/
theorem inter_mem {c b : UInt8} : ∀ {ls : List (List UInt8)}, b ∈ [c].intercalate ls → b = c ∨ ∃ l ∈ ls, b ∈ l
  | [], h => by simp [List.intercalate] at h
  | [a], h => by rw [inter_one] at h; exact .inr ⟨a, by simp, h⟩
  | a :: d :: ls, h => by
    rw [inter_cons, List.mem_append, List.mem_append] at h
    rcases h with (h | h) | h
    · exact .inr ⟨a, by simp, h⟩
    · exact .inl (by simpa using h)
    · rcases inter_mem (ls := d :: ls) h with h | ⟨l, hl, h⟩
      · exact .inl h
      · exact .inr ⟨l, List.mem_cons_of_mem _ hl, h⟩
end Go.Proofs.YtpinkbodbedajaaGreatDoor

namespace Go.Proofs.YtpinkbodbedajaaGreatDoor
open Go.RowKit

theorem pre_zero (ps : List ByteArray) (sep : ByteArray) : joinT (ps.take 0) sep = ⟨#[]⟩ := joinT_nil _
theorem pre_one {ps : List ByteArray} {sep : ByteArray} (h : 0 < ps.length) : joinT (ps.take 1) sep = ps[0] := by
  rw [List.take_succ_eq_append_getElem h, List.take_zero, List.nil_append, joinT_one]
theorem pre_succ {ps : List ByteArray} {sep : ByteArray} {k : Nat} (h : k < ps.length) (h0 : 0 < k) : joinT (ps.take (k + 1)) sep = joinT (ps.take k) sep ++ sep ++ ps[k] := by
  rw [List.take_succ_eq_append_getElem h, joinT_snoc]
  intro e
  have := congrArg List.length e
  rw [List.length_take, List.length_nil] at this
  omega
theorem pre_size {ps : List ByteArray} {sep : ByteArray} {b : Nat} (h : ∀ p ∈ ps, p.size ≤ b) (k : Nat) : (joinT (ps.take k) sep).size ≤ ps.length * (b + sep.size) := by
  have h1 := joinT_size (ps.take k) sep b fun p hp => h p (List.mem_of_mem_take hp)
  exact Nat.le_trans h1 (Nat.mul_le_mul (by rw [List.length_take]; omega) (Nat.le_refl _))
end Go.Proofs.YtpinkbodbedajaaGreatDoor
