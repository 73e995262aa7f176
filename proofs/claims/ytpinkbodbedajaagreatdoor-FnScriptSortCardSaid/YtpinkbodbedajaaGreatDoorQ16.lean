/- FB FC FR PS ZS QC QD QE ZA ZN JC JD JE JF JG JH ZC ZD -/
import Derived.Test.YtpinkbodbedajaaGreatDoorQ15
import Derived.Test.YtpinkbodbedajaaGreatDoorQ11
import Derived.Test.YtpinkbodbedajaaGreatDoorQ5
import Derived.Test.YtpinkbodbedajaaGreatDoorQ4
import Derived.Test.YtpinkbodbedajaaGreatDoorQ12
import Derived.Lib.SplitLaws
import Derived.Test.YtpinkbodbedajaaGreatDoorQ7
import Derived.Maps.OwnIn
import Derived.Test.YtpinkbodbedajaaGreatDoorQ13
import Derived.Lib.OthersKept
import Derived.Deep.RegionHeld3
import Derived.Lib.LaidTab
import Derived.Shelf.Strings.Split
namespace Go.Proofs.YtpinkbodbedajaaGreatDoor
open Go.RowKit

/-- The library's table of powers of ten lies where it lay. -/
def TabW (w : World) : Prop := Lib.TabIs Tryz.prog w "internal/strconv.uint64pow10" .u64 Lib.pow10Tab
theorem TabW.on {w w' : World} (h : TabW w) (hb : Below w.heap.size w w') : TabW w' :=
  Go.Joins.tab_stays (g := 2) (by kernel_rfl) h hb (Nat.le_refl _)
theorem below_grow (w : World) (k : Nat) (os : Array Obj) : Below w.heap.size w (Go.Sort.grow (w.drewN k) os) := by
  have h := below_drewN (Below.refl w.heap.size w) k
  refine ⟨h.os, h.tape, h.output, ?_, fun i hi => ?_⟩
  · show _ ≤ ((w.drewN k).heap ++ os).size
    rw [Array.size_append]
    have := h.size
    omega
  · show ((w.drewN k).heap ++ os)[i]? = _
    rw [Array.getElem?_append_left (by have := h.size; omega)]
    exact h.block i hi
theorem strconv_ItoaN (n : Nat) (w : World) (hn : n ≤ 9999) (ht : TabW w) :
    Calls Tryz.prog 56 #[.int .i64 (n : Int)] w fun e w' => e = .returned (.string (decB n)) ∧ Below w.heap.size w w' := by
  refine (Tryz.strconv_Itoa (n : Int) (by omega) (by omega) w ht).mono ?_
  rintro e w' ⟨rfl, k, os, rfl⟩
  exact ⟨by rw [itoa_dec], below_grow w k os⟩

theorem join_own {T base g n c : Nat} {w : World} {ps : List ByteArray} {sep : ByteArray} (h : own T base w (.slice (some ⟨g, 0, none⟩) n c) ps) (hn : n = ps.length) (hN : ps.length ≤ 1048576) (hs : (joinT ps sep).size ≤ 140737488355328) :
    Calls Tryz.prog 57 #[.slice (some ⟨g, 0, none⟩) n c, .string sep] w fun e w' => e = .returned (.string (joinT ps sep)) ∧ Below w.heap.size w w' := by
  obtain ⟨A', n', c', hv, hn', hc, hm, hr⟩ := h.rd
  injection hv with e1 e2 e3
  subst e1 e2 e3 hn
  have hg : g < w.heap.size := (h.blk g rfl).2
  refine Tryz.strings_Join g 0 c ps sep w (fun j x hx => ?_) hg (by omega) hc (by rw [joinT_len]; exact hs)
  · obtain ⟨hj, rfl⟩ := List.getElem?_eq_some_iff.1 hx
    obtain ⟨b, o, hA, _, _, c1⟩ := hr.str j hj
    injection hA with hA
    injection hA with hA1 hA2
    subst hA1 hA2
    exact c1

set_option maxRecDepth 100000 in
set_option maxHeartbeats 1600000 in
theorem impl_FormatBatch (v : Value) (xs : List Ltr) (w : World) (hv : rd w w.heap.size v xs) (ht : TabW w) :
    Calls Tryz.prog 12 #[v] w fun e w' => e = .returned (.string (fmtB xs)) ∧ Below w.heap.size w w' := by
  have HV := Lib.hid hv
  obtain ⟨A, n, c, rfl, hn, hc, hm, hr⟩ := hv
  subst hn
  have HR := Lib.hid hr; clear hr
  have HT := Lib.hid ht; clear ht
  obtain ⟨i0, hi, hz0, hz1, hz2⟩ := info_parts Tryz.infoStr
  have l0 := Below.refl w.heap.size w
  go_enter Tryz.func12, Tryz.ntmps12
  go_wp2_with fail
  refine (impl_BatchValid _ xs _ HV.out).mono ?_
  rintro e w1 ⟨rfl, b1⟩
  have l1 := b1
  clear b1 l0
  cases hok : okB xs
  · have HF := Lib.hid (fmtB_no hok)
    clear hok
    go_wp2_with fail
    go_ret
    exact ⟨ret_str HF.out.symm, l1⟩
  have HOK := Lib.hid hok
  have h60 := (okB_iff.1 hok).1
  by_cases h0 : xs.length = 0
  · have HF := Lib.hid (fmtB_empty hok h0)
    have hl0 : ((xs.length : Int) == 0) = true := by rw [h0]; rfl
    clear hok h0
    go_wp2_with fail
    go_ret
    exact ⟨ret_str HF.out.symm, l1⟩
  have HF := Lib.hid (fmtB_some hok h0)
  have hl0 : ((xs.length : Int) == 0) = false := beq_eq_false_iff_ne.2 (by omega)
  have hpos : 0 < xs.length := by omega
  clear hok h0
  have hmk := make_row (P := Tryz.prog) 23 9 i0 _ Tryz.underlying23 hi hz0 xs.length (by rw [hz2]; omega) (by omega)
  go_wp2_with fail
  have hf0 : filled 9 (w1.alloc (Obj.cells (madeCells #[.string ⟨#[]⟩] xs.length) 9)) w1.heap.size xs.length 0 (xs.map fmtL) := filled.made w1 _ _ _ (by rw [size_madeCells]; exact (Nat.mul_one _).symm) _
  have hb0 : Below w1.heap.size w1 (w1.alloc (Obj.cells (madeCells #[.string ⟨#[]⟩] xs.length) 9)) := (Below.refl _ _).alloc (Nat.le_refl _) _
  generalize w1.alloc (Obj.cells (madeCells #[.string ⟨#[]⟩] xs.length) 9) = w0 at *
  clear hmk
  have HLN : Hid ((xs.map fmtL).length = xs.length) := by show _ = _; rw [List.length_map]
  go_loopw [17] (fun i wr => ∃ k : Nat, k ≤ xs.length ∧ i = .int .i64 k ∧ Below w1.heap.size w1 wr ∧ filled 9 wr w1.heap.size xs.length k (xs.map fmtL)) (fun i _ => xs.length - (intOf i).toNat)
  case atStart => exact ⟨0, Nat.zero_le _, rfl, hb0, hf0⟩
  case round =>
    obtain ⟨k, hk, rfl, hbl, hf⟩ := hrel
    obtain ⟨w2, rfl⟩ : ∃ w2 : World, w2 = wr := ⟨_, rfl⟩
    clear hf0 hb0
    have hs1 := l1.size
    by_cases hlt : k < xs.length
    · obtain ⟨b, o, rfl, hb, ⟨⟨hi1, hi2⟩, hcz⟩, y1, y2⟩ := HR.out.ltrU k hlt
      have y1 := y1 w2 (later_trans l1 hbl)
      have y2 := y2 w2 (later_trans l1 hbl)
      obtain ⟨z1, z2, z4, _⟩ := (okB_iff.1 HOK.out).2 k hlt
      have hLk : (xs.map fmtL)[k]'(by rw [HLN.out]; exact hlt) = fmtL xs[k] := by simp
      have HSZ := Lib.hid (okB_fmt HOK.out (fmtL xs[k]) (List.mem_map.2 ⟨_, List.getElem_mem hlt, rfl⟩))
      have HST := Lib.hid (fun (W : World) (hF : filled 9 W w1.heap.size xs.length k (xs.map fmtL)) => hF.step (by rw [HLN.out]; exact hlt) (by rw [HLN.out]; exact Nat.le_refl _) (ecs := [.string (fmtL xs[k])]) (by rw [hLk]; exact ⟨by have := HSZ.out.1; unfold maxLen; omega, rfl⟩))
      clear hLk
      generalize xs[k] = x at *
      obtain ⟨id, code⟩ := x
      simp only at hi1 hi2 hcz y1 y2 z1 z2 z4
      obtain ⟨m, rfl⟩ := Int.eq_ofNat_of_zero_le (show 0 ≤ id by omega)
      have hm9 : m ≤ 9999 := by omega
      have HFX : Hid (fmtL ⟨(m : Int), code⟩ = decB m ++ ⟨#[58]⟩ ++ code) := by show _ = _; unfold fmtL; rw [Int.toNat_natCast]
      have hki : (k : Int) < (xs.length : Int) := by omega
      have hki0 : (0 : Int) ≤ (k : Int) := by omega
      have hs2 := hbl.size
      obtain ⟨wb, hwb⟩ : ∃ u, u = w2.alloc (Obj.cells #[.int .i64 (m : Int), .string code] 89) := ⟨_, rfl⟩
      have q0 := box_cells hwb 0 (.int .i64 (m : Int)) rfl
      have q1 := box_cells hwb 1 (.string code) rfl
      have lb := (box_later hwb).1
      have hne : w1.heap.size < w2.heap.size := by obtain ⟨cs, h1, _⟩ := hf; exact (Array.getElem?_eq_some_iff.1 h1).1
      have HFB := Lib.hid (hf.below lb)
      have HLB := Lib.hid (later_trans hbl lb)
      have HTB := Lib.hid (HT.out.on (later_trans (later_trans l1 hbl) lb))
      have HWB := Lib.hid hwb; clear hwb hf
      go_wp2_with fail
      rw [← HWB.out]
      have ld := later_drew (Below.refl wb.heap.size wb)
      have hwz : wb.heap.size = w2.heap.size + 1 := by rw [HWB.out]; simp
      have e0 := q0 _ ld
      have e1 := q1 _ ld
      obtain ⟨hd4, _⟩ := dec10_size hm9
      have HIT := Lib.hid (fun W (hW : Below wb.heap.size wb W) => strconv_ItoaN m W hm9 (HTB.out.on hW))
      generalize decB m = t at *
      have hc7 : code.size = 7 := by
        unfold isCode at z4
        rw [Bool.and_eq_true, beq_iff_eq] at z4
        exact z4.1
      have hs58 : t.size + (⟨#[58]⟩ : ByteArray).size ≤ 9223372036854775807 := by show _ + 1 ≤ _; omega
      have hs59 : (t ++ (⟨#[58]⟩ : ByteArray)).size + code.size ≤ 9223372036854775807 := by rw [ByteArray.size_append]; show _ + 1 + _ ≤ _; omega
      have hs60 : ¬ 9223372036854775807 < t.size + 1 + code.size := by omega
      have hs61 : ¬ 9223372036854775807 < t.size + 1 := by omega
      have HC7 := Lib.hid hc7; clear hc7
      go_region_held3 (fun W => W.cell? ⟨w2.heap.size, 0, none⟩ = some (.int .i64 (m : Int)) ∧ W.cell? ⟨w2.heap.size, 1, none⟩ = some (.string code)) (first | exact ⟨e0, e1⟩ | exact ⟨e03, e13⟩ | exact ⟨e04 _, e14 _⟩ | fail) (first | (go_at_call 56; (with_reducible refine (HIT.out _ ld).mono ?_); rintro e w3 ⟨rfl, b3⟩; have l3 := later_trans ld b3; have e03 := q0 w3 l3; have e13 := q1 w3 l3; have hf3 := HFB.out.below l3; obtain ⟨u0, g0⟩ := hf3.cell (j := k) (by show _ < _ * 1; omega); have f0 := hf3.free k; have e04 := (fun v : Value => (World.cell?_setCell_other w3 ⟨w1.heap.size, k, none⟩ ⟨w2.heap.size, 0, none⟩ v (fun e => by injection e; omega)).trans e03); have e14 := (fun v : Value => (World.cell?_setCell_other w3 ⟨w1.heap.size, k, none⟩ ⟨w2.heap.size, 1, none⟩ v (fun e => by injection e; omega)).trans e13)) | fail)
      all_goals
        have HF3 := Lib.hid hf3
        have HB3 := Lib.hid (later_trans HLB.out l3)
        clear hf3 g0 f0 e03 e13 e04 e14 b3 l3 e0 e1
        go_wp2_with fail
        go_roundw
        case rel =>
          have := HST.out w3 HF3.out
          rw [show k * El.size ByteArray = k from Nat.mul_one k, HFX.out] at this
          exact ⟨k + 1, by omega, by go_num, HB3.out.trans (setAll_below [.string _] w3 k _ (Nat.le_refl _)), this⟩
        case measure => simp [intOf]; omega
    · have HE := Lib.hid (show k = xs.length by omega)
      have HO := Lib.hid ((HE.out ▸ hf : filled _ _ _ _ xs.length _).own HLN.out.symm (Nat.le_refl _) (by unfold maxLen; omega))
      clear hf
      have l2 := later_trans l1 hbl
      have hjz := joinT_size (xs.map fmtL) spT 12 fun p hp => (okB_fmt HOK.out p hp).1
      rw [HLN.out] at hjz
      have hjz2 : xs.length * (12 + spT.size) ≤ 60 * 13 := Nat.mul_le_mul h60 (Nat.le_refl _)
      have HJ := Lib.hid (join_own (sep := spT) HO.out HLN.out.symm (by rw [HLN.out]; omega) (by omega))
      clear hjz hjz2
      go_wp2_with fail
      refine HJ.out.mono ?_
      rw [← HF.out]
      rintro e w3 ⟨rfl, b3⟩
      have l3 := later_trans l2 b3
      go_wp2_with fail
      go_ret
      exact ⟨rfl, l3⟩

end Go.Proofs.YtpinkbodbedajaaGreatDoor

namespace Go.Proofs.YtpinkbodbedajaaGreatDoor
open Go.RowKit



end Go.Proofs.YtpinkbodbedajaaGreatDoor

namespace Go.Proofs.YtpinkbodbedajaaGreatDoor
open Go.RowKit

end Go.Proofs.YtpinkbodbedajaaGreatDoor

namespace Go.Proofs.YtpinkbodbedajaaGreatDoor
open Go.RowKit

theorem spl_nosep {c : UInt8} : ∀ {p : List UInt8}, c ∉ p → spl c p = [p]
  | [], _ => rfl
  | b :: p, h => by
    have hb : b ≠ c := fun e => h (by rw [e]; simp)
    exact spl_cons hb (spl_nosep fun m => h (List.mem_cons_of_mem _ m))
theorem spl_app {c : UInt8} (s : List UInt8) : ∀ {p : List UInt8}, c ∉ p → spl c (p ++ c :: s) = p :: spl c s
  | [], _ => spl_eq c s
  | b :: p, h => by
    have hb : b ≠ c := fun e => h (by rw [e]; simp)
    exact spl_cons hb (spl_app s fun m => h (List.mem_cons_of_mem _ m))
theorem inter_cons {α : Type} (sep a b : List α) (l : List (List α)) : sep.intercalate (a :: b :: l) = a ++ sep ++ sep.intercalate (b :: l) := by
  simp [List.intercalate, List.intersperse]
theorem inter_one {α : Type} (sep a : List α) : sep.intercalate [a] = a := by simp [List.intercalate, List.intersperse]
theorem spl_join {c : UInt8} : ∀ (ps : List (List UInt8)), ps ≠ [] → (∀ p ∈ ps, c ∉ p) → spl c ([c].intercalate ps) = ps
  | [], h, _ => absurd rfl h
  | [p], _, h => by rw [inter_one]; exact spl_nosep (h p (by simp))
  | p :: q :: ps, _, h => by
    rw [inter_cons, List.append_assoc, List.singleton_append, spl_app _ (h p (by simp)), spl_join (q :: ps) (by simp) fun x hx => h x (List.mem_cons_of_mem _ hx)]
theorem idx_of {c : UInt8} (s : List UInt8) : ∀ {p : List UInt8}, c ∉ p → Lib.indexByte (p ++ c :: s) c = (p.length : Int)
  | [], _ => by rw [List.nil_append, idx_cons, if_pos rfl]; rfl
  | b :: p, h => by
    have hb : b ≠ c := fun e => h (by rw [e]; simp)
    have ih := idx_of s (p := p) fun m => h (List.mem_cons_of_mem _ m)
    rw [List.cons_append, idx_cons, if_neg hb, if_neg (by omega), ih]
    simp
theorem joinT_data (ps : List ByteArray) : (joinT ps spT).data.toList = [(32 : UInt8)].intercalate (ps.map (·.data.toList)) := by
  unfold joinT Lib.join
  simp [spT]
theorem parts_join {ps : List ByteArray} (hne : ps ≠ []) (h : ∀ p ∈ ps, (32 : UInt8) ∉ p.data.toList) : partsB 32 (joinT ps spT) = ps := by
  unfold partsB
  rw [joinT_data, spl_join _ (by simpa using hne) (by simpa using h), List.map_map]
  conv => rhs; rw [← List.map_id ps]
  refine List.map_congr_left fun p _ => ?_
  exact ba_ext (by simp)
theorem ext_take (s : ByteArray) (i : Nat) : (s.extract 0 i).data.toList = s.data.toList.take i := by
  rw [ByteArray.data_extract]; simp
theorem ext_drop (s : ByteArray) (i : Nat) : (s.extract i s.size).data.toList = s.data.toList.drop i := by
  rw [ByteArray.data_extract]
  simp
  exact List.take_of_length_le (by rw [List.length_drop]; exact Nat.le_of_eq (congrArg (fun z => z - i) (by rw [Array.length_toList]; rfl)))
theorem digs_mem {l : List UInt8} (h : digs l = true) : ∀ b ∈ l, 48 ≤ b.toNat ∧ b.toNat ≤ 57 := by
  unfold digs at h
  intro b hb
  have := List.all_eq_true.1 h b hb
  simpa [dig] using this
/-! ### As the reference parses -/
end Go.Proofs.YtpinkbodbedajaaGreatDoor

namespace Go.Proofs.YtpinkbodbedajaaGreatDoor
open Go.RowKit

theorem indexB_one (s : ByteArray) (c : UInt8) : Lib.indexB s ⟨#[c]⟩ = Lib.indexByte s.data.toList c := by
  show Lib.index s.data.toList [c] = _
  exact Lib.index_one _ _
theorem parts_last {c : UInt8} {s : ByteArray} (h : Lib.indexByte s.data.toList c < 0) : partsB c s = [s] := by
  unfold partsB; rw [spl_none h]; rfl
theorem parts_cons {c : UInt8} {s : ByteArray} {i : Nat} (hi : Lib.indexByte s.data.toList c = (i : Int)) : partsB c s = s.extract 0 i :: partsB c (s.extract (i + 1) s.size) := by
  obtain ⟨hs1, hs2⟩ := spl_some hi
  unfold partsB
  rw [hs1, List.map_cons]
  have e1 : (⟨(s.data.toList.take i).toArray⟩ : ByteArray) = s.extract 0 i := ba_ext (by rw [ext_take])
  have e2 : s.data.toList.drop (i + 1) = (s.extract (i + 1) s.size).data.toList := by rw [ext_drop]
  rw [e1, e2]
theorem splitB_parts (c : UInt8) : ∀ (k : Nat) (s : ByteArray), Lib.countB s ⟨#[c]⟩ = k → Lib.splitB ⟨#[c]⟩ 0 k s = partsB c s
  | 0, s, hk => by
    rcases Lib.indexB_cases s ⟨#[c]⟩ with hix | ⟨i, hix, _⟩
    · rw [Lib.splitB_zero, parts_last (by rw [← indexB_one, hix]; decide)]
    · have := Lib.countB_hit s ⟨#[c]⟩ i (Nat.le_refl 1) hix
      omega
  | k + 1, s, hk => by
    rcases Lib.indexB_cases s ⟨#[c]⟩ with hix | ⟨i, hix, _⟩
    · rw [Lib.countB_miss s _ hix] at hk; omega
    · have h1 := Lib.countB_hit s ⟨#[c]⟩ i (Nat.le_refl 1) hix
      rw [Lib.splitB_hit ⟨#[c]⟩ 0 k s i hix, parts_cons (by rw [← indexB_one]; exact hix)]
      rw [show i + (⟨#[c]⟩ : ByteArray).size = i + 1 from rfl] at h1 ⊢
      rw [splitB_parts c k _ (by omega)]
      rfl
theorem parts_count (c : UInt8) (s : ByteArray) : (partsB c s).length = Lib.countB s ⟨#[c]⟩ + 1 := by
  rw [← splitB_parts c _ s rfl]
  exact Lib.splitB_all ⟨#[c]⟩ (Nat.le_refl 1) 0 _ s rfl
theorem parts_lenZ (c : UInt8) (s : ByteArray) : (partsB c s).length ≤ s.size + 1 := by
  rw [parts_count]
  have := Lib.countB_le ⟨#[c]⟩ (Nat.le_refl 1) s.size s (Nat.le_refl _)
  omega
theorem spl_memZ {c : UInt8} : ∀ {l p : List UInt8}, p ∈ spl c l → p.length ≤ l.length
  | [], p, h => by simp [spl] at h; subst h; exact Nat.le_refl _
  | b :: l, p, h => by
    by_cases hb : b = c
    · subst hb
      rw [spl_eq] at h
      rcases List.mem_cons.1 h with h | h
      · subst h; exact Nat.zero_le _
      · exact Nat.le_succ_of_le (spl_memZ h)
    · obtain ⟨q, qs, hq⟩ := List.exists_cons_of_ne_nil (spl_ne c l)
      rw [spl_cons hb hq] at h
      rcases List.mem_cons.1 h with h | h
      · subst h
        exact Nat.succ_le_succ (spl_memZ (c := c) (l := l) (by rw [hq]; simp))
      · exact Nat.le_succ_of_le (spl_memZ (c := c) (l := l) (by rw [hq]; exact List.mem_cons_of_mem _ h))
theorem parts_sizeZ {c : UInt8} {t p : ByteArray} (h : p ∈ partsB c t) : p.size ≤ t.size := by
  unfold partsB at h
  obtain ⟨l, hl, rfl⟩ := List.mem_map.1 h
  have := spl_memZ hl
  show l.toArray.size ≤ t.data.size
  simpa using this

/-! ### Lines -/
theorem parts_app {c : UInt8} (p : ByteArray) (hp : c ∉ p.data.toList) (s : ByteArray) : partsB c (p ++ ⟨#[c]⟩ ++ s) = p :: partsB c s := by
  unfold partsB
  have e : (p ++ ⟨#[c]⟩ ++ s).data.toList = p.data.toList ++ c :: s.data.toList := by rw [ba_append, ba_append]; simp
  rw [e, spl_app _ hp, List.map_cons]
/-- Lines, each with its end. -/
def linesT (ls : List ByteArray) : ByteArray := ls.foldr (fun l t => l ++ ⟨#[10]⟩ ++ t) ⟨#[]⟩
theorem linesT_nil : linesT [] = ⟨#[]⟩ := rfl
theorem linesT_cons (l : ByteArray) (ls : List ByteArray) : linesT (l :: ls) = l ++ ⟨#[10]⟩ ++ linesT ls := rfl
theorem linesT_parts : ∀ ls : List ByteArray, (∀ l ∈ ls, (10 : UInt8) ∉ l.data.toList) → partsB 10 (linesT ls) = ls ++ [⟨#[]⟩]
  | [], _ => rfl
  | l :: ls, h => by
    rw [linesT_cons, parts_app l (h l (by simp)), linesT_parts ls fun x hx => h x (List.mem_cons_of_mem _ hx)]
    rfl

end Go.Proofs.YtpinkbodbedajaaGreatDoor

namespace Go.Proofs.YtpinkbodbedajaaGreatDoor
open Go.RowKit

theorem cut_app {c : UInt8} {p q : ByteArray} (h : c ∉ p.data.toList) : cutAt c (p ++ ⟨#[c]⟩ ++ q) = some (p, q) := by
  have hd : (p ++ ⟨#[c]⟩ ++ q).data.toList = p.data.toList ++ c :: q.data.toList := by
    rw [ba_append, ba_append]
    simp
  have hi : Lib.indexByte (p ++ ⟨#[c]⟩ ++ q).data.toList c = (p.data.toList.length : Int) := by rw [hd]; exact idx_of _ h
  rw [cut_some hi]
  have e1 : (p ++ ⟨#[c]⟩ ++ q).extract 0 p.data.toList.length = p := ba_ext (by rw [ext_take, hd]; simp)
  have e2 : (p ++ ⟨#[c]⟩ ++ q).extract (p.data.toList.length + 1) (p ++ ⟨#[c]⟩ ++ q).size = q := ba_ext (by
    rw [ext_drop, hd, show p.data.toList ++ c :: q.data.toList = (p.data.toList ++ [c]) ++ q.data.toList by simp]
    exact List.drop_left' (by simp))
  rw [e1, e2]

/-! ### Parts parsed one by one -/
section
variable {α : Type} (f : ByteArray → Option α)
variable {f}
end

/-! ### Networks -/
theorem inter_mem {c b : UInt8} : ∀ {ls : List (List UInt8)}, b ∈ [c].intercalate ls → b = c ∨ ∃ l ∈ ls, b ∈ l
  | [], h => by simp [List.intercalate] at h
  | [a], h => by rw [inter_one] at h; exact .inr ⟨a, by simp, h⟩
  | a :: d :: ls, h => by
    rw [inter_cons, List.mem_append, List.mem_append] at h
    rcases h with (h | h) | h
    · exact .inr ⟨a, by simp, h⟩
    · exact .inl (by simpa using h)
    · rcases inter_mem (ls := d :: ls) h with h | ⟨l, hl, h⟩
      · exact .inl h
      · exact .inr ⟨l, List.mem_cons_of_mem _ hl, h⟩
end Go.Proofs.YtpinkbodbedajaaGreatDoor

namespace Go.Proofs.YtpinkbodbedajaaGreatDoor
open Go.RowKit

end Go.Proofs.YtpinkbodbedajaaGreatDoor

namespace Go.Proofs.YtpinkbodbedajaaGreatDoor
open Go.RowKit Go.Shelf
attribute [local go_sem] Oper.semAt_some

theorem ne_of_lt {α : Type} [El α] {T B b : Nat} {w : World} {v : Value} {xs : List α} (h : own T B w v xs) (hb : b < B) : v.ownBlock = none ∨ v.ownBlock ≠ some b := by
  cases hv : v.ownBlock with
  | none => exact .inl rfl
  | some k => exact .inr fun e => by injection e with e; have := (h.blk k hv).1; omega
theorem isN.out {T1 T2 B : Nat} {w : World} {v : Value} {net : List Ofc} {os : List OfV} (h : isN T1 T2 B w v net os) (b : Nat) (u : Value) (hb : b < B) : isN T1 T2 B (w.setCell ⟨b, 0, none⟩ u) v net os :=
  h.grown (grownBy_setCell' w b u) (ne_of_lt h.1 hb) fun k hk => ne_of_lt (h.2.2.1 k hk (by have := h.2.1; omega)).2 hb
end Go.Proofs.YtpinkbodbedajaaGreatDoor

namespace Go.Proofs.YtpinkbodbedajaaGreatDoor
open Go.RowKit

theorem own_obj {α : Type} [El α] {T base : Nat} {w : World} {v : Value} {xs : List α} (h : own T base w v xs) {k : Nat} (hk : v.ownBlock = some k) : ∃ cur : Array Value, w.heap[k]? = some (.cells cur T (0, 0)) := by
  obtain ⟨css, ⟨h1, h2⟩, _⟩ := h
  rcases h2 with ⟨rfl, _⟩ | ⟨g, cap, cur, rfl, hg, hh, _⟩
  · cases hk
  · injection hk with hk
    subst hk
    exact ⟨_, hh⟩
theorem own.keepT {α : Type} [Flat α] {T base : Nat} {w w' : World} {v : Value} {xs : List α} (h : own T base w v xs) (hk : ∀ (k : Nat) (cur : Array Value), w.heap[k]? = some (.cells cur T (0, 0)) → w'.heap[k]? = w.heap[k]?) : own T base w' v xs :=
  h.keepBlk fun k e => by
    obtain ⟨cur, hc⟩ := own_obj h e
    exact hk k cur hc
theorem isN.keepT {T1 T2 base : Nat} {w w' : World} {v : Value} {net : List Ofc} {os : List OfV} (h : isN T1 T2 base w v net os) (h1 : ∀ (k : Nat) (cur : Array Value), w.heap[k]? = some (.cells cur T1 (0, 0)) → w'.heap[k]? = w.heap[k]?)
    (h2 : ∀ (k : Nat) (cur : Array Value), w.heap[k]? = some (.cells cur T2 (0, 0)) → w'.heap[k]? = w.heap[k]?) : isN T1 T2 base w' v net os :=
  ⟨h.1.keepT h1, h.2.1, fun k a b => ⟨(h.2.2.1 k a b).1, (h.2.2.1 k a b).2.keepT h2⟩, h.2.2.2.1, h.2.2.2.2⟩

structure Dsk where
  letters : List Ltr
  day : Dy
  net : List Ofc

/-- The desk lies in block d; the value of the held codes beside it. -/
def dskAt (B : Nat) (w : World) (d : Nat) (s : Dsk) (vH : Value) : Prop :=
  ∃ (vL vO vF vN : Value) (os : List OfV), w.heap[d]? = some (.cells #[vL, .int .i64 s.day.plan.bins, .int .i64 s.day.plan.passes, vO, vF, vH, .int .i64 s.day.size, vN] 104 (0, 0)) ∧
    own 89 B w vL s.letters ∧ own 9 B w vO s.day.plan.order ∧ own 94 B w vF s.day.fwds ∧ own 9 B w vH s.day.held ∧ isN 102 174 B w vN s.net os ∧ apart vO vH
theorem dskAt.lt {B d : Nat} {w : World} {s : Dsk} {vH : Value} (h : dskAt B w d s vH) : d < w.heap.size := by
  obtain ⟨_, _, _, _, _, h, _⟩ := h
  exact (Array.getElem?_eq_some_iff.1 h).1
theorem dskAt.obj {B d : Nat} {w : World} {s : Dsk} {vH : Value} (h : dskAt B w d s vH) : ∃ cur : Array Value, w.heap[d]? = some (.cells cur 104 (0, 0)) := by
  obtain ⟨_, _, _, _, _, h, _⟩ := h
  exact ⟨_, h⟩
theorem dskAt.held {B d : Nat} {w : World} {s : Dsk} {vH : Value} (h : dskAt B w d s vH) : own 9 B w vH s.day.held := by
  obtain ⟨_, _, _, _, _, _, _, _, _, h, _⟩ := h
  exact h
theorem dskAt.keep {B d : Nat} {w w' : World} {s : Dsk} {vH : Value} (h : dskAt B w d s vH) (hk : ∀ (k : Nat) (cur : Array Value) (e : TypeId), w.heap[k]? = some (.cells cur e (0, 0)) → e ≠ 5 → e ≠ 107 → w'.heap[k]? = w.heap[k]?) : dskAt B w' d s vH := by
  obtain ⟨vL, vO, vF, vN, os, h0, h1, h2, h3, h4, h5, h6⟩ := h
  exact ⟨vL, vO, vF, vN, os, (hk _ _ _ h0 (by decide) (by decide)).trans h0, h1.keepT fun k cur hc => hk k cur _ hc (by decide) (by decide), h2.keepT fun k cur hc => hk k cur _ hc (by decide) (by decide), h3.keepT fun k cur hc => hk k cur _ hc (by decide) (by decide), h4.keepT fun k cur hc => hk k cur _ hc (by decide) (by decide),
    h5.keepT (fun k cur hc => hk k cur _ hc (by decide) (by decide)) fun k cur hc => hk k cur _ hc (by decide) (by decide), h6⟩
theorem dskAt.below {B d : Nat} {w w' : World} {s : Dsk} {vH : Value} (h : dskAt B w d s vH) (hb : Below w.heap.size w w') : dskAt B w' d s vH :=
  h.keep fun k cur e hc _ _ => hb.block k (Array.getElem?_eq_some_iff.1 hc).1

/-- What a line turns of what lay there: the desk, and the row of the held codes. -/
structure Kd (d : Nat) (vH : Value) (w w' : World) : Prop where
  os : w'.os = w.os
  tape : w'.tape = w.tape
  output : w'.output = w.output
  size : w.heap.size ≤ w'.heap.size
  block : ∀ k, k < w.heap.size → k ≠ d → some k ≠ vH.ownBlock → w'.heap[k]? = w.heap[k]?
theorem Kd.of_below {d : Nat} {vH : Value} {w w' : World} (h : Below w.heap.size w w') : Kd d vH w w' := ⟨h.os, h.tape, h.output, h.size, fun k hk _ _ => h.block k hk⟩
theorem Kd.trans {d : Nat} {vH : Value} {a b c : World} (h : Kd d vH a b) (k : Kd d vH b c) : Kd d vH a c :=
  ⟨k.os.trans h.os, k.tape.trans h.tape, k.output.trans h.output, Nat.le_trans h.size k.size, fun i hi h1 h2 => (k.block i (Nat.lt_of_lt_of_le hi h.size) h1 h2).trans (h.block i hi h1 h2)⟩
theorem Kd.set {d : Nat} {vH : Value} {a w : World} (h : Kd d vH a w) (i : Nat) (u : Value) : Kd d vH a (w.setCell ⟨d, i, none⟩ u) :=
  ⟨h.os, h.tape, h.output, by have := h.size; simpa using this, fun k hk h1 h2 => (Below.heap_setCell _ _ _ _ (fun e => h1 e)).trans (h.block k hk h1 h2)⟩
theorem Kd.toBelow {d B : Nat} {vH : Value} {w w' : World} (h : Kd d vH w w') (hd : B ≤ d) (hdl : d < w.heap.size) (hH : ∀ k, vH.ownBlock = some k → B ≤ k) : Below B w w' :=
  ⟨h.os, h.tape, h.output, h.size, fun k hk => h.block k (by omega) (by omega) fun e => by have := hH k e.symm; omega⟩
/-- The held codes lie where they lay, or in a new row. -/
def heldN (w : World) (vH vH' : Value) : Prop := vH'.ownBlock = vH.ownBlock ∨ ∀ k, vH'.ownBlock = some k → w.heap.size ≤ k
theorem heldN.refl (w : World) (vH : Value) : heldN w vH vH := .inl rfl

theorem builder_keep {T e B b : Nat} {bs : List Value} {w w' : World} (h : Lib.IsBuilderF T e B b bs w) (hk : ∀ (k : Nat) (cur : Array Value) (e' : TypeId) (fz : Nat × Nat), w.heap[k]? = some (.cells cur e' fz) → (e' = T ∨ e' = e) → w'.heap[k]? = w.heap[k]?) : Lib.IsBuilderF T e B b bs w' := by
  have key : ∀ p, Lib.BuilderAtF T e B b p bs w → Lib.BuilderAtF T e B b p bs w' := fun p h => by
    obtain ⟨hB, v, hb, ⟨h1, h2⟩, hne⟩ := h
    refine ⟨hB, v, (hk _ _ _ _ hb (.inl rfl)).trans hb, ⟨h1, ?_⟩, hne⟩
    rcases h2 with h2 | ⟨g, cap, cur, fz, hv, hg, hh, rest⟩
    · exact .inl h2
    · exact .inr ⟨g, cap, cur, fz, hv, hg, (hk _ _ _ _ hh (.inr rfl)).trans hh, rest⟩
  rcases h with h | h
  · exact .inl (key _ h)
  · exact .inr (key _ h)
theorem builder_kd {B0 B b d : Nat} {bs : List Value} {w w' : World} {s : Dsk} {vH : Value} (h : Lib.IsBuilderF 107 5 B b bs w) (hD : dskAt B0 w d s vH) (hK : Kd d vH w w') : Lib.IsBuilderF 107 5 B b bs w' := by
  refine builder_keep h fun k cur e' fz hc he => hK.block k (Array.getElem?_eq_some_iff.1 hc).1 (fun e => ?_) fun e => ?_
  · subst e
    obtain ⟨c, h0⟩ := hD.obj
    rw [h0] at hc
    injection hc with hc
    injection hc with _ hc _
    rcases he with he | he <;> rw [← hc] at he <;> exact absurd he (by decide)
  · obtain ⟨c, h0⟩ := own_obj hD.held e.symm
    rw [h0] at hc
    injection hc with hc
    injection hc with _ hc _
    rcases he with he | he <;> rw [← hc] at he <;> exact absurd he (by decide)
theorem dsk_others {B b d : Nat} {w w' : World} {s : Dsk} {vH : Value} (hD : dskAt B w d s vH) (hO : Lib.OthersKept 5 (some b) w w') (hb : ∃ cur fz, w.heap[b]? = some (.cells cur 107 fz)) : dskAt B w' d s vH :=
  hD.keep fun k cur e hc h1 h2 => by
    obtain ⟨cb, fb, hb⟩ := hb
    rw [hO k _ hc (fun e' => by
      injection e' with e'
      subst e'
      rw [hb] at hc
      injection hc with hc
      injection hc with _ hc _
      exact h2 hc.symm) fun c fz e' => by
        injection e' with _ e' _
        exact h1 e', hc]

/-- One line. X: what is said of tables, and stands throughout. -/
def StepOk (X : World → Prop) (line : ByteArray) (s s' : Dsk) (a : ByteArray) : Prop :=
  ∀ (B d : Nat) (vH : Value) (w : World), X w → B ≤ w.heap.size → dskAt B w d s vH →
    Calls Tryz.prog 68 #[.pointer (some ⟨d, 0, none⟩), .string line] w fun e w' => e = .returned (.string a) ∧ ∃ vH', dskAt B w' d s' vH' ∧ Kd d vH w w' ∧ heldN w vH vH'
def orNo (a : ByteArray) : ByteArray := if sEq a ⟨#[]⟩ then ⟨#[110, 111]⟩ else a
/-- What a script tells, from line k on. -/
def outA (ans : Nat → ByteArray) : Nat → ByteArray → List ByteArray → ByteArray
  | _, o, [] => o
  | k, o, l :: ls => if sEq l ⟨#[]⟩ then outA ans (k + 1) o ls else if 100 ≤ k ∨ 40000 < o.size then o ++ ⟨#[102, 117, 108, 108, 10]⟩ else outA ans (k + 1) (o ++ (orNo (ans k) ++ ⟨#[10]⟩)) ls
/-- What is told ahead of line k. -/
def outK (ans : Nat → ByteArray) (ls : List ByteArray) : Nat → ByteArray
  | 0 => ⟨#[]⟩
  | k + 1 => if sEq (ls.getD k ⟨#[]⟩) ⟨#[]⟩ then outK ans ls k else outK ans ls k ++ (orNo (ans k) ++ ⟨#[10]⟩)

theorem sEq_empty {a : ByteArray} : sEq a ⟨#[]⟩ = true ↔ a.size = 0 := by
  rw [sEq_iff]
  constructor
  · rintro rfl; rfl
  · intro h; exact ByteArray.ext (Array.eq_empty_of_size_eq_zero h)
theorem sEq_nonempty {a : ByteArray} (h : a.size ≠ 0) : sEq a ⟨#[]⟩ = false := by
  cases hq : sEq a ⟨#[]⟩
  · rfl
  · exact absurd (sEq_empty.1 hq) h
theorem orNo_pos {a : ByteArray} (h : 1 ≤ a.size) : orNo a = a := by
  unfold orNo; rw [sEq_nonempty (by omega)]; rfl
theorem outA_skip {ans : Nat → ByteArray} {k : Nat} {o l : ByteArray} {ls : List ByteArray} (h : l.size = 0) : outA ans k o (l :: ls) = outA ans (k + 1) o ls := by
  rw [outA, sEq_empty.2 h, if_pos rfl]
theorem outA_full {ans : Nat → ByteArray} {k : Nat} {o l : ByteArray} {ls : List ByteArray} (h : l.size ≠ 0) (hf : 100 ≤ k ∨ 40000 < o.size) : outA ans k o (l :: ls) = o ++ ⟨#[102, 117, 108, 108, 10]⟩ := by
  rw [outA, sEq_nonempty h, if_neg (by simp), if_pos hf]
theorem outA_step {ans : Nat → ByteArray} {k : Nat} {o l : ByteArray} {ls : List ByteArray} (h : l.size ≠ 0) (hk : k < 100) (ho : o.size ≤ 40000) : outA ans k o (l :: ls) = outA ans (k + 1) (o ++ (orNo (ans k) ++ ⟨#[10]⟩)) ls := by
  rw [outA, sEq_nonempty h, if_neg (by simp), if_neg (by omega)]
theorem outK_skip {ans : Nat → ByteArray} {ls : List ByteArray} {k : Nat} (h : k < ls.length) (he : ls[k].size = 0) : outK ans ls (k + 1) = outK ans ls k := by
  rw [outK, List.getD_eq_getElem?_getD, List.getElem?_eq_getElem h, Option.getD_some, sEq_empty.2 he, if_pos rfl]
theorem outK_step {ans : Nat → ByteArray} {ls : List ByteArray} {k : Nat} (h : k < ls.length) (he : ls[k].size ≠ 0) : outK ans ls (k + 1) = outK ans ls k ++ (orNo (ans k) ++ ⟨#[10]⟩) := by
  rw [outK, List.getD_eq_getElem?_getD, List.getElem?_eq_getElem h, Option.getD_some, sEq_nonempty he, if_neg (by simp)]

end Go.Proofs.YtpinkbodbedajaaGreatDoor

namespace Go.Proofs.YtpinkbodbedajaaGreatDoor
open Go.RowKit

theorem parts_one {c : UInt8} {p : ByteArray} (h : c ∉ p.data.toList) : partsB c p = [p] := by
  unfold partsB; rw [spl_nosep h]; rfl
theorem code_mem {c : ByteArray} (h : isCode c = true) : c.size = 7 ∧ ∀ b ∈ c.data.toList, 48 ≤ b.toNat ∧ b.toNat ≤ 57 := by
  unfold isCode at h
  rw [Bool.and_eq_true, beq_iff_eq] at h
  exact ⟨h.1, digs_mem h.2⟩

theorem joinT_nn {ps : List ByteArray} {sep : ByteArray} (h0 : ps.length ≠ 0) (h : ∀ p ∈ ps, 1 ≤ p.size) : 1 ≤ (joinT ps sep).size := by
  obtain ⟨k, hk⟩ : ∃ k, ps.length = k + 1 := ⟨ps.length - 1, by omega⟩
  have e : ps = ps.take k ++ [ps[k]] := by
    conv => lhs; rw [← List.take_append_drop k ps, List.drop_eq_getElem_cons (by omega)]
    rw [List.drop_eq_nil_of_le (by omega)]
  have hp := h ps[k] (List.getElem_mem _)
  rw [e]
  by_cases hn : ps.take k = []
  · rw [hn, List.nil_append, joinT_one]; exact hp
  · rw [joinT_snoc _ _ _ hn, ByteArray.size_append]; omega
/-! ### The lines -/
def okW : ByteArray := ⟨#[111, 107]⟩
end Go.Proofs.YtpinkbodbedajaaGreatDoor

namespace Go.Proofs.YtpinkbodbedajaaGreatDoor
open Go.RowKit

def numL (l : List UInt8) : Nat := l.foldl (fun n b => 10 * n + (b.toNat - 48)) 0
theorem numL_snoc (l : List UInt8) (b : UInt8) : numL (l ++ [b]) = 10 * numL l + (b.toNat - 48) := by
  unfold numL; rw [List.foldl_append]; rfl
theorem digs_take {l : List UInt8} (h : digs l = true) (k : Nat) : digs (l.take k) = true := by
  unfold digs at *
  exact List.all_eq_true.2 fun b hb => List.all_eq_true.1 h b (List.mem_of_mem_take hb)
theorem numL_lt : ∀ (k : Nat) (l : List UInt8), digs l = true → l.length = k → numL l < 10 ^ k
  | 0, l, _, hl => by rw [List.eq_nil_of_length_eq_zero hl]; decide
  | k + 1, l, h, hl => by
    have e : l = l.take k ++ [l[k]] := by
      conv => lhs; rw [← List.take_append_drop k l, List.drop_eq_getElem_cons (by omega)]
      rw [List.drop_eq_nil_of_le (by omega)]
    have ih := numL_lt k (l.take k) (digs_take h k) (by rw [List.length_take]; omega)
    have hb := digs_mem h _ (List.getElem_mem (show k < l.length by omega))
    rw [e, numL_snoc, Nat.pow_succ]
    omega

set_option maxRecDepth 100000 in
set_option maxHeartbeats 800000 in
theorem impl_digitsNumber (s : ByteArray) (w : World) (hd : digs s.data.toList = true) (hz : s.size ≤ 17) :
    Calls Tryz.prog 248 #[.string s] w fun e w' => e = .returned (.int .i64 (numL s.data.toList : Int)) ∧ w = w' := by
  have HD := Lib.hid hd; clear hd
  go_enter Tryz.func248, Tryz.ntmps248
  go_wp2_with fail
  go_loop [3, 4] (fun t i => ∃ k : Nat, k ≤ s.size ∧ i = .int .i64 k ∧ t = .int .i64 (numL (s.data.toList.take k) : Int)) (fun _ i => s.size - (intOf i).toNat)
  case atStart => exact ⟨0, Nat.zero_le _, rfl, rfl⟩
  case round =>
    obtain ⟨k, hk, rfl, rfl⟩ := hrel
    by_cases hlt : k < s.size
    · have hlt' : k < s.data.toList.length := by simpa using hlt
      have hb := digs_mem HD.out s[k] (by
        have := List.getElem_mem hlt'
        exact this)
      have HS0 : numL (s.data.toList.take (k + 1)) = 10 * numL (s.data.toList.take k) + (s[k].toNat - 48) := by
        rw [List.take_succ_eq_append_getElem hlt', numL_snoc]
        rfl
      have hn := numL_lt k (s.data.toList.take k) (digs_take HD.out k) (by rw [List.length_take]; omega)
      have hp : 10 ^ k ≤ 10 ^ 16 := Nat.pow_le_pow_right (by decide) (by omega)
      obtain ⟨n, hnn⟩ : ∃ n, numL (s.data.toList.take k) = n := ⟨_, rfl⟩
      rw [hnn] at HS0 hn ⊢
      have hn16 : n ≤ 10000000000000000 := by omega
      clear hnn hn hp
      obtain ⟨b, hbe⟩ : ∃ b, s[k] = b := ⟨_, rfl⟩
      rw [hbe] at hb HS0
      obtain ⟨hb1, hb2⟩ := hb
      have HS := Lib.hid HS0; clear HS0
      have hki : (k : Int) < (s.size : Int) := by omega
      have w1 : IntKind.wrap .u8 ((b.toNat : Int) - 48) = (b.toNat : Int) - 48 := by simp [IntKind.wrap, IntKind.bits, IntKind.signed]; omega
      have w2 : IntKind.i64.wrap ((b.toNat : Int) - 48) = (b.toNat : Int) - 48 := IntWalk.i64_in _ (by omega)
      have w3 : IntKind.i64.wrap (10 * (n : Int)) = 10 * (n : Int) := IntWalk.i64_in _ (by omega)
      have w4 : IntKind.i64.wrap (10 * (n : Int) + ((b.toNat : Int) - 48)) = 10 * (n : Int) + ((b.toNat : Int) - 48) := IntWalk.i64_in _ (by omega)
      have hb1' : (48 : Int) ≤ (b.toNat : Int) := by omega
      have hb2' : (b.toNat : Int) ≤ 57 := by omega
      go_wp2_with fail
      go_round
      case rel => exact ⟨k + 1, by omega, by go_num, by rw [HS.out]; congr 1; omega⟩
      case measure => simp [intOf]; omega
    · have HE : Hid (s.data.toList.take k = s.data.toList) := List.take_of_length_le (by simp; omega)
      go_wp2_with fail
      go_ret
      exact ⟨ret_int (by rw [HE.out]), rfl⟩

end Go.Proofs.YtpinkbodbedajaaGreatDoor

namespace Go.Proofs.YtpinkbodbedajaaGreatDoor
open Go.RowKit

theorem threeF {w : World} {g : Nat} {T : TypeId} {a b d : Value} (h : w.heap[g]? = some (.cells #[a, b, d] T (0, 0))) :
    w.cell? ⟨g, 0, none⟩ = some a ∧ w.cell? ⟨g, 1, none⟩ = some b ∧ w.cell? ⟨g, 2, none⟩ = some d ∧ w.frozen? ⟨g, 0, none⟩ = false ∧ w.frozen? ⟨g, 1, none⟩ = false ∧ w.frozen? ⟨g, 2, none⟩ = false :=
  ⟨by rw [cell_of_row _ _ _ _ _ _ h]; rfl, by rw [cell_of_row _ _ _ _ _ _ h]; rfl, by rw [cell_of_row _ _ _ _ _ _ h]; rfl, by simp [World.frozen?, h], by simp [World.frozen?, h], by simp [World.frozen?, h]⟩

end Go.Proofs.YtpinkbodbedajaaGreatDoor

namespace Go.Proofs.YtpinkbodbedajaaGreatDoor
open Go.RowKit

def barTab : List ByteArray := [⟨#[124, 124, 46, 46, 46]⟩, ⟨#[46, 46, 46, 124, 124]⟩, ⟨#[46, 46, 124, 46, 124]⟩, ⟨#[46, 46, 124, 124, 46]⟩, ⟨#[46, 124, 46, 46, 124]⟩, ⟨#[46, 124, 46, 124, 46]⟩, ⟨#[46, 124, 124, 46, 46]⟩, ⟨#[124, 46, 46, 46, 124]⟩, ⟨#[124, 46, 46, 124, 46]⟩, ⟨#[124, 46, 124, 46, 46]⟩]
def barB (k : Nat) : ByteArray := barTab.getD k ⟨#[]⟩
theorem barB_inj : ∀ j, j < 10 → ∀ k, k < 10 → barB j = barB k → j = k := by decide
/-- The program's table of bars lies where it lay. -/
def BarsW (w : World) : Prop := w.var? Tryz.prog "loop.example/sortingoffice/impl.digitBars" = some (barTab.map fun b => Value.string b).toArray
theorem Tryz.gBars : Tryz.prog.globalNamed "loop.example/sortingoffice/impl.digitBars" = some 0 := by kernel_rfl
theorem BarsW.cell {w : World} (h : BarsW w) (i : Nat) (hi : i < 10) : w.cell? ⟨0, i, none⟩ = some (.string (barB i)) := by
  have h1 := World.var?_cell Tryz.gBars h i
  rw [h1]
  have hl : i < barTab.length := hi
  simp [barB, List.getD, hl]
theorem BarsW.on {w w' : World} (h : BarsW w) (hb : Below w.heap.size w w') : BarsW w' :=
  Go.Joins.var_stays Tryz.gBars h hb (Nat.le_refl _)
theorem BarsW.alloc {w : World} (h : BarsW w) (o : Obj) : BarsW (w.alloc o) := h.on ((Below.refl _ _).alloc (Nat.le_refl _) o)

/-- What BarsDigit answers. -/
def barIs (b : ByteArray) (d : Int) : Prop := (∃ k : Nat, k < 10 ∧ d = k ∧ barB k = b) ∨ (d = -1 ∧ ∀ k, k < 10 → barB k ≠ b)
end Go.Proofs.YtpinkbodbedajaaGreatDoor

namespace Go.Proofs.YtpinkbodbedajaaGreatDoor
open Go.RowKit

end Go.Proofs.YtpinkbodbedajaaGreatDoor

namespace Go.Proofs.YtpinkbodbedajaaGreatDoor
open Go.RowKit

/-- The sum of the first k digits but that at u. -/
def sumD (ds : Nat → Nat) (u : Nat) : Nat → Nat
  | 0 => 0
  | k + 1 => sumD ds u k + if k = u then 0 else ds k
structure Bars (b : ByteArray) (ds : Nat → Nat) (u : Nat) : Prop where
  size : b.size = 42
  ten : ∀ k, k < 8 → ds k < 10
  read : ∀ k, k < 8 → k ≠ u → barB (ds k) = b.extract (1 + 5 * k) (6 + 5 * k)
  not : u < 8 → ∀ j, j < 10 → barB j ≠ b.extract (1 + 5 * u) (6 + 5 * u)
  sum : (sumD ds 8 8) % 10 = 0
theorem sumD_without (ds : Nat → Nat) (u : Nat) : ∀ k, sumD ds 8 k = sumD ds u k + (if u < k ∧ u ≠ 8 then ds u else 0) ∨ 8 < k
  | 0 => Or.inl (by simp [sumD])
  | k + 1 => by
    rcases sumD_without ds u k with h | h
    · by_cases h8 : k = 8
      · exact Or.inr (by omega)
      · left
        unfold sumD
        rw [h, if_neg h8]
        by_cases hk : k = u
        · subst hk
          simp [h8]
        · rw [if_neg hk]
          by_cases h2 : u < k ∧ u ≠ 8
          · rw [if_pos h2, if_pos (by omega)]; omega
          · rw [if_neg h2, if_neg (by omega)]; omega
    · exact Or.inr (by omega)
theorem Bars.last {b : ByteArray} {ds : Nat → Nat} {u : Nat} (h : Bars b ds u) (hu : u < 8) : (10 - sumD ds u 8 % 10) % 10 = ds u := by
  have h1 := h.sum
  have h2 := h.ten u hu
  rcases sumD_without ds u 8 with h3 | h3
  · rw [if_pos (by omega)] at h3; omega
  · omega
theorem Bars.all {b : ByteArray} {ds : Nat → Nat} {u : Nat} (h : Bars b ds u) (hu : u = 8) : sumD ds u 8 % 10 = 0 := by
  subst hu; exact h.sum
theorem Bars.is {b : ByteArray} {ds : Nat → Nat} {u k : Nat} {d : Int} (h : Bars b ds u) (hk : k < 8) (hd : barIs (b.extract (1 + 5 * k) (6 + 5 * k)) d) : d = if k = u then -1 else (ds k : Int) := by
  by_cases hu : k = u
  · subst hu
    rw [if_pos rfl]
    rcases hd with ⟨j, hj, _, h2⟩ | ⟨h1, _⟩
    · exact absurd h2 (h.not hk j hj)
    · exact h1
  · rw [if_neg hu]
    rcases hd with ⟨j, hj, h1, h2⟩ | ⟨_, h2⟩
    · have := barB_inj _ hj _ (h.ten k hk) (h2.trans (h.read k hk hu).symm)
      rw [h1, this]
    · exact absurd (h.read k hk hu) (h2 _ (h.ten k hk))
end Go.Proofs.YtpinkbodbedajaaGreatDoor

namespace Go.Proofs.YtpinkbodbedajaaGreatDoor
open Go.RowKit

/-! ### Bars of a code -/
/-! ### A byte put -/
end Go.Proofs.YtpinkbodbedajaaGreatDoor

namespace Go.Proofs.YtpinkbodbedajaaGreatDoor
open Go.RowKit Go.Shelf

set_option maxHeartbeats 1000000 in
theorem split_any {P : Program} {ρ : Ren} (L : Go.Proofs.Lays.n146 P ρ) (hi9 : (P.info? (ρ.t 9)).map (fun i => (i.zero, i.size, i.bytes)) = some (some (.string ByteArray.empty), 1, 16)) (s : ByteArray) (c : UInt8) (w : World) (hs : s.size < 4294967281) :
    Calls P (ρ.f 146) #[.string s, .string ⟨#[c]⟩] w fun e w' =>
      e = .returned (.slice (some ⟨w.heap.size, 0, none⟩) (partsB c s).length (partsB c s).length) ∧ w' = w.alloc (.cells ((partsB c s).map Value.string).toArray (ρ.t 9)) := by
  have h1 : 1 ≤ (⟨#[c]⟩ : ByteArray).size := Nat.le_refl 1
  have hle := Lib.countB_le ⟨#[c]⟩ h1 s.size s (Nat.le_refl _)
  have hlen := Lib.splitB_all ⟨#[c]⟩ h1 0 _ s rfl
  have c0 := Any.strings_genSplit_core (P := P) (ρ := ρ) { L with } hi9 s ⟨#[c]⟩ 0 (-1) (Lib.countB s ⟨#[c]⟩ + 1) w hs h1 (Nat.zero_le _)
    (fun x cc _ => (Any.strings_Index_one { L with } x c _).mono fun e w' h => ⟨by rw [h.1, indexB_one], h.2⟩)
    ((Any.strings_Count_one { L with } s c w).mono fun e w' h => ⟨by
      rw [h.1]
      show _ = Ending.returned (Value.int .i64 ((Lib.count s.data.toList [c] : Nat) : Int))
      rw [Lib.count_one]
      rfl, h.2⟩) (by decide) (by decide) (by rw [if_pos (by decide)]; omega)
  rw [Nat.add_sub_cancel, hlen] at c0
  have e2 : Lib.cellsOf (Lib.splitB ⟨#[c]⟩ 0 (Lib.countB s ⟨#[c]⟩) s) (Lib.countB s ⟨#[c]⟩ + 1) = ((Lib.splitB ⟨#[c]⟩ 0 (Lib.countB s ⟨#[c]⟩) s).map Value.string).toArray := by rw [← hlen]; exact Lib.cellsOf_full _
  rw [e2, splitB_parts c _ s rfl, ← parts_count c s] at c0
  have t3 := L.t3; have t9 := L.t9; have t31 := L.t31
  have a3 := L.a3; have a9 := L.a9; have a31 := L.a31
  have z3 := L.z3; have v3 := L.v3; have z9 := L.z9; have v9 := L.v9; have z31 := L.z31; have v31 := L.v31
  have e221 : ∀ args w, (callFunc (ρ.f 221) args).run P w = .ok (.enter (ρ.f 221) args) w := enters_of L.f221 (by kernel_rfl) rfl
  clear hle hlen e2
  go_enter L.f146, Body.n146_ntmps ρ
  go_wp2_with (go_at_fn (ρ.f 221); refine c0.mono ?_; rintro e w' ⟨rfl, hw⟩; rw [hw])
  go_ret
  exact ⟨rfl, rfl⟩

theorem strings_Split1 (s : ByteArray) (c : UInt8) (w : World) (hs : s.size ≤ 1000000000) :
    Calls Tryz.prog 65 #[.string s, .string ⟨#[c]⟩] w fun e w' => e = .returned (.slice (some ⟨w.heap.size, 0, none⟩) (partsB c s).length (partsB c s).length) ∧ own 9 w.heap.size w' (.slice (some ⟨w.heap.size, 0, none⟩) (partsB c s).length (partsB c s).length) (partsB c s) ∧ Below w.heap.size w w' ∧ w'.heap.size = w.heap.size + 1 :=
  (split_any Tryz.lays146 (by kernel_rfl) s c w (by omega)).mono fun e w' h => by
    obtain ⟨h1, h2⟩ := h
    subst h2
    exact ⟨h1, list_str 9 w.heap.size w (partsB c s) (fun x hx => by have := parts_sizeZ hx; unfold maxLen; omega) (by have := parts_lenZ c s; unfold maxLen; omega) (Nat.le_refl _), (Below.refl _ _).alloc (Nat.le_refl _) _, by simp⟩

end Go.Proofs.YtpinkbodbedajaaGreatDoor

namespace Go.Proofs.YtpinkbodbedajaaGreatDoor
open Go.RowKit

theorem join_rd {A : Option Addr} {c : Nat} {w : World} {ps : List ByteArray} {sep : ByteArray} (h : rd w w.heap.size (.slice A ps.length c) ps) (h0 : ps.length ≠ 0) (hN : ps.length ≤ 1000000000) (hs : (joinT ps sep).size ≤ 140737488355328) :
    Calls Tryz.prog 57 #[.slice A ps.length c, .string sep] w fun e w' => e = .returned (.string (joinT ps sep)) ∧ Below w.heap.size w w' := by
  obtain ⟨A', n', c', hv, hn', hc, hm, hr⟩ := h
  injection hv with e1 e2 e3
  subst e1 e2 e3
  obtain ⟨b, o, rfl, hb, _, _⟩ := hr.str 0 (by omega)
  refine Tryz.strings_Join b o c ps sep w (fun j x hx => ?_) hb (by omega) hc (by rw [joinT_len]; exact hs)
  obtain ⟨hj, rfl⟩ := List.getElem?_eq_some_iff.1 hx
  obtain ⟨b', o', e, _, _, h1⟩ := hr.str j hj
  injection e with e
  injection e with e1 e2
  subst e1 e2
  exact h1


/-- The desk's eight cells. -/
theorem dsk_cells {B d : Nat} {w : World} {s : Dsk} {vH : Value} (h : dskAt B w d s vH) : ∃ (vL vO vF vN : Value) (os : List OfV),
    (w.cell? ⟨d, 0, none⟩ = some vL ∧ w.cell? ⟨d, 1, none⟩ = some (.int .i64 s.day.plan.bins) ∧ w.cell? ⟨d, 2, none⟩ = some (.int .i64 s.day.plan.passes) ∧ w.cell? ⟨d, 3, none⟩ = some vO ∧ w.cell? ⟨d, 4, none⟩ = some vF ∧ w.cell? ⟨d, 5, none⟩ = some vH ∧ w.cell? ⟨d, 6, none⟩ = some (.int .i64 s.day.size) ∧ w.cell? ⟨d, 7, none⟩ = some vN) ∧
    (∀ i, w.frozen? ⟨d, i, none⟩ = false) ∧
    own 89 B w vL s.letters ∧ own 9 B w vO s.day.plan.order ∧ own 94 B w vF s.day.fwds ∧ own 9 B w vH s.day.held ∧ isN 102 174 B w vN s.net os ∧ apart vO vH := by
  obtain ⟨vL, vO, vF, vN, os, h0, h1⟩ := h
  refine ⟨vL, vO, vF, vN, os, ?_, fun i => frozen_of_row _ _ _ _ _ h0, h1⟩
  refine ⟨?_, ?_, ?_, ?_, ?_, ?_, ?_, ?_⟩ <;> (rw [cell_of_row _ _ _ _ _ _ h0]; rfl)
theorem own_d {α : Type} [Flat α] {T base d : Nat} {w : World} {v u : Value} {xs : List α} (h : own T base w v xs) (hd : ∃ cur : Array Value, w.heap[d]? = some (.cells cur 104 (0, 0))) (hT : T ≠ 104) (i : Nat) : own T base (w.setCell ⟨d, i, none⟩ u) v xs :=
  h.keepT fun k cur hc => Below.heap_setCell _ _ _ _ fun e => by
    obtain ⟨c2, h2⟩ := hd
    have e : k = d := e
    subst e
    rw [h2] at hc
    injection hc with hc
    injection hc with _ hc _
    exact hT hc.symm
theorem isN_d {T1 T2 base d : Nat} {w : World} {v u : Value} {net : List Ofc} {os : List OfV} (h : isN T1 T2 base w v net os) (hd : ∃ cur : Array Value, w.heap[d]? = some (.cells cur 104 (0, 0))) (h1 : T1 ≠ 104) (h2 : T2 ≠ 104) (i : Nat) : isN T1 T2 base (w.setCell ⟨d, i, none⟩ u) v net os :=
  ⟨own_d h.1 hd h1 i, h.2.1, fun k a b => ⟨(h.2.2.1 k a b).1, own_d (h.2.2.1 k a b).2 hd h2 i⟩, h.2.2.2.1, h.2.2.2.2⟩
theorem dskAt.setNet {B d : Nat} {w : World} {s : Dsk} {vH vN' : Value} {net' : List Ofc} {os' : List OfV} (h : dskAt B w d s vH) (hn : isN 102 174 B w vN' net' os') : dskAt B (w.setCell ⟨d, 7, none⟩ vN') d { s with net := net' } vH := by
  have ho := h.obj
  obtain ⟨vL, vO, vF, vN, os, h0, h1, h2, h3, h4, h5, h6⟩ := h
  refine ⟨vL, vO, vF, vN', os', ?_, own_d h1 ho (by decide) 7, own_d h2 ho (by decide) 7, own_d h3 ho (by decide) 7, own_d h4 ho (by decide) 7, isN_d hn ho (by decide) (by decide) 7, h6⟩
  have := heap_setCell_same w d 7 _ _ vN' h0
  rw [this]
  rfl


end Go.Proofs.YtpinkbodbedajaaGreatDoor
