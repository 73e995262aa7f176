/- KG KA KH ST KI -/
import Derived.Test.YtpinkbodbedajaaGreatDoorQ23
import Derived.Test.YtpinkbodbedajaaGreatDoorQ8
import Derived.Test.YtpinkbodbedajaaGreatDoorQ11
import Derived.Test.YtpinkbodbedajaaGreatDoorQ13
import Derived.Test.YtpinkbodbedajaaGreatDoorQ18
import Derived.Test.YtpinkbodbedajaaGreatDoorQ21
import Derived.Shelf.SlSortCmp.InsertionK
import Derived.Lib.SortBridge
import Derived.Lib.Bytealg
import Derived.Test.YtpinkbodbedajaaGreatDoorQ1
import Derived.Test.YtpinkbodbedajaaGreatDoorQ15
import Derived.Test.YtpinkbodbedajaaGreatDoorQ2
import Derived.Shelf.SlLaysF0
import Derived.Ground.SlsfProg
import Derived.Sort.LotA
import Derived.Test.YtpinkbodbedajaaGreatDoorQ10
namespace Go.Proofs.YtpinkbodbedajaaGreatDoor
open Go.RowKit

/-- The digit of a letter's code. -/
def digI (d : Nat) (x : Ltr) : Int := (((x.code.data.toList.getD d 48).toNat - 48 : Nat) : Int)
def bpOk (xs : List Ltr) (dg : Int) : Bool := okB xs && (decide (0 ≤ dg) && decide (dg < 7))
def bpBins (xs : List Ltr) (dg : Int) : List (List Ltr) := if bpOk xs dg then binsOf (digI dg.toNat) 10 xs else []
theorem bpBins_no {xs : List Ltr} {dg : Int} (h : bpOk xs dg = false) : bpBins xs dg = [] := by unfold bpBins; rw [h]; rfl
theorem bpBins_yes {xs : List Ltr} {dg : Int} (h : bpOk xs dg = true) : bpBins xs dg = binsOf (digI dg.toNat) 10 xs := by unfold bpBins; rw [if_pos h]
theorem digI_at {x : Ltr} {d : Nat} (h : isCode x.code = true) (hd : d < 7) : ∃ hz : d < x.code.size, 48 ≤ (x.code[d]).toNat ∧ (x.code[d]).toNat ≤ 57 ∧ digI d x = (((x.code[d]).toNat - 48 : Nat) : Int) := by
  obtain ⟨h7, hm⟩ := code_mem h
  have hz : d < x.code.size := by omega
  have hl : d < x.code.data.toList.length := by simpa using hz
  have e : x.code[d] = x.code.data.toList[d] := rfl
  have hb := hm _ (List.getElem_mem hl)
  refine ⟨hz, by rw [e]; exact hb.1, by rw [e]; exact hb.2, ?_⟩
  unfold digI
  rw [List.getD_eq_getElem?_getD, List.getElem?_eq_getElem hl, e]
  rfl

set_option maxRecDepth 100000 in
set_option maxHeartbeats 3200000 in
theorem impl_BinPass (vb : Value) (xs : List Ltr) (dg : Int) (w : World) (hb : rd w w.heap.size vb xs) :
    Calls Tryz.prog 98 #[vb, .int .i64 dg] w fun e w' => ∃ vB vs, e = .returned (.tuple #[vB, .bool (bpOk xs dg)]) ∧ isLL 29 89 w.heap.size w' vB (bpBins xs dg) vs ∧ Below w.heap.size w w' := by
  have HV := Lib.hid hb
  obtain ⟨A, n, cp, rfl, hn, hc, hmx, hr⟩ := hb
  subst hn
  unfold maxLen at hmx
  have HR := Lib.hid hr
  have HNO : Hid (okB xs = false ∨ dg < 0 ∨ 7 ≤ dg → bpOk xs dg = false) := fun h => by
    unfold bpOk
    rcases h with h | h | h
    · rw [h]; rfl
    · rw [decide_eq_false (show ¬ 0 ≤ dg by omega)]; simp
    · rw [decide_eq_false (show ¬ dg < 7 by omega)]; simp
  obtain ⟨i0, hi, hzz, hz1, hz2⟩ := info_parts Tryz.infoRow
  have hmk10 := make_row (P := Tryz.prog) 37 29 i0 _ Tryz.underlying37 hi hzz 10 (by rw [hz2]; omega) (by omega)
  have hmk : ∀ W : World, Sem.run Tryz.prog (Instr.makeSlice 37 (.int .i64 10) (.int .i64 10)) W = .ok (.slice (some ⟨W.heap.size, 0, none⟩) 10 10) (W.alloc (Obj.cells (madeCells #[.slice none 0 0] 10) 29)) := fun W => by
    have h := hmk10 W
    rw [hz1] at h
    exact h
  clear hmk10 hr
  obtain ⟨i1, ji, jz0, jz1, jz2⟩ := info_parts Tryz.infoLtr
  go_enter Tryz.func98, Tryz.ntmps98
  go_wp2_with fail
  refine (impl_BatchValid _ xs _ HV.out).mono ?_
  cases hok : okB xs
  · rintro e w0 ⟨rfl, l0⟩
    have HQ := Lib.hid (HNO.out (.inl hok))
    have HL0 := Lib.hid l0
    clear hok l0
    go_wp2_with fail
    go_ret2
    exact ⟨.slice none 0 0, [], by rw [HQ.out]; rfl, by rw [bpBins_no HQ.out]; exact isLL_nil _ _ _ _, HL0.out⟩
  rintro e w0 ⟨rfl, l0⟩
  by_cases hd0 : dg < 0
  · have HQ := Lib.hid (HNO.out (.inr (.inl hd0)))
    have HL0 := Lib.hid l0
    clear hok l0
    go_wp2_with fail
    go_ret2
    exact ⟨.slice none 0 0, [], by rw [HQ.out]; rfl, by rw [bpBins_no HQ.out]; exact isLL_nil _ _ _ _, HL0.out⟩
  by_cases hd7 : 7 ≤ dg
  · have HQ := Lib.hid (HNO.out (.inr (.inr hd7)))
    have HL0 := Lib.hid l0
    clear hok l0
    go_wp2_with fail
    go_ret2
    exact ⟨.slice none 0 0, [], by rw [HQ.out]; rfl, by rw [bpBins_no HQ.out]; exact isLL_nil _ _ _ _, HL0.out⟩
  obtain ⟨dd, rfl⟩ := Int.eq_ofNat_of_zero_le (show 0 ≤ dg by omega)
  have hdd : dd < 7 := by omega
  have HYES : Hid (bpOk xs (dd : Int) = true) := by show _ = _; unfold bpOk; rw [hok, decide_eq_true (show (0 : Int) ≤ (dd : Int) by omega), decide_eq_true (show (dd : Int) < 7 by omega)]; rfl
  have HBI : Hid (bpBins xs (dd : Int) = binsOf (digI dd) 10 xs) := bpBins_yes HYES.out
  have h60 := (okB_iff.1 hok).1
  have HF : Hid (∀ k (h : k < xs.length), ∃ hz : dd < xs[k].code.size, 48 ≤ (xs[k].code[dd]).toNat ∧ (xs[k].code[dd]).toNat ≤ 57 ∧ digI dd xs[k] = (((xs[k].code[dd]).toNat - 48 : Nat) : Int)) := fun k h => digI_at ((okB_iff.1 hok).2 k h).2.2.1 hdd
  clear hok
  obtain ⟨f, HFF⟩ : ∃ f : Ltr → Int, Hid (f = digI dd) := ⟨_, rfl⟩
  rw [← HFF.out] at HBI HF
  have l00 := Below.refl w0.heap.size w0
  go_wp2_with fail
  have hoz := made_nil_row (α := Ltr) w0 29 89 10 w0.heap.size (Nat.le_refl _) (by unfold maxLen; omega)
  have lz : Below w0.heap.size w0 (w0.alloc (Obj.cells (madeCells #[.slice none 0 0] 10) 29)) := later_alloc l00 _
  generalize (w0.alloc (Obj.cells (madeCells #[.slice none 0 0] 10) 29)) = wz at *
  obtain ⟨vs0, hoz⟩ := hoz
  obtain ⟨G, hG⟩ : ∃ G, w0.heap.size = G := ⟨_, rfl⟩
  have HGG := Lib.hid hG
  have HOZ : Hid (isLL 29 89 w0.heap.size wz (.slice (some ⟨G, 0, none⟩) 10 10) (List.replicate 10 ([] : List Ltr)) vs0) := by rw [← hG]; exact hoz
  rw [hG]
  clear hoz hG hmk
  have HL0 := Lib.hid l0; clear l0 l00
  go_loopw [24] (fun i wr => ∃ (k : Nat) (vs : List Value), k ≤ xs.length ∧ i = .int .i64 k ∧ Below w0.heap.size w0 wr ∧ isLL 29 89 w0.heap.size wr (.slice (some ⟨G, 0, none⟩) 10 10) (binsOf f 10 (xs.take k)) vs) (fun i _ => xs.length - (intOf i).toNat)
  case atStart =>
    refine ⟨0, vs0, Nat.zero_le _, rfl, lz, ?_⟩
    rw [List.take_zero, binsOf_nil]
    exact HOZ.out
  case round =>
    obtain ⟨k, vs, hk, rfl, lr, hB⟩ := hrel
    obtain ⟨w1, rfl⟩ : ∃ w1 : World, w1 = wr := ⟨_, rfl⟩
    have HB := Lib.hid hB
    clear lz HOZ hB
    have hs1 := lr.size
    by_cases hlt : k < xs.length
    · obtain ⟨b, o, rfl, hb, ⟨hxi, hxc⟩, c1, c2⟩ := HR.out.ltrU k hlt
      obtain ⟨hcz, hc1, hc2, hcf⟩ := HF.out k hlt
      have HFXK := Lib.hid hcf
      obtain ⟨x, hx⟩ : ∃ x, x = xs[k] := ⟨_, rfl⟩
      have HX := Lib.hid hx
      have hcz' : dd < x.code.size := by rw [hx]; exact hcz
      have hb1 : 48 ≤ (x.code[dd]).toNat ∧ (x.code[dd]).toNat ≤ 57 := by simp only [hx]; exact ⟨hc1, hc2⟩
      have hfx : f xs[k] = (((x.code[dd]).toNat - 48 : Nat) : Int) := by rw [hcf]; simp only [hx]
      rw [← hx] at c1 c2 hxi hxc
      clear hx hcf hc1 hc2 HFXK
      obtain ⟨bb, hbb⟩ : ∃ bb, x.code[dd] = bb := ⟨_, rfl⟩
      rw [hbb] at hb1 hfx
      obtain ⟨d, hd⟩ : ∃ d : Nat, d = bb.toNat - 48 := ⟨_, rfl⟩
      rw [← hd] at hfx
      have hdN : d < 10 := by omega
      have HD : Hid (f xs[k] = (d : Int)) := hfx
      clear hfx
      have hki : (k : Int) < (xs.length : Int) := by omega
      have hlb : d < (binsOf f 10 (xs.take k)).length := by rw [binsOf_len]; exact hdN
      have HS1 := Lib.hid (binsOf_step (f := f) (n := 10) (d := d) hlt HD.out hlb)
      have c1' := c1 w1 (later_trans HL0.out lr)
      have c2' := c2 w1 (later_trans HL0.out lr)
      clear c1 c2
      obtain ⟨wl, hwl⟩ : ∃ wl : World, wl = w1.alloc (Obj.cells #[.int .i64 x.id, .string x.code] 89) := ⟨_, rfl⟩
      have x0 := box_cells hwl 0 (.int .i64 x.id) rfl wl (Below.refl _ _)
      have x1 := box_cells hwl 1 (.string x.code) rfl wl (Below.refl _ _)
      have hBL := (box_later hwl).1
      have ll := later_trans lr hBL
      have hll : w1.heap.size < wl.heap.size := (box_later hwl).2
      have HB3 := Lib.hid (HB.out.below hBL)
      have HWL := Lib.hid hwl; clear hwl hBL
      obtain ⟨hlv, hov, hgv⟩ : ∃ hlv : d < vs.length, own 89 w0.heap.size wl vs[d] (binsOf f 10 (xs.take k))[d] ∧ apart vs[d] (.slice (some ⟨G, 0, none⟩) 10 10) := by
        obtain ⟨z1, z2, z3, z4, z5⟩ := HB3.out
        exact ⟨by omega, z3 d (by omega) hlb, z5 d (by omega)⟩
      have hcG : wl.cell? ⟨G, d, none⟩ = some vs[d] := own_cellv HB3.out.1 d hlv
      have hfG : wl.frozen? ⟨G, d, none⟩ = false := HB3.out.1.freeAt d
      have hzl : (binsOf f 10 (xs.take k))[d].length ≤ 1000 := by
        rw [binsOf_get]
        have := filter_len_le (fun x => f x == (d : Int)) xs k
        omega
      obtain ⟨zs, hzs⟩ : ∃ zs, zs = (binsOf f 10 (xs.take k))[d] := ⟨_, rfl⟩
      have HZS := Lib.hid hzs
      rw [← hzs] at hov hzl
      clear hzs
      obtain ⟨u, hu⟩ : ∃ u, u = vs[d] := ⟨_, rfl⟩
      have HU := Lib.hid hu
      rw [← hu] at hov hgv hcG
      clear hu
      obtain ⟨Au, mu, cu, rfl, hmu, _, _, _⟩ := hov.rd
      subst hmu
      have HOV := Lib.hid hov; clear hov
      have HGV := Lib.hid hgv; clear hgv
      have hdn : (d : Int) < 10 := by omega
      have hGs : some G ≠ (Value.slice Au zs.length cu).ownBlock := by
        have h := HGV.out
        unfold apart at h
        rcases h with h | h
        · rw [h]; simp
        · exact fun e => h e.symm
      have HGS := Lib.hid hGs; clear hGs
      have hGlt : G < wl.heap.size := (HB3.out.1.blk G rfl).2
      have w1' : IntKind.wrap .u8 ((bb.toNat : Int) - 48) = (d : Int) := by simp [IntKind.wrap, IntKind.bits, IntKind.signed]; omega
      have w2' : IntKind.i64.wrap (d : Int) = (d : Int) := IntWalk.i64_in _ (by omega)
      have hddi : (dd : Int) < (x.code.size : Int) := by omega
      clear hb1 hd
      have hG0 : w0.heap.size ≤ G := Nat.le_of_eq HGG.out
      go_wp2_with fail
      rw [← HWL.out]
      go_region_law (go_loud ((refine step_append1 (α := Ltr) (by rfl) (.tmp 39) (.tmp 41) 29 (by rfl) w0.heap.size 89 i1 _ 24 Tryz.underlying29 ji jz0 jz1 jz2 rfl (by decide) (.slice Au zs.length cu) zs x (by rfl) ((HOV.out.alloc _).drew) ⟨wl.heap.size, 0, none⟩ 1 (Ltr.cells x) (by rfl) ⟨⟨hxi, hxc⟩, rfl⟩ (news_drew wl _ (Ltr.cells x)) (by unfold maxLen; omega) (by omega) (by simp; omega) ?_; intro g cap w4 ho4 hg4 ha4 hl4; have hcG4 : w4.cell? ⟨G, d, none⟩ = some (.slice Au zs.length cu) := (hg4.cell_far ⟨G, d, none⟩ (by simp; omega) HGS.out).trans (by go_simp); have hfG4 : w4.frozen? ⟨G, d, none⟩ = false := (hg4.frozen_far ⟨G, d, none⟩ (by simp; omega) HGS.out).trans (by go_simp))))
      all_goals
        have hWD : Below wl.heap.size wl (wl.alloc (Obj.cells #[Value.int IntKind.i64 x.id, Value.string x.code] 89)).drew := later_drew (later_alloc (Below.refl _ _) _)
        obtain ⟨p1, _, _⟩ := place_step (o := .slice none 0 0) (rest := ([] : List Ltr)) HB3.out (own.nil_ _ _ _) ⟨.inl rfl, fun k hk => .inl rfl⟩ hWD hlv hlb HU.out HZS.out ho4 hg4 ha4
        have p4 := place_later (G := G) (d := d) (g := g) (m := zs.length + 1) (cap := cap) (later_drew (later_alloc ll (Obj.cells #[Value.int IntKind.i64 x.id, Value.string x.code] 89))) hg4 (fun j hj => (HOV.out.blk j hj).1) hG0
        have P1 := Lib.hid p1
        clear p1 hWD
        go_wp2_with fail
        go_roundw
        case rel => exact ⟨k + 1, _, by omega, by go_num, p4, by rw [HS1.out, ← HX.out]; exact P1.out⟩
        case measure => simp [intOf]; omega
    · have HE := Lib.hid (show k = xs.length by omega)
      go_wp2_with fail
      go_ret2
      have hB := HB.out
      rw [HE.out, List.take_length] at hB
      exact ⟨_, vs, by rw [HYES.out]; rfl, by rw [HBI.out]; exact hB.base_ HL0.out.size, later_trans HL0.out lr⟩

end Go.Proofs.YtpinkbodbedajaaGreatDoor

namespace Go.Proofs.YtpinkbodbedajaaGreatDoor
open Go.RowKit

def negB (t : ByteArray) : Bool := Lib.hasPrefix t.data.toList [45]
def absB (t : ByteArray) : ByteArray := ⟨(Lib.trimPrefix t.data.toList [45]).toArray⟩
def zeroB (d : ByteArray) : Bool := d.data.toList.head? == some 48
def nOk (d : ByteArray) (ng : Bool) : Bool := (decide (d.size ≠ 0) && (decide (d.size ≤ 17) && digs d.data.toList)) && !(zeroB d && (decide (1 < d.size) || ng))
def nVal (d : ByteArray) (ng : Bool) : Int := if nOk d ng then (if ng then -(numL d.data.toList : Int) else (numL d.data.toList : Int)) else 0
def numOk (t : ByteArray) : Bool := nOk (absB t) (negB t)
def numV (t : ByteArray) : Int := nVal (absB t) (negB t)
theorem zeroB_at {d : ByteArray} (h : 0 < d.size) : zeroB d = (d[0] == 48) := by
  have hl : 0 < d.data.toList.length := by simpa using h
  unfold zeroB
  obtain ⟨b, l, hbl⟩ : ∃ b l, d.data.toList = b :: l := by
    cases hq : d.data.toList with
    | nil => rw [hq] at hl; simp at hl
    | cons b l => exact ⟨b, l, rfl⟩
  have e : d[0] = d.data.toList[0] := rfl
  rw [e]
  simp only [hbl]
  simp
theorem nVal_no {d : ByteArray} {ng : Bool} (h : nOk d ng = false) : nVal d ng = 0 := by unfold nVal; rw [h]; rfl
theorem nVal_bound {d : ByteArray} {ng : Bool} : -100000000000000000 < nVal d ng ∧ nVal d ng < 100000000000000000 := by
  unfold nVal
  split
  · rename_i h
    unfold nOk at h
    simp only [Bool.and_eq_true, decide_eq_true_iff] at h
    have h1 := numL_lt d.data.toList.length d.data.toList h.1.2.2 rfl
    have h2 : d.data.toList.length ≤ 17 := by have := h.1.2.1; simpa using this
    have h3 : 10 ^ d.data.toList.length ≤ 10 ^ 17 := Nat.pow_le_pow_right (by decide) h2
    split <;> omega
  · omega

set_option maxRecDepth 100000 in
set_option maxHeartbeats 1600000 in
theorem impl_parseNumber (t : ByteArray) (w : World) (ht : t.size ≤ maxLen) :
    Calls Tryz.prog 197 #[.string t] w fun e w' => e = .returned (.tuple #[.int .i64 (numV t), .bool (numOk t)]) ∧ w = w' := by
  have HC : Hid (∀ W : World, Calls Tryz.prog 247 #[.string t, .string ⟨#[45]⟩] W fun e w' => e = .returned (.tuple #[.string (absB t), .bool (negB t)]) ∧ W = w') := fun W => (Tryz.strings_CutPrefix t ⟨#[45]⟩ W).mono fun e w' h => ⟨h.1, h.2.symm⟩
  have hdz : (absB t).size ≤ maxLen := by
    have h1 : (Lib.trimPrefix t.data.toList [45]).length ≤ t.data.toList.length := by
      unfold Lib.trimPrefix
      split
      · simp
      · exact Nat.le_refl _
    have h2 : t.data.toList.length = t.size := by simp
    show (Lib.trimPrefix t.data.toList [45]).toArray.size ≤ _
    rw [List.size_toArray]
    omega
  unfold numV numOk
  generalize absB t = d at *
  generalize negB t = ng at *
  have HA := Lib.hid (fun W => impl_allDigits d W hdz)
  have HN := Lib.hid (fun W => impl_digitsNumber d W)
  unfold maxLen at hdz
  by_cases h0 : d.size = 0
  · have HO : Hid (nOk d ng = false) := by show _ = _; unfold nOk; simp [h0]
    have HV := Lib.hid (nVal_no HO.out)
    obtain ⟨e1, e2⟩ := empty_tests h0
    rw [HO.out, HV.out]
    clear h0
    go_enter Tryz.func197, Tryz.ntmps197
    go_wp2_with fail
    refine (HC.out _).mono ?_
    rintro e _ ⟨rfl, rfl⟩
    go_wp2_with fail
    go_ret2
    exact ⟨rfl, rfl⟩
  obtain ⟨e1, e2⟩ := nonempty_tests h0
  by_cases h17 : 17 < d.size
  · have HO : Hid (nOk d ng = false) := by show _ = _; unfold nOk; rw [decide_eq_false (show ¬ d.size ≤ 17 by omega)]; simp
    have HV := Lib.hid (nVal_no HO.out)
    rw [HO.out, HV.out]
    go_enter Tryz.func197, Tryz.ntmps197
    go_wp2_with fail
    refine (HC.out _).mono ?_
    rintro e _ ⟨rfl, rfl⟩
    go_wp2_with fail
    go_ret2
    exact ⟨rfl, rfl⟩
  cases hdd : digs d.data.toList
  · have HO : Hid (nOk d ng = false) := by show _ = _; unfold nOk; rw [hdd]; simp
    have HV := Lib.hid (nVal_no HO.out)
    rw [HO.out, HV.out]
    rw [hdd] at HA
    clear hdd
    go_enter Tryz.func197, Tryz.ntmps197
    go_wp2_with fail
    refine (HC.out _).mono ?_
    rintro e _ ⟨rfl, rfl⟩
    go_wp2_with (go_at_call 143; refine (HA.out _).mono ?_; rintro e _ ⟨rfl, rfl⟩)
    go_ret2
    exact ⟨rfl, rfl⟩
  have HN2 := Lib.hid (fun W => HN.out W hdd (by omega))
  have hnl := numL_lt d.data.toList.length d.data.toList hdd rfl
  have hlz : d.data.toList.length = d.size := by simp
  have h3 : 10 ^ d.data.toList.length ≤ 10 ^ 17 := Nat.pow_le_pow_right (by decide) (by omega)
  have hn : numL d.data.toList ≤ 100000000000000000 := by omega
  have hz0 := zeroB_at (d := d) (by omega)
  have HO0 : Hid (nOk d ng = !(zeroB d && (decide (1 < d.size) || ng))) := by show _ = _; unfold nOk; rw [hdd, decide_eq_true (show d.size ≠ 0 from h0), decide_eq_true (show d.size ≤ 17 by omega)]; simp
  have HV0 : Hid (nVal d ng = if nOk d ng then (if ng then -(numL d.data.toList : Int) else (numL d.data.toList : Int)) else 0) := rfl
  rw [hdd] at HA
  generalize numL d.data.toList = n at *
  clear hdd hnl h3 HN
  have hd0 : 0 < d.size := by omega
  obtain ⟨b, hbe⟩ : ∃ b, d[0] = b := ⟨_, rfl⟩
  rw [hbe] at hz0
  have hdi : (0 : Int) < (d.size : Int) := by omega
  generalize zeroB d = zb at *
  generalize nOk d ng = ok at *
  generalize nVal d ng = vv at *
  have wn : IntKind.i64.wrap (-(n : Int)) = -(n : Int) := IntWalk.i64_in _ (by omega)
  by_cases hb : b = 48
  · subst hb
    have HZ : Hid (zb = true) := by show _ = _; rw [hz0]; rfl
    clear hz0
    by_cases h1 : 1 < d.size
    · have HO : Hid (ok = false) := by show _ = _; rw [HO0.out, HZ.out, decide_eq_true h1]; rfl
      have HV : Hid (vv = 0) := by show _ = _; rw [HV0.out, HO.out]; rfl
      rw [HO.out, HV.out]
      go_enter Tryz.func197, Tryz.ntmps197
      go_wp2_with fail
      refine (HC.out _).mono ?_
      rintro e _ ⟨rfl, rfl⟩
      go_wp2_with (go_at_call 143; refine (HA.out _).mono ?_; rintro e _ ⟨rfl, rfl⟩)
      go_ret2
      exact ⟨rfl, rfl⟩
    · cases ng
      · have HO : Hid (ok = true) := by show _ = _; rw [HO0.out, HZ.out, decide_eq_false h1]; rfl
        have HV : Hid (vv = (n : Int)) := by show _ = _; rw [HV0.out, HO.out]; rfl
        rw [HO.out, HV.out]
        go_enter Tryz.func197, Tryz.ntmps197
        go_wp2_with fail
        refine (HC.out _).mono ?_
        rintro e _ ⟨rfl, rfl⟩
        go_wp2_with (first | (go_at_call 143; refine (HA.out _).mono ?_; rintro e _ ⟨rfl, rfl⟩) | (go_at_call 248; refine (HN2.out _).mono ?_; rintro e _ ⟨rfl, rfl⟩))
        go_ret2
        exact ⟨rfl, rfl⟩
      · have HO : Hid (ok = false) := by show _ = _; rw [HO0.out, HZ.out]; simp
        have HV : Hid (vv = 0) := by show _ = _; rw [HV0.out, HO.out]; rfl
        rw [HO.out, HV.out]
        go_enter Tryz.func197, Tryz.ntmps197
        go_wp2_with fail
        refine (HC.out _).mono ?_
        rintro e _ ⟨rfl, rfl⟩
        go_wp2_with (go_at_call 143; refine (HA.out _).mono ?_; rintro e _ ⟨rfl, rfl⟩)
        go_ret2
        exact ⟨rfl, rfl⟩
  · have hbn : ((b.toNat : Int) == 48) = false := beq_eq_false_iff_ne.2 fun h => hb (UInt8.toNat_inj.1 (by show b.toNat = 48; omega))
    have HZ : Hid (zb = false) := by show _ = _; rw [hz0]; exact beq_eq_false_iff_ne.2 hb
    have HO : Hid (ok = true) := by show _ = _; rw [HO0.out, HZ.out]; rfl
    clear hz0 hb
    cases ng
    · have HV : Hid (vv = (n : Int)) := by show _ = _; rw [HV0.out, HO.out]; rfl
      rw [HO.out, HV.out]
      go_enter Tryz.func197, Tryz.ntmps197
      go_wp2_with fail
      refine (HC.out _).mono ?_
      rintro e _ ⟨rfl, rfl⟩
      go_wp2_with (first | (go_at_call 143; refine (HA.out _).mono ?_; rintro e _ ⟨rfl, rfl⟩) | (go_at_call 248; refine (HN2.out _).mono ?_; rintro e _ ⟨rfl, rfl⟩))
      go_ret2
      exact ⟨rfl, rfl⟩
    · have HV : Hid (vv = -(n : Int)) := by show _ = _; rw [HV0.out, HO.out]; rfl
      rw [HO.out, HV.out]
      go_enter Tryz.func197, Tryz.ntmps197
      go_wp2_with fail
      refine (HC.out _).mono ?_
      rintro e _ ⟨rfl, rfl⟩
      go_wp2_with (first | (go_at_call 143; refine (HA.out _).mono ?_; rintro e _ ⟨rfl, rfl⟩) | (go_at_call 248; refine (HN2.out _).mono ?_; rintro e _ ⟨rfl, rfl⟩))
      go_ret2
      exact ⟨rfl, rfl⟩

/-- The number of a field; -1 if it is none. -/
def fieldN (t : ByteArray) : Int := if numOk t then numV t else -1
set_option maxRecDepth 100000 in
theorem impl_fieldNumber (t : ByteArray) (w : World) (ht : t.size ≤ maxLen) :
    Calls Tryz.prog 201 #[.string t] w fun e w' => e = .returned (.int .i64 (fieldN t)) ∧ w = w' := by
  have HN := Lib.hid (fun W => impl_parseNumber t W ht)
  have HF : Hid (fieldN t = if numOk t then numV t else -1) := rfl
  generalize numV t = n at *
  generalize fieldN t = r at *
  cases h : numOk t
  · rw [h] at HN HF
    rw [show r = -1 from HF.out]
    clear h
    go_enter Tryz.func201, Tryz.ntmps201
    go_wp2_with fail
    refine (HN.out _).mono ?_
    rintro e _ ⟨rfl, rfl⟩
    go_wp2_with fail
    go_ret
    exact ⟨rfl, rfl⟩
  · rw [h] at HN HF
    rw [show r = n from HF.out]
    clear h
    go_enter Tryz.func201, Tryz.ntmps201
    go_wp2_with fail
    refine (HN.out _).mono ?_
    rintro e _ ⟨rfl, rfl⟩
    go_wp2_with fail
    go_ret
    exact ⟨rfl, rfl⟩

end Go.Proofs.YtpinkbodbedajaaGreatDoor

namespace Go.Proofs.YtpinkbodbedajaaGreatDoor
open Go.RowKit

def spL (xs : List Ltr) (dg : Int) : List Ltr := if bpOk xs dg then (binsOf (digI dg.toNat) 10 xs).flatten else []
theorem spL_no {xs : List Ltr} {dg : Int} (h : bpOk xs dg = false) : spL xs dg = [] := by unfold spL; rw [h]; rfl
theorem spL_yes {xs : List Ltr} {dg : Int} (h : bpOk xs dg = true) : spL xs dg = (binsOf (digI dg.toNat) 10 xs).flatten := by unfold spL; rw [if_pos h]
theorem bpOk_ok {xs : List Ltr} {dg : Int} (h : bpOk xs dg = true) : okB xs = true ∧ 0 ≤ dg ∧ dg < 7 := by
  unfold bpOk at h
  simp only [Bool.and_eq_true, decide_eq_true_iff] at h
  exact ⟨h.1, h.2.1, h.2.2⟩
theorem sp_collect {xs : List Ltr} {dg : Int} (h : bpOk xs dg = true) : collectOk (bpBins xs dg) = true ∧ collected (bpBins xs dg) = spL xs dg := by
  have hc : collectOk (bpBins xs dg) = true := by
    unfold collectOk
    rw [bpBins_yes h, binsOf_len, okB_binsOf _ _ (bpOk_ok h).1]
    rfl
  exact ⟨hc, by rw [collected_yes hc, spL_yes h, bpBins_yes h]⟩
theorem spL_ok {xs : List Ltr} {dg : Int} (h : bpOk xs dg = true) : okB (spL xs dg) = true := by
  rw [spL_yes h]; exact okB_binsOf _ _ (bpOk_ok h).1

set_option maxRecDepth 100000 in
set_option maxHeartbeats 800000 in
theorem impl_SortPass (vb : Value) (xs : List Ltr) (dg : Int) (w : World) (hb : rd w w.heap.size vb xs) :
    Calls Tryz.prog 38 #[vb, .int .i64 dg] w fun e w' => ∃ v', e = .returned (.tuple #[v', .bool (bpOk xs dg)]) ∧ own 89 w.heap.size w' v' (spL xs dg) ∧ Below w.heap.size w w' := by
  have HB := Lib.hid (impl_BinPass vb xs dg w hb)
  obtain ⟨A, n, cp, rfl, hn, hc, hmx, hr⟩ := hb
  clear hr hn hc hmx
  go_enter Tryz.func38, Tryz.ntmps38
  go_wp2_with fail
  refine HB.out.mono ?_
  cases hk : bpOk xs dg
  · rintro e w1 ⟨vB, vs, rfl, hL, b1⟩
    have HL1 := Lib.hid b1
    have HS := Lib.hid (spL_no hk)
    have HK := Lib.hid hk
    clear hL b1 hk
    go_wp2_with fail
    go_ret2
    exact ⟨.slice none 0 0, by rw [HK.out]; rfl, by rw [HS.out]; exact own.nil_ _ _ _, HL1.out⟩
  · rintro e w1 ⟨vB, vs, rfl, hL, b1⟩
    have HL1 := Lib.hid b1
    obtain ⟨c1, c2⟩ := sp_collect hk
    have HC := Lib.hid (impl_CollectBins vB (bpBins xs dg) w1 (ownLL.rd ⟨_, hL⟩))
    rw [c1, c2] at HC
    have HK := Lib.hid hk
    clear c1 c2 hL b1 hk
    go_wp2_with fail
    refine HC.out.mono ?_
    rintro e w2 ⟨v2, rfl, o2, b2⟩
    have HO2 := Lib.hid (o2.base_ HL1.out.size)
    have HL2 := Lib.hid (later_trans HL1.out b2)
    obtain ⟨A2, n2, c2, rfl, -, -, -, -⟩ := o2.rd
    clear o2 b2
    go_wp2_with fail
    go_ret2
    exact ⟨_, by rw [HK.out]; rfl, HO2.out, HL2.out⟩

/-- A number told: nothing for -1. -/
def numT (n : Int) : ByteArray := if n = -1 then ⟨#[]⟩ else ⟨(Lib.itoa n).toArray⟩
theorem strconv_ItoaI (n : Int) (w : World) (hn : isI64 n) (ht : TabW w) :
    Calls Tryz.prog 56 #[.int .i64 n] w fun e w' => e = .returned (.string ⟨(Lib.itoa n).toArray⟩) ∧ Below w.heap.size w w' := by
  refine (Tryz.strconv_Itoa n hn.1 hn.2 w ht).mono ?_
  rintro e w' ⟨rfl, k, os, rfl⟩
  exact ⟨rfl, below_grow w k os⟩
set_option maxRecDepth 100000 in
theorem impl_numberText (n : Int) (w : World) (hn : isI64 n) (ht : TabW w) :
    Calls Tryz.prog 193 #[.int .i64 n] w fun e w' => e = .returned (.string (numT n)) ∧ Below w.heap.size w w' := by
  have HI := Lib.hid (fun W h => strconv_ItoaI n W hn (ht.on (w' := W) h))
  by_cases h1 : n = -1
  · subst h1
    go_enter Tryz.func193, Tryz.ntmps193
    go_wp2_with fail
    go_ret
    exact ⟨rfl, Below.refl _ _⟩
  · have hq : (n == -1) = false := beq_eq_false_iff_ne.2 h1
    have HT : Hid (numT n = ⟨(Lib.itoa n).toArray⟩) := by show _ = _; unfold numT; rw [if_neg h1]
    clear h1 hn
    go_enter Tryz.func193, Tryz.ntmps193
    go_wp2_with fail
    refine (HI.out _ (Below.refl _ _)).mono ?_
    rintro e w1 ⟨rfl, b1⟩
    go_wp2_with fail
    go_ret
    exact ⟨ret_str HT.out.symm, b1⟩
end Go.Proofs.YtpinkbodbedajaaGreatDoor

namespace Go.Proofs.YtpinkbodbedajaaGreatDoor
open Go.RowKit

instance : Inhabited Ltr := ⟨⟨0, ⟨#[]⟩⟩⟩
instance : Inhabited Fwd := ⟨⟨⟨#[]⟩, ⟨#[]⟩⟩⟩

/-! ### The library's order of texts -/
theorem cmp_irrefl : ∀ a : List UInt8, Lib.compareBytes a a = 0
  | [] => rfl
  | a :: p => by
    unfold Lib.compareBytes
    have : ¬ a < a := by rw [UInt8.lt_iff_toNat_lt]; omega
    rw [if_neg this, if_neg this]
    exact cmp_irrefl p
theorem cmp_trans : ∀ a b c : List UInt8, Lib.compareBytes a b < 0 → Lib.compareBytes b c < 0 → Lib.compareBytes a c < 0
  | [], [], _, h, _ => by simp [Lib.compareBytes] at h
  | [], _ :: _, [], _, h => by simp [Lib.compareBytes] at h
  | [], _ :: _, _ :: _, _, _ => by simp [Lib.compareBytes]
  | _ :: _, [], _, h, _ => by simp [Lib.compareBytes] at h
  | _ :: _, _ :: _, [], _, h => by simp [Lib.compareBytes] at h
  | a :: p, b :: q, c :: r, h1, h2 => by
    unfold Lib.compareBytes at h1 h2 ⊢
    simp only [UInt8.lt_iff_toNat_lt] at h1 h2 ⊢
    split at h1
    · split at h2
      · rw [if_pos (by omega)]; omega
      · split at h2
        · omega
        · rw [if_pos (by omega)]; omega
    · split at h1
      · omega
      · split at h2
        · rw [if_pos (by omega)]; omega
        · split at h2
          · omega
          · rw [if_neg (by omega), if_neg (by omega)]
            exact cmp_trans p q r h1 h2
theorem cmp_ntrans : ∀ a b c : List UInt8, ¬ Lib.compareBytes a b < 0 → ¬ Lib.compareBytes b c < 0 → ¬ Lib.compareBytes a c < 0
  | [], [], c, _, h => h
  | [], _ :: _, _, h, _ => by simp [Lib.compareBytes] at h
  | _ :: _, [], [], _, _ => by simp [Lib.compareBytes]
  | _ :: _, [], _ :: _, _, h => by simp [Lib.compareBytes] at h
  | _ :: _, _ :: _, [], _, _ => by simp [Lib.compareBytes]
  | a :: p, b :: q, c :: r, h1, h2 => by
    unfold Lib.compareBytes at h1 h2 ⊢
    simp only [UInt8.lt_iff_toNat_lt] at h1 h2 ⊢
    split at h1
    · exact absurd (by omega) h1
    · split at h2
      · exact absurd (by omega) h2
      · rw [if_neg (by omega)]
        split
        · omega
        · rw [if_neg (by omega)] at h1
          rw [if_neg (by omega)] at h2
          exact cmp_ntrans p q r h1 h2
theorem swo_code {α : Type} (f : α → ByteArray) : Sort.SWO (ltOf fun x y : α => Lib.compareBytes (f x).data.toList (f y).data.toList) where
  irrefl x := by
    unfold ltOf
    show decide (Lib.compareBytes _ _ < 0) = false
    rw [cmp_irrefl]
    rfl
  trans x y z h1 h2 := by
    unfold ltOf at *
    exact decide_eq_true (cmp_trans _ _ _ (of_decide_eq_true h1) (of_decide_eq_true h2))
  ntrans x y z h1 h2 := by
    unfold ltOf at *
    exact decide_eq_false (cmp_ntrans _ _ _ (of_decide_eq_false h1) (of_decide_eq_false h2))
theorem perm_of_in {α : Type} [Inhabited α] {d d' : Array α} (h : Sort.PermIn 0 d.size d d') : d'.toList.Perm d.toList := by
  obtain ⟨h1, _, h3⟩ := h
  have e1 : d.extract 0 d.size = d := Array.extract_size
  have e2 : d'.extract 0 d.size = d' := by rw [← h1]; exact Array.extract_size
  rwa [e1, e2] at h3

/-! ### Rows of two cells, flat -/
theorem flat2_get {α : Type} [Inhabited α] (enc : α → List Value) (hk : ∀ x, (enc x).length = 2) : ∀ (xs : List α) (t : Nat), t < xs.length * 2 → (xs.flatMap enc)[t]? = (enc (xs.getD (t / 2) default))[t % 2]?
  | [], t, h => by simp at h
  | x :: xs, 0, _ => by
    have h := hk x
    rw [List.flatMap_cons, List.getElem?_append_left (by omega)]
    rfl
  | x :: xs, 1, _ => by
    have h := hk x
    rw [List.flatMap_cons, List.getElem?_append_left (by omega)]
    rfl
  | x :: xs, t + 2, h => by
    have hx := hk x
    rw [List.flatMap_cons, List.getElem?_append_right (by omega), hx, Nat.add_sub_cancel, flat2_get enc hk xs t (by simp at h; omega)]
    rw [show (t + 2) / 2 = t / 2 + 1 by omega, show (t + 2) % 2 = t % 2 by omega]
    rfl
theorem flat2_len {α : Type} (enc : α → List Value) (hk : ∀ x, (enc x).length = 2) : ∀ xs : List α, (xs.flatMap enc).length = xs.length * 2
  | [] => rfl
  | x :: xs => by
    rw [List.flatMap_cons, List.length_append, hk, flat2_len enc hk xs]
    simp
    omega
theorem flat2 {α : Type} [Inhabited α] (enc : α → List Value) (hk : ∀ x, (enc x).length = 2) (d : Array α) : Sort.flatK enc 2 d = (d.toList.flatMap enc).toArray := by
  apply Array.ext
  · rw [Sort.size_flatK]
    simp [flat2_len enc hk]
  · intro t h1 h2
    rw [Sort.size_flatK] at h1
    have h3 := Sort.get_flatK enc 2 d t h1
    rw [getElem!_pos _ t (by rw [Sort.size_flatK]; exact h1)] at h3
    rw [h3]
    have h4 := flat2_get enc hk d.toList t (by simpa using h1)
    have h5 : (d.toList.flatMap enc)[t]? = some (d.toList.flatMap enc)[t] := List.getElem?_eq_getElem (by rw [flat2_len enc hk]; simpa using h1)
    rw [h5] at h4
    have hlt : t / 2 < d.size := by omega
    have e : d.toList.getD (t / 2) default = d[t / 2]! := by
      rw [getElem!_pos d (t / 2) hlt]
      simp [hlt]
    rw [e] at h4
    have h6 : t % 2 < (enc d[t / 2]!).length := by rw [hk]; omega
    rw [List.getElem?_eq_getElem h6] at h4
    injection h4 with h4
    rw [getElem!_pos (enc d[t / 2]!) (t % 2) h6, ← h4]
    simp

theorem grown_trans3 {a b c : World} {row : Option Nat} (h : a.grownBy b row) (k : b.grownBy c row) : a.grownBy c row :=
  ⟨k.os.trans h.os, k.tape.trans h.tape, k.output.trans h.output, Nat.le_trans h.size k.size, fun i hi hne => (k.block i (Nat.lt_of_lt_of_le hi h.size) hne).trans (h.block i hi hne)⟩
theorem own_grow2 {α : Type} [Flat α] {T base : Nat} {w : World} {v : Value} {xs : List α} (h : own T base w v xs) (os : Array Obj) : own T base (Go.Sort.grow w os) v xs :=
  h.keepBlk fun k hk => by
    have := (h.blk k hk).2
    show (w.heap ++ os)[k]? = w.heap[k]?
    rw [Array.getElem?_append_left this]
theorem set_run {α : Type} (xs : List α) (k : Nat) (y : α) (ys : List α) (hk : k + (ys.length + 1) ≤ xs.length) : (xs.set k y).take (k + 1) ++ ys ++ (xs.set k y).drop (k + 1 + ys.length) = xs.take k ++ y :: ys ++ xs.drop (k + (ys.length + 1)) := by
  rw [List.take_succ_eq_append_getElem (by rw [List.length_set]; omega), List.getElem_set_self, List.take_set_of_le (Nat.le_refl _), List.drop_set_of_lt (by omega)]
  rw [show k + 1 + ys.length = k + (ys.length + 1) by omega]
  simp
theorem own_runL {T base g n c : Nat} : ∀ (ys : List Ltr) (k : Nat) (w : World) (xs : List Ltr), (∀ y ∈ ys, y.ok) → k + ys.length ≤ xs.length → own T base w (.slice (some ⟨g, 0, none⟩) n c) xs →
    own T base (w.setCells g (k * 2) (ys.flatMap Ltr.cells)) (.slice (some ⟨g, 0, none⟩) n c) (xs.take k ++ ys ++ xs.drop (k + ys.length)) ∧ w.grownBy (w.setCells g (k * 2) (ys.flatMap Ltr.cells)) (some g)
  | [], k, w, xs, _, _, h => by
    refine ⟨?_, World.grownBy.refl _ _⟩
    simpa [World.setCells] using h
  | y :: ys, k, w, xs, hy, hl, h => by
    simp only [List.length_cons] at hl
    have h1 := own_setLtr h (k := k) (by omega) y (hy y (by simp))
    obtain ⟨h2, h3⟩ := own_runL ys (k + 1) _ (xs.set k y) (fun z hz => hy z (by simp [hz])) (by rw [List.length_set]; omega) h1
    rw [set_run xs k y ys hl] at h2
    have e : w.setCells g (k * 2) ((y :: ys).flatMap Ltr.cells) = ((w.setCell ⟨g, k * 2, none⟩ (.int .i64 y.id)).setCell ⟨g, k * 2 + 1, none⟩ (.string y.code)).setCells g ((k + 1) * 2) (ys.flatMap Ltr.cells) := by
      rw [show (k + 1) * 2 = k * 2 + 1 + 1 by omega]
      simp only [List.flatMap_cons, Ltr.cells, Fwd.cells, List.cons_append, List.nil_append, World.setCells]
    rw [e]
    exact ⟨h2, grown_trans3 (grown_setCell (p := ⟨g, k * 2 + 1, none⟩) (grown_setCell (p := ⟨g, k * 2, none⟩) (World.grownBy.refl w (some g)) (.inl rfl) _) (.inl rfl) _) h3⟩
theorem own_holdsL {T base g n c : Nat} {w : World} {xs : List Ltr} (h : own T base w (.slice (some ⟨g, 0, none⟩) n c) xs) : Sort.HoldsK Ltr.cells 2 w g 0 xs.toArray := by
  unfold Sort.HoldsK
  intro t ht
  rw [Sort.size_flatK] at ht
  have ht' : t < xs.length * 2 := by simpa using ht
  have hlt : t / 2 < xs.length := by omega
  refine ⟨?_, by rw [Nat.zero_add]; exact h.freeAt _⟩
  obtain ⟨_, c1, c2⟩ := own_ltr h (t / 2) hlt
  rw [Sort.get_flatK _ _ _ _ (by simpa using ht'), show (xs.toArray)[t / 2]! = xs[t / 2] by simp [hlt], Nat.zero_add]
  rcases (show t % 2 = 0 ∨ t % 2 = 1 by omega) with e | e
  · rw [e]
    conv => lhs; rw [show t = t / 2 * 2 by omega]
    exact c1
  · rw [e]
    conv => lhs; rw [show t = t / 2 * 2 + 1 by omega]
    exact c2
/-- What lies behind a sort of a row of the call's own. -/
theorem sorted_ownL {T base g n c q : Nat} {w : World} {xs : List Ltr} {d' : Array Ltr} {os : Array Obj} (h : own T base w (.slice (some ⟨g, 0, none⟩) n c) xs) (hp : d'.toList.Perm xs) :
    own T base (sortWorldK Ltr.cells 2 w g 0 q d' os) (.slice (some ⟨g, 0, none⟩) n c) d'.toList ∧ w.grownBy (sortWorldK Ltr.cells 2 w g 0 q d' os) (some g) := by
  have hH := own_holdsL h
  have hl := hp.length_eq
  have e1 : sortWorldK Ltr.cells 2 w g 0 q d' os = Sort.grow ((w.drewN q).setCells g 0 (d'.toList.flatMap Ltr.cells)) os := by
    unfold sortWorldK Sort.putRowK
    rw [flat2 Ltr.cells (fun _ => rfl) d', Lib.sorted_world id w g 0 q (Sort.flatK Ltr.cells 2 xs.toArray) (d'.toList.flatMap Ltr.cells) os hH (by rw [flat2_len _ (fun _ => rfl), Sort.size_flatK, hl]; simp)]
    simp
  have bq : Below w.heap.size w (w.drewN q) := later_drewN (Below.refl _ _) q
  have hok : ∀ y ∈ d'.toList, y.ok := fun y hy => by
    obtain ⟨k, hk, rfl⟩ := List.getElem_of_mem (hp.mem_iff.1 hy)
    exact (own_ltr h k hk).1
  obtain ⟨h2, h3⟩ := own_runL d'.toList 0 (w.drewN q) xs hok (by omega) (h.below bq)
  have e : xs.take 0 ++ d'.toList ++ xs.drop (0 + d'.toList.length) = d'.toList := by simp [hl]
  rw [e, Nat.zero_mul] at h2
  rw [Nat.zero_mul] at h3
  rw [e1]
  refine ⟨own_grow2 h2 os, ?_⟩
  have h4 := grown_trans3 (grown_below (World.grownBy.refl w (some g)) bq) h3
  exact ⟨h4.os, h4.tape, h4.output, Nat.le_trans h4.size (by simp [Go.Sort.grow]), fun k hk hne => by
    show (_ ++ os)[k]? = _
    rw [Array.getElem?_append_left (Nat.lt_of_lt_of_le hk h4.size)]
    exact h4.block k hk hne⟩
end Go.Proofs.YtpinkbodbedajaaGreatDoor

namespace Go.Proofs
open Go.Shelf
def Tryz.laysIns_ren : Go.Shelf.Ren := ⟨fun | 20 => 264 | n => n, fun | 24 => 89 | 22 => 29 | 3 => 3 | 25 => 187 | 4 => 4 | 0 => 0 | n => n, fun | n => n⟩
theorem Tryz.laysIns : Go.Proofs.SlLaysF0.n20 Tryz.prog Tryz.laysIns_ren := {
  mixed := by kernel_rfl
  f20 := ⟨Tryz.f264.name, by decide, Tryz.func264.trans (congrArg some (by kernel_rfl))⟩
  t0 := Tryz.underlying0
  a0 := Tryz.isAgg0
  z0 := Tryz.sizeOf0
  v0 := Tryz.zeroValue0
  t3 := Tryz.underlying3
  a3 := Tryz.isAgg3
  z3 := Tryz.sizeOf3
  v3 := Tryz.zeroValue3
  t4 := Tryz.underlying4
  a4 := Tryz.isAgg4
  z4 := Tryz.sizeOf4
  v4 := Tryz.zeroValue4
  t22 := Tryz.underlying29
  a22 := Tryz.isAgg29
  z22 := Tryz.sizeOf29
  v22 := Tryz.zeroValue29
  t25 := Tryz.underlying187
  a25 := Tryz.isAgg187
  z25 := Tryz.sizeOf187
  v25 := Tryz.zeroValue187 }
end Go.Proofs
namespace Go.Proofs.YtpinkbodbedajaaGreatDoor
open Go.RowKit

def sortedA (xs : List Ltr) : Array Ltr := Sort.insertionSort (ltOf fun x y : Ltr => Lib.compareBytes x.code.data.toList y.code.data.toList) xs.toArray 0 xs.toArray.size
/-- The letters in the order of their codes; letters of one code keep their order. -/
def sortedL (xs : List Ltr) : List Ltr := (sortedA xs).toList
theorem sortedA_perm (xs : List Ltr) : (sortedA xs).toList.Perm xs :=
  perm_of_in (Sort.insertionSort_holds (lt := ltOf fun x y : Ltr => Lib.compareBytes x.code.data.toList y.code.data.toList) (swo_code Ltr.code) xs.toArray 0 xs.toArray.size (Nat.zero_le _) (Nat.le_refl _)).1
theorem sortedL_perm (xs : List Ltr) : (sortedL xs).Perm xs := sortedA_perm xs
theorem sortedL_nil : sortedL [] = [] := (sortedL_perm []).eq_nil
theorem cmp_SB (x y : Ltr) (W : World) : Calls Tryz.prog 164 #[.agg #[.int .i64 x.id, .string x.code], .agg #[.int .i64 y.id, .string y.code]] W fun e w' => e = .returned (.int .i64 (Lib.compareBytes x.code.data.toList y.code.data.toList)) ∧ ∃ q os', w' = Sort.grow (W.drewN q) os' := by
  have hcon := fun W' => Tryz.strings_Compare x.code y.code W'
  change ∀ W', Calls Tryz.prog 165 _ _ _ at hcon
  generalize Lib.compareBytes x.code.data.toList y.code.data.toList = r at hcon ⊢
  go_enter Tryz.func164, Tryz.ntmps164
  go_wp2_with (go_at_call 165; refine (hcon _).mono ?_; rintro e w' ⟨rfl, rfl⟩)
  go_ret
  exact ⟨rfl, 0, _, by rw [Go.Sort.alloc_eq_grow, Go.Sort.alloc_eq_grow, Go.Sort.grow_grow]; rfl⟩
theorem stable_L (T base : Nat) (v : Value) (xs : List Ltr) (w : World) (hv : own T base w v xs) (hl : xs.length ≤ 19) :
    Calls Tryz.prog 227 #[v, .int .i64 xs.length, .func (.func 164) #[] #[]] w fun e w' => e = .returned (.tuple #[]) ∧ own T base w' v (sortedL xs) ∧ w.grownBy w' v.ownBlock := by
  have h20 : ¬ (20 : Int) ≤ (xs.length : Int) := by omega
  have h20' : ¬ (20 : Int) < (xs.length : Int) := by omega
  rcases hv.form with ⟨rfl, rfl⟩ | ⟨g, c, rfl, hg, hgl, hc, hm⟩
  · have hn : Calls Tryz.prog 264 #[.slice none 0 0, .int .i64 0, .int .i64 0, .func (.func 164) #[] #[]] w fun e w' => e = .returned (.tuple #[]) ∧ w' = w := by
      go_enter Tryz.func264, Tryz.ntmps264
      go_wp2
      refine wp_loop_rounds 1 ?_
      rw [rounds_succ]
      go_wp2
      go_end0
      exact ⟨rfl, rfl⟩
    go_enter Tryz.func227, Tryz.ntmps227
    go_wp2
    refine wp_loop_rounds 1 ?_
    rw [rounds_succ]
    go_wp2_with (go_at_call 264; refine hn.mono ?_; rintro e w1 ⟨rfl, rfl⟩)
    refine wp_loop_rounds 1 ?_
    rw [rounds_succ]
    go_wp2
    go_end0
    exact ⟨rfl, by rw [sortedL_nil]; exact hv, World.grownBy.refl _ _⟩
  · have eg : ∀ args w, (callFunc 164 args).run Tryz.prog w = .ok (.enter 164 args) w := enters_of Tryz.func164 (by kernel_rfl) rfl
    have hc := AnyQ.insertionSortCmpFunc Tryz.laysIns 2 Tryz.isAgg89 Tryz.sizeOf89 Ltr.cells (fun _ => rfl) (fun x v hv => by simp [Ltr.cells] at hv; rcases hv with rfl | rfl <;> rfl) (fun x y : Ltr => Lib.compareBytes x.code.data.toList y.code.data.toList) 164 #[] g 0 c 0 xs.toArray.size xs.toArray w eg (fun _ _ _ _ x y => cmp_SB x y _) (own_holdsL hv) hgl (Nat.zero_le _) (Nat.le_refl _) (by simp; omega)
    have hp := sortedA_perm xs
    have hsl : Hid (sortedL xs = (sortedA xs).toList) := rfl
    change Calls Tryz.prog 264 _ _ _ at hc
    change Calls _ _ _ _ (fun e w' => e = .returned (.tuple #[]) ∧ ∃ n os, w' = sortWorldK Ltr.cells 2 w g 0 n (sortedA xs) os) at hc
    generalize sortedA xs = d' at hc hp hsl
    rw [show xs.toArray.size = xs.length from rfl] at hc
    have HV := Lib.hid hv; have HP := Lib.hid hp
    clear hv hp eg
    go_enter Tryz.func227, Tryz.ntmps227
    go_wp2
    refine wp_loop_rounds 1 ?_
    rw [rounds_succ]
    go_wp2_with (go_at_call 264; refine hc.mono ?_; rintro e w1 ⟨rfl, n, os, rfl⟩)
    refine wp_loop_rounds 1 ?_
    rw [rounds_succ]
    go_wp2
    go_end0
    obtain ⟨h1, h2⟩ := sorted_ownL (q := n) (os := os) HV.out HP.out
    exact ⟨rfl, by rw [hsl.out]; exact h1, h2⟩
theorem stable_S (T base : Nat) (v : Value) (xs : List Ltr) (w : World) (hv : own T base w v xs) (hl : xs.length ≤ 19) :
    Calls Tryz.prog 163 #[v, .func (.func 164) #[] #[]] w fun e w' => e = .returned (.tuple #[]) ∧ own T base w' v (sortedL xs) ∧ w.grownBy w' v.ownBlock := by
  have hc := stable_L T base v xs w hv hl
  obtain ⟨A, n, c, rfl, hn, _, _, _⟩ := hv.rd
  subst hn
  have HC := Lib.hid hc; clear hc hv
  go_enter Tryz.func163, Tryz.ntmps163
  go_wp2_with (go_at_call 227; refine HC.out.mono ?_; rintro e w1 ⟨rfl, hy, hg⟩)
  go_end0
  exact ⟨rfl, hy, hg⟩
theorem impl_SortBatch (v : Value) (xs : List Ltr) (w : World) (hv : rd w w.heap.size v xs) (hl : xs.length ≤ 19) (hok : okB xs = true) :
    Calls Tryz.prog 97 #[v] w fun e w' => ∃ v', e = .returned (.tuple #[v', .bool true]) ∧ own 89 w.heap.size w' v' (sortedL xs) ∧ Below w.heap.size w w' := by
  have HV := Lib.hid hv; clear hv
  have HOK := Lib.hid hok; clear hok
  go_enter Tryz.func97, Tryz.ntmps97
  go_wp2_with fail
  refine (impl_BatchValid _ xs _ HV.out).mono ?_
  rw [HOK.out]
  rintro e w1 ⟨rfl, b1⟩
  go_wp2_with fail
  refine (impl_copyLetters _ xs _ (HV.out.on b1) (by omega)).mono ?_
  rintro e w2 ⟨v2, rfl, o2, b2⟩
  have l2 := b1.trans (b2.mono b1.size)
  have O2 := Lib.hid o2; clear o2
  go_wp2_with fail
  refine (stable_S _ _ v2 xs _ O2.out hl).mono ?_
  rintro e w3 ⟨rfl, o3, g3⟩
  have l3 : Below w.heap.size w w3 := l2.grown g3 l2.size (fun k hk => by have := (O2.out.blk k hk).1; have := b1.size; omega)
  have O3 := Lib.hid (o3.base_ b1.size); clear o3
  go_wp2_with fail
  go_ret2
  exact ⟨v2, rfl, O3.out, l3⟩
theorem so_sorted (v : Value) (xs : List Ltr) (w : World) (hv : rd w w.heap.size v xs) (hl : xs.length ≤ 19) (hok : okB xs = true) :
    Calls Tryz.prog 37 #[v] w fun e w' => ∃ v', e = .returned v' ∧ own 89 w.heap.size w' v' (sortedL xs) ∧ Below w.heap.size w w' := by
  have HV := Lib.hid hv; clear hv
  go_enter Tryz.func37, Tryz.ntmps37
  go_wp2_with fail
  refine (impl_SortBatch _ xs _ HV.out hl hok).mono ?_
  rintro e w1 ⟨v1, rfl, o1, b1⟩
  have O1 := Lib.hid o1; clear o1
  go_wp2_with fail
  go_ret
  exact ⟨v1, rfl, O1.out, b1⟩

end Go.Proofs.YtpinkbodbedajaaGreatDoor
