/- KK KL DU DV SP KM -/
import Derived.Test.YtpinkbodbedajaaGreatDoorQ23
import Derived.Test.YtpinkbodbedajaaGreatDoorQ24
import Derived.Test.YtpinkbodbedajaaGreatDoorQ25
import Derived.Test.YtpinkbodbedajaaGreatDoorQ15
import Derived.Test.YtpinkbodbedajaaGreatDoorQ16
import Derived.Deep.RegionHeld3
import Derived.Test.YtpinkbodbedajaaGreatDoorQ2
import Derived.Test.YtpinkbodbedajaaGreatDoorQ6
import Derived.Test.YtpinkbodbedajaaGreatDoorQ7
import Derived.Lib.MinMax
import Derived.Test.YtpinkbodbedajaaGreatDoorQ11
import Derived.Test.YtpinkbodbedajaaGreatDoorQ13
namespace Go.Proofs.YtpinkbodbedajaaGreatDoor
open Go.RowKit

def lettersWd : ByteArray := ⟨#[108, 101, 116, 116, 101, 114, 115]⟩
def planWd : ByteArray := ⟨#[112, 108, 97, 110]⟩
def movedWd : ByteArray := ⟨#[109, 111, 118, 101, 100]⟩
def sortWd : ByteArray := ⟨#[115, 111, 114, 116]⟩
def sequenceWd : ByteArray := ⟨#[115, 101, 113, 117, 101, 110, 99, 101]⟩
def sealWd : ByteArray := ⟨#[115, 101, 97, 108]⟩
def passWd : ByteArray := ⟨#[112, 97, 115, 115]⟩

/-! ### What stays when the desk is written -/
theorem var_d {B d : Nat} {w : World} {s : Dsk} {vH : Value} {n : String} {g : Nat} {cs : Array Value} (hg : Tryz.prog.globalNamed n = some g) (h : w.var? Tryz.prog n = some cs) (hD : dskAt B w d s vH) (hne : cs.size ≠ 8) (i : Nat) (u : Value) : (w.setCell ⟨d, i, none⟩ u).var? Tryz.prog n = some cs := by
  obtain ⟨vL, vO, vF, vN, os, h0, _⟩ := hD
  unfold World.var? at h ⊢
  rw [hg] at h ⊢
  simp only [Option.bind_some] at h ⊢
  have hgd : g ≠ d := fun e => by
    subst e
    rw [h0] at h
    simp only [Option.bind_some] at h
    injection h with h
    rw [← h] at hne
    exact hne rfl
  rw [Below.heap_setCell _ _ _ _ hgd]
  exact h
theorem TabW.setD {B d : Nat} {w : World} {s : Dsk} {vH : Value} (h : TabW w) (hD : dskAt B w d s vH) (i : Nat) (u : Value) : TabW (w.setCell ⟨d, i, none⟩ u) :=
  var_d (g := 2) (by kernel_rfl) h hD (by decide) i u

/-! ### The desk written -/
theorem dskAt.setLetters {B d : Nat} {w : World} {s : Dsk} {vH v' : Value} {xs : List Ltr} (h : dskAt B w d s vH) (hn : own 89 B w v' xs) : dskAt B (w.setCell ⟨d, 0, none⟩ v') d { s with letters := xs } vH := by
  have ho := h.obj
  obtain ⟨vL, vO, vF, vN, os, h0, h1, h2, h3, h4, h5, h6⟩ := h
  refine ⟨v', vO, vF, vN, os, ?_, own_d hn ho (by decide) 0, own_d h2 ho (by decide) 0, own_d h3 ho (by decide) 0, own_d h4 ho (by decide) 0, isN_d h5 ho (by decide) (by decide) 0, h6⟩
  have := heap_setCell_same w d 0 _ _ v' h0
  rw [this]
  rfl
theorem dskAt.setBins {B d : Nat} {w : World} {s : Dsk} {vH : Value} (h : dskAt B w d s vH) (n : Int) : dskAt B (w.setCell ⟨d, 1, none⟩ (.int .i64 n)) d { s with day := { s.day with plan := { s.day.plan with bins := n } } } vH := by
  have ho := h.obj
  obtain ⟨vL, vO, vF, vN, os, h0, h1, h2, h3, h4, h5, h6⟩ := h
  refine ⟨vL, vO, vF, vN, os, ?_, own_d h1 ho (by decide) 1, own_d h2 ho (by decide) 1, own_d h3 ho (by decide) 1, own_d h4 ho (by decide) 1, isN_d h5 ho (by decide) (by decide) 1, h6⟩
  have := heap_setCell_same w d 1 _ _ (.int .i64 n) h0
  rw [this]
  rfl
theorem dskAt.setPasses {B d : Nat} {w : World} {s : Dsk} {vH : Value} (h : dskAt B w d s vH) (n : Int) : dskAt B (w.setCell ⟨d, 2, none⟩ (.int .i64 n)) d { s with day := { s.day with plan := { s.day.plan with passes := n } } } vH := by
  have ho := h.obj
  obtain ⟨vL, vO, vF, vN, os, h0, h1, h2, h3, h4, h5, h6⟩ := h
  refine ⟨vL, vO, vF, vN, os, ?_, own_d h1 ho (by decide) 2, own_d h2 ho (by decide) 2, own_d h3 ho (by decide) 2, own_d h4 ho (by decide) 2, isN_d h5 ho (by decide) (by decide) 2, h6⟩
  have := heap_setCell_same w d 2 _ _ (.int .i64 n) h0
  rw [this]
  rfl
theorem dskAt.setOrder {B d : Nat} {w : World} {s : Dsk} {vH v' : Value} {cs : List ByteArray} (h : dskAt B w d s vH) (hn : own 9 B w v' cs) (ha : apart v' vH) : dskAt B (w.setCell ⟨d, 3, none⟩ v') d { s with day := { s.day with plan := { s.day.plan with order := cs } } } vH := by
  have ho := h.obj
  obtain ⟨vL, vO, vF, vN, os, h0, h1, h2, h3, h4, h5, h6⟩ := h
  refine ⟨vL, v', vF, vN, os, ?_, own_d h1 ho (by decide) 3, own_d hn ho (by decide) 3, own_d h3 ho (by decide) 3, own_d h4 ho (by decide) 3, isN_d h5 ho (by decide) (by decide) 3, ha⟩
  have := heap_setCell_same w d 3 _ _ v' h0
  rw [this]
  rfl

set_option maxRecDepth 100000 in
set_option maxHeartbeats 1600000 in
theorem desk_setLetters (B d : Nat) (s : Dsk) (vH v : Value) (xs : List Ltr) (ok : Bool) (w : World) (hD : dskAt B w d s vH) (ho : own 89 B w v xs) (hT : TabW w) :
    Calls Tryz.prog 132 #[.pointer (some ⟨d, 0, none⟩), v, .bool ok] w (lineQ B d (if ok then { s with letters := xs } else s) vH (if ok then fmtB xs else ⟨#[]⟩) w) := by
  have HD := Lib.hid hD
  have HO := Lib.hid ho
  have HT := Lib.hid (hT.setD hD 0 v)
  obtain ⟨A, n, c, rfl, -, -, -, -⟩ := ho.rd
  obtain ⟨_, _, _, _, _, ⟨c0, _, _, _, _, _, _, _⟩, hf, _⟩ := dsk_cells hD
  have f0 := hf 0
  clear hD ho hT hf
  cases ok
  · go_enter Tryz.func132, Tryz.ntmps132
    go_wp2_with fail
    go_ret
    exact lineQ.of_read HD.out rfl (Below.refl _ _)
  · have HF := Lib.hid (impl_FormatBatch _ xs _ (own_d (u := .slice A n c) HO.out HD.out.obj (by decide) 0).rd HT.out)
    go_enter Tryz.func132, Tryz.ntmps132
    go_wp2_with fail
    refine HF.out.mono ?_
    rintro e w1 ⟨rfl, b1⟩
    have hb1 := Lib.hid b1; clear b1
    go_wp2_with fail
    go_ret
    exact lineQ.post ⟨rfl, vH, HD.out.setLetters HO.out, (Kd.of_below (Below.refl _ _)).set 0 _, heldN.refl _ _⟩ hb1.out

set_option maxRecDepth 100000 in
set_option maxHeartbeats 1600000 in
theorem desk_setPlan (B d : Nat) (s : Dsk) (vH : Value) (p : Pln) (w : World) (hD : dskAt B w d s vH) (hB : B ≤ w.heap.size) (hk : planOk p = true) :
    Calls Tryz.prog 134 #[.pointer (some ⟨d, 0, none⟩), .string (fmtPl p)] w (lineQ B d { s with day := { s.day with plan := p } } vH okW w) := by
  have HD := Lib.hid hD
  have HP : Hid (∀ W : World, Calls Tryz.prog 198 #[.string (fmtPl p)] W fun e w' => ∃ vo, e = .returned (.tuple #[.agg #[.int .i64 p.bins, .int .i64 p.passes, vo], .bool true]) ∧ own 9 W.heap.size w' vo p.order ∧ Below W.heap.size W w') := fun W => by
    have h := impl_ParsePlan (fmtPl p) W (by have := fmtPl_size p; omega)
    rw [(pla_fmt hk).1, (pla_fmt hk).2] at h
    exact h
  obtain ⟨pb, pp, po⟩ := p
  simp only at HP
  clear hk
  have hdl := hD.lt
  clear hD
  go_enter Tryz.func134, Tryz.ntmps134
  go_wp2_with fail
  refine (HP.out _).mono ?_
  rintro e w1 ⟨vo, rfl, o1, b1⟩
  have hap : apart vo vH := by
    unfold apart
    cases hv : vo.ownBlock with
    | none => exact .inl rfl
    | some k =>
      refine .inr fun e => ?_
      have h1 := (o1.blk k hv).1
      have h2 := (HD.out.held.blk k e.symm).2
      omega
  obtain ⟨A, n, c, rfl, -, -, -, -⟩ := o1.rd
  obtain ⟨w2, hw2⟩ : ∃ u, u = w1.alloc (Obj.cells #[.int .i64 pb, .int .i64 pp, .slice A n c] 25) := ⟨_, rfl⟩
  have hb2 : w2.heap[w1.heap.size]? = some (.cells #[.int .i64 pb, .int .i64 pp, .slice A n c] 25 (0, 0)) := by rw [hw2]; exact heap_alloc_new w1 _
  have hl2 : Below w.heap.size w w2 := by rw [hw2]; exact b1.alloc b1.size _
  have ho2 : own 9 w.heap.size w2 (.slice A n c) po := by rw [hw2]; exact o1.alloc _
  have hs1 := b1.size
  obtain ⟨q0, q1, q2, _, _, _⟩ := threeF hb2
  have HD2 := Lib.hid (HD.out.below hl2)
  obtain ⟨_, _, _, _, _, ⟨_, c1, c2, c3, _, _, _, _⟩, hf, _⟩ := dsk_cells HD2.out
  have f1 := hf 1; have f2 := hf 2; have f3 := hf 3
  have HO2 := Lib.hid (ho2.base_ hB); have HL2 := Lib.hid hl2; have HAP := Lib.hid hap
  have hne : w1.heap.size ≠ d := by omega
  clear o1 b1 hb2 hl2 ho2 hf hap
  subst hw2
  go_wp2_with fail
  go_ret
  exact ⟨rfl, vH, ((HD2.out.setBins pb).setPasses pp).setOrder (own_d (own_d HO2.out HD2.out.obj (by decide) 1) (HD2.out.setBins pb).obj (by decide) 2) HAP.out, (((Kd.of_below HL2.out).set 1 _).set 2 _).set 3 _, heldN.refl _ _⟩

/-! ### Lines of a word and a rest -/
set_option maxRecDepth 100000 in
set_option maxHeartbeats 1600000 in
theorem line_letters (B d : Nat) (s : Dsk) (vH : Value) (xs : List Ltr) (w : World) (hD : dskAt B w d s vH) (hB : B ≤ w.heap.size) (hT : TabW w) (hk : okB xs = true) :
    Calls Tryz.prog 68 #[.pointer (some ⟨d, 0, none⟩), .string (lnOne lettersWd (fmtB xs))] w (lineQ B d { s with letters := xs } vH (fmtB xs) w) := by
  have hz := fmtB_size xs
  have HK : Hid (Calls Tryz.prog 130 #[.string (lnOne lettersWd (fmtB xs)), .string ⟨#[32]⟩] w fun e w' => e = .returned (.tuple #[.string lettersWd, .string (fmtB xs), .bool true]) ∧ Below w.heap.size w w') := (strings_Cut1 (lnOne lettersWd (fmtB xs)) 32 w (by rw [lnOne_size]; unfold maxLen; show 7 + 1 + _ ≤ _; omega)).mono fun e w' h => by
    have hcut : cutAt 32 (lnOne lettersWd (fmtB xs)) = some (lettersWd, fmtB xs) := cut_app (by decide)
    obtain ⟨hb, ⟨h, _⟩ | ⟨p, q, h, he⟩⟩ := h
    · rw [hcut] at h; cases h
    · rw [hcut] at h; cases h; exact ⟨he, hb⟩
  have HP : Hid (∀ W : World, Below w.heap.size w W → Calls Tryz.prog 133 #[.string (fmtB xs)] W fun e w' => ∃ v', e = .returned (.tuple #[v', .bool true]) ∧ own 89 W.heap.size w' v' xs ∧ Below W.heap.size W w') := fun W hW => by
    have h := impl_ParseBatch (fmtB xs) W (by unfold maxLen; omega) (hT.on hW)
    rw [(pb_fmt hk).1, (pb_fmt hk).2] at h
    exact h
  have HD := Lib.hid hD; have HTT := Lib.hid hT
  clear hD hT hk
  generalize lnOne lettersWd (fmtB xs) = line at *
  have HFX : Hid (fmtB xs = fmtB xs) := rfl
  obtain ⟨F, hF⟩ : ∃ F, fmtB xs = F := ⟨_, rfl⟩
  rw [hF] at HK HP
  have HFF := Lib.hid hF; clear hF hz HFX
  have q_t : (lettersWd.toList == [108, 101, 116, 116, 101, 114, 115]) = true := by rw [ByteArray.toList_eq]; decide
  generalize lettersWd = wd at *
  go_enter Tryz.func68, Tryz.ntmps68
  go_wp2_with fail
  refine HK.out.mono ?_
  rintro e w1 ⟨rfl, b1⟩
  have HB1 := Lib.hid b1; clear b1
  go_wp2_with fail
  refine (HP.out _ HB1.out).mono ?_
  rintro e w2 ⟨v2, rfl, o2, b2⟩
  have HB2 := Lib.hid (later_trans HB1.out b2)
  have HC := Lib.hid (desk_setLetters B d s vH v2 xs true w2 (HD.out.below HB2.out) (o2.base_ (Nat.le_trans hB HB1.out.size)) (HTT.out.on HB2.out))
  obtain ⟨A, n, c, rfl, -, -, -, -⟩ := o2.rd
  clear o2 b2
  go_wp2_with fail
  refine HC.out.mono ?_
  rintro e w3 h3
  simp only [if_true] at h3
  have H3 := Lib.hid h3
  obtain ⟨rfl, _⟩ := h3
  go_wp2_with fail
  go_ret
  exact lineQ.pre HB2.out H3.out

set_option maxRecDepth 100000 in
set_option maxHeartbeats 1600000 in
theorem line_plan (B d : Nat) (s : Dsk) (vH : Value) (p : Pln) (w : World) (hD : dskAt B w d s vH) (hB : B ≤ w.heap.size) (hk : planOk p = true) :
    Calls Tryz.prog 68 #[.pointer (some ⟨d, 0, none⟩), .string (lnOne planWd (fmtPl p))] w (lineQ B d { s with day := { s.day with plan := p } } vH okW w) := by
  have hz := fmtPl_size p
  have HK : Hid (Calls Tryz.prog 130 #[.string (lnOne planWd (fmtPl p)), .string ⟨#[32]⟩] w fun e w' => e = .returned (.tuple #[.string planWd, .string (fmtPl p), .bool true]) ∧ Below w.heap.size w w') := (strings_Cut1 (lnOne planWd (fmtPl p)) 32 w (by rw [lnOne_size]; unfold maxLen; show 4 + 1 + _ ≤ _; omega)).mono fun e w' h => by
    have hcut : cutAt 32 (lnOne planWd (fmtPl p)) = some (planWd, fmtPl p) := cut_app (by decide)
    obtain ⟨hb, ⟨h, _⟩ | ⟨p, q, h, he⟩⟩ := h
    · rw [hcut] at h; cases h
    · rw [hcut] at h; cases h; exact ⟨he, hb⟩
  have HC : Hid (∀ W, Below w.heap.size w W → Calls Tryz.prog 134 #[.pointer (some ⟨d, 0, none⟩), .string (fmtPl p)] W (lineQ B d { s with day := { s.day with plan := p } } vH okW W)) := fun W hW => desk_setPlan B d s vH p W (hD.below hW) (Nat.le_trans hB hW.size) hk
  clear hD hk hz
  generalize lnOne planWd (fmtPl p) = line at *
  generalize fmtPl p = F at *
  have q_0 : (planWd.toList == [108, 101, 116, 116, 101, 114, 115]) = false := by rw [ByteArray.toList_eq]; decide
  have q_t : (planWd.toList == [112, 108, 97, 110]) = true := by rw [ByteArray.toList_eq]; decide
  generalize planWd = wd at *
  go_enter Tryz.func68, Tryz.ntmps68
  go_wp2_with fail
  refine HK.out.mono ?_
  rintro e w1 ⟨rfl, b1⟩
  have HB1 := Lib.hid b1; clear b1
  go_wp2_with fail
  refine (HC.out _ HB1.out).mono ?_
  rintro e w2 ⟨rfl, h2⟩
  go_wp2_with fail
  go_ret
  exact lineQ.pre HB1.out ⟨rfl, h2⟩

/-! ### Words -/
set_option maxRecDepth 100000 in
set_option maxHeartbeats 1600000 in
theorem word_sort (B d : Nat) (s : Dsk) (vH : Value) (w : World) (hD : dskAt B w d s vH) (hB : B ≤ w.heap.size) (hT : TabW w) (hl : s.letters.length ≤ 19) (hk : okB s.letters = true) :
    Calls Tryz.prog 131 #[.pointer (some ⟨d, 0, none⟩), .string sortWd] w (lineQ B d { s with letters := sortedL s.letters } vH (fmtB (sortedL s.letters)) w) := by
  have HD := Lib.hid hD
  obtain ⟨vL, _, _, _, _, ⟨c0, _, _, _, _, _, _, _⟩, _, hL, _⟩ := dsk_cells hD
  have HS := Lib.hid (impl_SortBatch vL s.letters w hL.rd hl hk)
  obtain ⟨A0, n0, c0', rfl, -, -, -, -⟩ := hL.rd
  have HTT := Lib.hid hT
  clear hD hT hl hk hL
  have q_0 : (sortWd.toList == [108, 101, 116, 116, 101, 114, 115]) = false := by rw [ByteArray.toList_eq]; decide
  have q_t : (sortWd.toList == [115, 111, 114, 116]) = true := by rw [ByteArray.toList_eq]; decide
  generalize sortWd = wd at *
  go_enter Tryz.func131, Tryz.ntmps131
  go_wp2_with fail
  refine HS.out.mono ?_
  rintro e w1 ⟨v1, rfl, o1, b1⟩
  have HC := Lib.hid (desk_setLetters B d s vH v1 (sortedL s.letters) true w1 (HD.out.below b1) (o1.base_ hB) (HTT.out.on b1))
  have HB1 := Lib.hid b1
  obtain ⟨A, n, c, rfl, -, -, -, -⟩ := o1.rd
  clear o1 b1
  go_wp2_with fail
  refine HC.out.mono ?_
  rintro e w2 h2
  simp only [if_true] at h2
  have H2 := Lib.hid h2
  obtain ⟨rfl, _⟩ := h2
  go_wp2_with fail
  go_ret
  exact lineQ.pre HB1.out H2.out

end Go.Proofs.YtpinkbodbedajaaGreatDoor

namespace Go.Proofs.YtpinkbodbedajaaGreatDoor
open Go.RowKit

set_option maxRecDepth 100000 in
set_option maxHeartbeats 1600000 in
theorem word_moved (B d : Nat) (s : Dsk) (vH : Value) (w : World) (hD : dskAt B w d s vH) (hT : TabW w) (hi : isI64 s.day.plan.bins ∧ isI64 s.day.plan.passes) (hm : isI64 (movedI s.day.plan s.letters)) :
    Calls Tryz.prog 131 #[.pointer (some ⟨d, 0, none⟩), .string movedWd] w (lineQ B d s vH (numT (movedI s.day.plan s.letters)) w) := by
  have HD := Lib.hid hD
  obtain ⟨vL, vO, _, _, _, ⟨c0, c1, c2, c3, _, _, _, _⟩, _, hL, hO, _⟩ := dsk_cells hD
  obtain ⟨AL, nL, cL, rfl, -, -, -, -⟩ := hL.rd
  obtain ⟨AO, nO, cO, rfl, -, -, -, -⟩ := hO.rd
  have hRP : rdP w w.heap.size (.agg #[.int .i64 s.day.plan.bins, .int .i64 s.day.plan.passes, .slice AO nO cO]) s.day.plan := ⟨_, rfl, hi.1, hi.2, hO.rd⟩
  have HM : Hid (∀ W, Below w.heap.size w W → Calls Tryz.prog 39 #[.agg #[.int .i64 s.day.plan.bins, .int .i64 s.day.plan.passes, .slice AO nO cO], .slice AL nL cL] W fun e w' => e = .returned (.int .i64 (movedI s.day.plan s.letters)) ∧ Below W.heap.size W w') := fun W hW => impl_MovedLetters _ _ s.day.plan s.letters W (hRP.on hW) (hL.rd.on hW)
  have HN : Hid (∀ W, Below w.heap.size w W → Calls Tryz.prog 193 #[.int .i64 (movedI s.day.plan s.letters)] W fun e w' => e = .returned (.string (numT (movedI s.day.plan s.letters))) ∧ Below W.heap.size W w') := fun W hW => impl_numberText _ W hm (hT.on hW)
  have q0 := fun W (hW : Below w.heap.size w W) => (hW.cell (p := ⟨d, 0, none⟩) (block_of_cell c0)).trans c0
  have q1 := fun W (hW : Below w.heap.size w W) => (hW.cell (p := ⟨d, 1, none⟩) (block_of_cell c1)).trans c1
  have q2 := fun W (hW : Below w.heap.size w W) => (hW.cell (p := ⟨d, 2, none⟩) (block_of_cell c2)).trans c2
  have q3 := fun W (hW : Below w.heap.size w W) => (hW.cell (p := ⟨d, 3, none⟩) (block_of_cell c3)).trans c3
  have ld := later_drew (Below.refl w.heap.size w)
  clear hD hT hi hm hRP hL hO c0 c1 c2 c3
  generalize movedI s.day.plan s.letters = mv at *
  have q_0 : (movedWd.toList == [108, 101, 116, 116, 101, 114, 115]) = false := by rw [ByteArray.toList_eq]; decide
  have q_1 : (movedWd.toList == [115, 111, 114, 116]) = false := by rw [ByteArray.toList_eq]; decide
  have q_2 : (movedWd.toList == [115, 101, 113, 117, 101, 110, 99, 101]) = false := by rw [ByteArray.toList_eq]; decide
  have q_3 : (movedWd.toList == [115, 101, 97, 108]) = false := by rw [ByteArray.toList_eq]; decide
  have q_4 : (movedWd.toList == [112, 108, 97, 110]) = false := by rw [ByteArray.toList_eq]; decide
  have q_t : (movedWd.toList == [109, 111, 118, 101, 100]) = true := by rw [ByteArray.toList_eq]; decide
  generalize movedWd = wd at *
  go_enter Tryz.func131, Tryz.ntmps131
  go_wp2_with fail
  go_region_held3 (fun W => Below w.heap.size w W) (first | exact ld | exact k2 | exact k1 | fail) (first | (go_at_call 39; first | ((with_reducible refine (HM.out _ (by first | exact ld)).mono ?_); rintro e u1 ⟨rfl, z1⟩; have k1 := later_trans (by first | exact ld) z1) | fail) | (go_at_call 193; first | ((with_reducible refine (HN.out _ (by first | exact k1 | exact ld)).mono ?_); rintro e u2 ⟨rfl, z2⟩; have k2 := later_trans (by first | exact k1 | exact ld) z2) | fail) | fail)
  all_goals
    have K2 := Lib.hid k2
    clear k1 k2 z1 z2 ld
    go_wp2_with fail
    go_ret
    exact lineQ.of_read HD.out rfl K2.out

set_option maxRecDepth 100000 in
set_option maxHeartbeats 1600000 in
theorem word_seal (B d : Nat) (s : Dsk) (vH : Value) (w : World) (hD : dskAt B w d s vH) (hT : TabW w) (h1 : isI64 (orOf (okB s.letters) (sL s.letters))) (h2 : isI64 (orOf (okB s.letters) (osL s.letters)))
    (z1 : (numT (orOf (okB s.letters) (sL s.letters))).size ≤ 100) (z2 : (numT (orOf (okB s.letters) (osL s.letters))).size ≤ 100) :
    Calls Tryz.prog 131 #[.pointer (some ⟨d, 0, none⟩), .string sealWd] w (lineQ B d s vH (numT (orOf (okB s.letters) (sL s.letters)) ++ ⟨#[32]⟩ ++ numT (orOf (okB s.letters) (osL s.letters))) w) := by
  have HD := Lib.hid hD
  obtain ⟨vL, vO, _, _, _, ⟨c0, _, _, _, _, _, _, _⟩, _, hL, hO, _⟩ := dsk_cells hD
  obtain ⟨AL, nL, cL, rfl, -, -, -, -⟩ := hL.rd
  have HS : Hid (∀ W, Below w.heap.size w W → Calls Tryz.prog 40 #[.slice AL nL cL] W fun e w' => e = .returned (.int .i64 (orOf (okB s.letters) (sL s.letters))) ∧ Below W.heap.size W w') := fun W hW => impl_SealOf _ s.letters W (hL.rd.on hW)
  have HO : Hid (∀ W, Below w.heap.size w W → Calls Tryz.prog 41 #[.slice AL nL cL] W fun e w' => e = .returned (.int .i64 (orOf (okB s.letters) (osL s.letters))) ∧ Below W.heap.size W w') := fun W hW => impl_OrderSeal _ s.letters W (hL.rd.on hW)
  have HN1 : Hid (∀ W, Below w.heap.size w W → Calls Tryz.prog 193 #[.int .i64 (orOf (okB s.letters) (sL s.letters))] W fun e w' => e = .returned (.string (numT (orOf (okB s.letters) (sL s.letters)))) ∧ Below W.heap.size W w') := fun W hW => impl_numberText _ W h1 (hT.on hW)
  have HN2 : Hid (∀ W, Below w.heap.size w W → Calls Tryz.prog 193 #[.int .i64 (orOf (okB s.letters) (osL s.letters))] W fun e w' => e = .returned (.string (numT (orOf (okB s.letters) (osL s.letters)))) ∧ Below W.heap.size W w') := fun W hW => impl_numberText _ W h2 (hT.on hW)
  have q0 := fun W (hW : Below w.heap.size w W) => (hW.cell (p := ⟨d, 0, none⟩) (block_of_cell c0)).trans c0
  have ld := later_drew (Below.refl w.heap.size w)
  clear hD hT h1 h2 hL hO c0
  generalize numT (orOf (okB s.letters) (sL s.letters)) = T1 at *
  generalize numT (orOf (okB s.letters) (osL s.letters)) = T2 at *
  generalize orOf (okB s.letters) (sL s.letters) = n1 at *
  generalize orOf (okB s.letters) (osL s.letters) = n2 at *
  have a1 : ¬ 9223372036854775807 < T1.size + 1 := by omega
  have a2 : ¬ 9223372036854775807 < T1.size + 1 + T2.size := by omega
  have q_0 : (sealWd.toList == [108, 101, 116, 116, 101, 114, 115]) = false := by rw [ByteArray.toList_eq]; decide
  have q_1 : (sealWd.toList == [115, 111, 114, 116]) = false := by rw [ByteArray.toList_eq]; decide
  have q_2 : (sealWd.toList == [115, 101, 113, 117, 101, 110, 99, 101]) = false := by rw [ByteArray.toList_eq]; decide
  have q_t : (sealWd.toList == [115, 101, 97, 108]) = true := by rw [ByteArray.toList_eq]; decide
  generalize sealWd = wd at *
  go_enter Tryz.func131, Tryz.ntmps131
  go_wp2_with fail
  go_region_held3 (fun W => Below w.heap.size w W) (first | exact ld | exact k4 | exact k3 | exact k2 | exact k1 | fail) (first | (go_at_call 40; first | ((with_reducible refine (HS.out _ (by first | exact ld)).mono ?_); rintro e u1 ⟨rfl, z1⟩; have k1 := later_trans (by first | exact ld) z1) | fail) | (go_at_call 193; first | ((with_reducible refine (HN1.out _ (by first | exact k1 | exact ld)).mono ?_); rintro e u2 ⟨rfl, z2⟩; have k2 := later_trans (by first | exact k1 | exact ld) z2) | ((with_reducible refine (HN2.out _ (by first | exact k3 | exact k2 | exact k1 | exact ld)).mono ?_); rintro e u4 ⟨rfl, z4⟩; have k4 := later_trans (by first | exact k3 | exact k2 | exact k1 | exact ld) z4) | fail) | (go_at_call 41; first | ((with_reducible refine (HO.out _ (by first | exact k2 | exact k1 | exact ld)).mono ?_); rintro e u3 ⟨rfl, z3⟩; have k3 := later_trans (by first | exact k2 | exact k1 | exact ld) z3) | fail) | fail)
  all_goals
    have K4 := Lib.hid k4
    clear k1 k2 k3 k4 ld
    go_wp2_with fail
    go_ret
    exact lineQ.of_read HD.out rfl K4.out

set_option maxRecDepth 100000 in
set_option maxHeartbeats 1600000 in
theorem desk_sequence (B d : Nat) (s : Dsk) (vH : Value) (w : World) (hD : dskAt B w d s vH) (hB : B ≤ w.heap.size) (hT : TabW w) (hi : isI64 s.day.plan.bins ∧ isI64 s.day.plan.passes) (hr : rpOk s.day.plan s.letters = true) :
    Calls Tryz.prog 192 #[.pointer (some ⟨d, 0, none⟩)] w (lineQ B d { s with letters := rpRound s.day.plan s.letters } vH (fmtB (rpRound s.day.plan s.letters) ++ ⟨#[47]⟩ ++ fmtB (rpRest s.day.plan s.letters)) w) := by
  have HD := Lib.hid hD
  obtain ⟨vL, vO, _, _, _, ⟨c0, c1, c2, c3, _, _, _, _⟩, _, hL, hO, _⟩ := dsk_cells hD
  obtain ⟨AL, nL, cL, rfl, -, -, -, -⟩ := hL.rd
  obtain ⟨AO, nO, cO, rfl, -, -, -, -⟩ := hO.rd
  have hRP : rdP w w.heap.size (.agg #[.int .i64 s.day.plan.bins, .int .i64 s.day.plan.passes, .slice AO nO cO]) s.day.plan := ⟨_, rfl, hi.1, hi.2, hO.rd⟩
  have HR : Hid (∀ W, Below w.heap.size w W → Calls Tryz.prog 34 #[.agg #[.int .i64 s.day.plan.bins, .int .i64 s.day.plan.passes, .slice AO nO cO], .slice AL nL cL] W fun e w' => ∃ vR vS, e = .returned (.tuple #[vR, vS, .bool true]) ∧ own 89 W.heap.size w' vR (rpRound s.day.plan s.letters) ∧ own 89 W.heap.size w' vS (rpRest s.day.plan s.letters) ∧ Below W.heap.size W w') := fun W hW => by
    have h := impl_RunPlan _ _ s.day.plan s.letters W (hRP.on hW) (hL.rd.on hW)
    rw [hr] at h
    exact h.mono fun e w' ⟨a, b, x1, x2, x3, _, x5⟩ => ⟨a, b, x1, x2, x3, x5⟩
  have HTT := Lib.hid hT
  have q0 := fun W (hW : Below w.heap.size w W) => (hW.cell (p := ⟨d, 0, none⟩) (block_of_cell c0)).trans c0
  have q1 := fun W (hW : Below w.heap.size w W) => (hW.cell (p := ⟨d, 1, none⟩) (block_of_cell c1)).trans c1
  have q2 := fun W (hW : Below w.heap.size w W) => (hW.cell (p := ⟨d, 2, none⟩) (block_of_cell c2)).trans c2
  have q3 := fun W (hW : Below w.heap.size w W) => (hW.cell (p := ⟨d, 3, none⟩) (block_of_cell c3)).trans c3
  have ld := later_drew (Below.refl w.heap.size w)
  clear hD hT hi hr hRP hL hO c0 c1 c2 c3
  have z1 := fmtB_size (rpRound s.day.plan s.letters)
  have z2 := fmtB_size (rpRest s.day.plan s.letters)
  generalize rpRound s.day.plan s.letters = R at *
  generalize rpRest s.day.plan s.letters = S at *
  have HFR : Hid (∀ (v : Value) (W : World), rd W W.heap.size v R → TabW W → Calls Tryz.prog 12 #[v] W fun e w' => e = .returned (.string (fmtB R)) ∧ Below W.heap.size W w') := fun v W h1 h2 => impl_FormatBatch v R W h1 h2
  have HFS : Hid (∀ (v : Value) (W : World), rd W W.heap.size v S → TabW W → Calls Tryz.prog 12 #[v] W fun e w' => e = .returned (.string (fmtB S)) ∧ Below W.heap.size W w') := fun v W h1 h2 => impl_FormatBatch v S W h1 h2
  generalize fmtB R = F1 at *
  generalize fmtB S = F2 at *
  have a1 : ¬ 9223372036854775807 < F1.size + 1 := by omega
  have a2 : ¬ 9223372036854775807 < F1.size + 1 + F2.size := by omega
  go_enter Tryz.func192, Tryz.ntmps192
  go_wp2_with fail
  go_region_held3 (fun W => Below w.heap.size w W) (first | exact ld | exact k1 | fail) (first | (go_at_call 34; first | ((with_reducible refine (HR.out _ ld).mono ?_); rintro e u1 ⟨vR, vS, rfl, o1, o2, z3⟩; have k1 := later_trans ld z3; obtain ⟨AR, nR, cR, rfl, -, -, -, -⟩ := o1.rd; obtain ⟨AS, nS, cS, rfl, -, -, -, -⟩ := o2.rd; have O1 := Lib.hid o1; have O2 := Lib.hid o2; clear o1 o2) | fail) | fail)
  all_goals
    have K1 := Lib.hid k1
    have HD1 := Lib.hid (HD.out.below K1.out)
    have HO1 := Lib.hid (O1.out.base_ (show B ≤ _ from hB))
    have HO2 := Lib.hid (O2.out.base_ (show B ≤ _ from hB))
    have HT1 := Lib.hid ((HTT.out.on K1.out).setD HD1.out 0 (.slice AR nR cR))
    obtain ⟨_, _, _, _, _, ⟨c0, _, _, _, _, _, _, _⟩, hf, _⟩ := dsk_cells HD1.out
    have f0 := hf 0
    have P1 := Lib.hid (own_d (u := .slice AR nR cR) HO1.out HD1.out.obj (by decide) 0)
    have P2 := Lib.hid (own_d (u := .slice AR nR cR) HO2.out HD1.out.obj (by decide) 0)
    clear k1 z3 ld hf O1 O2
    go_wp2_with fail
    refine (HFR.out _ _ P1.out.rd HT1.out).mono ?_
    rintro e w2 ⟨rfl, b2⟩
    have B2 := Lib.hid b2; clear b2
    go_wp2_with fail
    refine (HFS.out _ _ (P2.out.below B2.out).rd (HT1.out.on B2.out)).mono ?_
    rintro e w3 ⟨rfl, b3⟩
    have B3 := Lib.hid (later_trans B2.out b3); clear b3
    go_wp2_with fail
    go_ret
    exact lineQ.post ⟨rfl, vH, HD1.out.setLetters HO1.out, (Kd.of_below K1.out).set 0 _, heldN.refl _ _⟩ B3.out

set_option maxRecDepth 100000 in
set_option maxHeartbeats 1600000 in
theorem word_sequence (B d : Nat) (s' : Dsk) (vH : Value) (a : ByteArray) (w : World) (HC : Calls Tryz.prog 192 #[.pointer (some ⟨d, 0, none⟩)] w (lineQ B d s' vH a w)) :
    Calls Tryz.prog 131 #[.pointer (some ⟨d, 0, none⟩), .string sequenceWd] w (lineQ B d s' vH a w) := by
  have HCC := Lib.hid HC; clear HC
  have q_0 : (sequenceWd.toList == [108, 101, 116, 116, 101, 114, 115]) = false := by rw [ByteArray.toList_eq]; decide
  have q_1 : (sequenceWd.toList == [115, 111, 114, 116]) = false := by rw [ByteArray.toList_eq]; decide
  have q_t : (sequenceWd.toList == [115, 101, 113, 117, 101, 110, 99, 101]) = true := by rw [ByteArray.toList_eq]; decide
  generalize sequenceWd = wd at *
  go_enter Tryz.func131, Tryz.ntmps131
  go_wp2_with fail
  refine HCC.out.mono ?_
  rintro e w1 ⟨rfl, h1⟩
  go_wp2_with fail
  go_ret
  exact ⟨rfl, h1⟩

set_option maxRecDepth 100000 in
set_option maxHeartbeats 1600000 in
theorem one_pass (B d : Nat) (s : Dsk) (vH : Value) (f : ByteArray) (w : World) (hD : dskAt B w d s vH) (hB : B ≤ w.heap.size) (hT : TabW w) (hz : f.size ≤ maxLen) :
    Calls Tryz.prog 137 #[.pointer (some ⟨d, 0, none⟩), .string passWd, .string f] w (lineQ B d (if bpOk s.letters (fieldN f) then { s with letters := spL s.letters (fieldN f) } else s) vH (if bpOk s.letters (fieldN f) then fmtB (spL s.letters (fieldN f)) else ⟨#[]⟩) w) := by
  have HD := Lib.hid hD
  obtain ⟨vL, vO, _, _, _, ⟨c0, _, _, _, _, _, _, _⟩, _, hL, hO, _⟩ := dsk_cells hD
  obtain ⟨AL, nL, cL, rfl, -, -, -, -⟩ := hL.rd
  have HN := Lib.hid (fun W => impl_fieldNumber f W hz)
  obtain ⟨dg, hdg⟩ : ∃ dg, fieldN f = dg := ⟨_, rfl⟩
  rw [hdg] at HN ⊢
  clear hdg hz
  have HS : Hid (∀ W, Below w.heap.size w W → Calls Tryz.prog 38 #[.slice AL nL cL, .int .i64 dg] W fun e w' => ∃ v', e = .returned (.tuple #[v', .bool (bpOk s.letters dg)]) ∧ own 89 W.heap.size w' v' (spL s.letters dg) ∧ Below W.heap.size W w') := fun W hW => impl_SortPass _ s.letters dg W (hL.rd.on hW)
  have HC : Hid (∀ (v : Value) (W : World), Below w.heap.size w W → own 89 B W v (spL s.letters dg) → Calls Tryz.prog 132 #[.pointer (some ⟨d, 0, none⟩), v, .bool (bpOk s.letters dg)] W (lineQ B d (if bpOk s.letters dg then { s with letters := spL s.letters dg } else s) vH (if bpOk s.letters dg then fmtB (spL s.letters dg) else ⟨#[]⟩) W)) := fun v W hW ho => desk_setLetters B d s vH v _ _ W (hD.below hW) ho (hT.on hW)
  have ld := later_drew (Below.refl w.heap.size w)
  have cd : w.drew.cell? ⟨d, 0, none⟩ = some (.slice AL nL cL) := c0
  clear hD hT hL hO
  generalize (if bpOk s.letters dg then ({ s with letters := spL s.letters dg } : Dsk) else s) = s' at *
  generalize (if bpOk s.letters dg then fmtB (spL s.letters dg) else (⟨#[]⟩ : ByteArray)) = a at *
  generalize bpOk s.letters dg = ok at *
  generalize spL s.letters dg = L at *
  have q_t : (passWd.toList == [112, 97, 115, 115]) = true := by rw [ByteArray.toList_eq]; decide
  generalize passWd = wd at *
  go_enter Tryz.func137, Tryz.ntmps137
  go_wp2_with fail
  go_region_law (first | (go_simp; go_at_call 201; (with_reducible refine (HN.out _).mono ?_); rintro e _ ⟨rfl, rfl⟩) | (go_simp; go_at_call 38; (with_reducible refine (HS.out _ ld).mono ?_); rintro e u1 ⟨v1, rfl, o1, z1⟩; have k1 := later_trans ld z1; have HO1 := Lib.hid (o1.base_ (show B ≤ _ from hB)); obtain ⟨A1, n1, c1, rfl, -, -, -, -⟩ := o1.rd; clear o1) | (go_simp; go_at_call 132; (with_reducible refine (HC.out _ _ k1 HO1.out).mono ?_); rintro e u2 h2; have H2 := Lib.hid (lineQ.pre k1 h2); obtain ⟨rfl, _⟩ := h2))
  all_goals
    clear k1 ld z1
    go_wp2_with fail
    go_ret
    exact H2.out

end Go.Proofs.YtpinkbodbedajaaGreatDoor

namespace Go.Proofs.YtpinkbodbedajaaGreatDoor
open Go.RowKit


/-- Behind the drawing of a missort: it lies in a block B of its own. -/
structure mid7 (g q b : Nat) (w0 : World) (v : Value) (ms : List Mis) (i z : Int) (B : Nat) (W : World) : Prop where
  hB : w0.heap.size ≤ B
  hrow : W.heap[B]? = some (.cells #[.int .i64 i, .int .i64 z] 225 (0, 0))
  hr : rdr W g q
  hk : kept2 g w0.heap.size w0 W
  ho : own 225 b W v ms

end Go.Proofs.YtpinkbodbedajaaGreatDoor

namespace Go.Proofs.YtpinkbodbedajaaGreatDoor
open Go.RowKit

theorem planBlk_own {T base : Nat} {w : World} {v : Value} {x : Pln} (h : ownP T base w v x) : ∀ k, planBlk v k → base ≤ k ∧ k < w.heap.size := by
  rintro k ⟨a, b, vo, rfl, hk⟩
  obtain ⟨vo', e, _, _, ho⟩ := h
  injection e with e
  injection e with e
  simp only [List.cons.injEq, and_true] at e
  rw [e.2.2] at hk
  exact ho.blk k hk
theorem ownP.keepBlk {T base : Nat} {w w' : World} {v : Value} {x : Pln} (h : ownP T base w v x) (hk : ∀ k, planBlk v k → w'.heap[k]? = w.heap[k]?) : ownP T base w' v x := by
  obtain ⟨vo, rfl, h2, h3, h4⟩ := h
  exact ⟨vo, rfl, h2, h3, h4.keepBlk fun k hk' => hk k ⟨_, _, _, rfl, hk'⟩⟩


end Go.Proofs.YtpinkbodbedajaaGreatDoor

namespace Go.Proofs.YtpinkbodbedajaaGreatDoor
open Go.RowKit

theorem ownP.rdp {T base : Nat} {w : World} {v : Value} {p : Pln} (h : ownP T base w v p) : rdP w w.heap.size v p := by
  obtain ⟨vo, h1, h2, h3, h4⟩ := h
  exact ⟨vo, h1, h2, h3, h4.rd⟩
theorem movedI_ok {p : Pln} {xs : List Ltr} (h : rpOk p xs = true) : movedI p xs = (xs.length : Int) - keptN p xs := by
  have e : keptI p xs = keptN p xs := by unfold keptI; rw [if_pos (by exact h)]
  unfold movedI
  rw [e, if_neg (by omega)]
theorem moved_ord {p : Pln} {xs : List Ltr} (h : rpOk p xs = true) (ho : inOrd p xs) : movedI p xs = 0 := by
  rw [movedI_ok h, keptN_full.2 ho]; omega
end Go.Proofs.YtpinkbodbedajaaGreatDoor

namespace Go.Proofs.YtpinkbodbedajaaGreatDoor
open Go.RowKit

set_option maxRecDepth 100000 in
set_option maxHeartbeats 1000000 in
theorem rd_l2BadC (g p b0 : Nat) (v : Value) (xs : List Ltr) (w : World) (hr : rdr w g p) (hp : p ≤ 100000000000) (hv : own 89 b0 w v xs) (hb0 : g < b0) (hx1 : xs.length ≤ 14) (hx2 : ∀ x ∈ xs, x.code.size = 7) :
    Calls Tryz.prog 45 #[.pointer (some ⟨g, 0, none⟩), v] w fun e w' => ∃ (v' : Value) (ys : List Ltr) (p' : Nat), e = .returned v' ∧ own 89 b0 w' v' ys ∧ (ys.length ≤ 14 ∨ ys.length = 61) ∧ rdr w' g p' ∧ p' ≤ p + 5 ∧ kept2 g b0 w w' ∧ keptS (fun k => k = g ∨ v.ownBlock = some k) w w' := by
  have hlt := hr.lt
  obtain ⟨i0, hi, hz0, hz1, hz2⟩ := info_parts Tryz.infoLtr
  rcases hv.form with ⟨rfl, rfl⟩ | ⟨gg, c, rfl, hg, hgl, hc, hm⟩
  · go_enter Tryz.func45, Tryz.ntmps45
    go_wp2
    go_ret
    exact ⟨_, [], p, rfl, hv, .inl (by simp), hr, by omega, kept2.refl _ _ _, keptS.refl _ _⟩
  · by_cases h0 : xs.length = 0
    · have hl0 : ((xs.length : Int) == 0) = true := by rw [h0]; rfl
      clear h0
      go_enter Tryz.func45, Tryz.ntmps45
      go_wp2
      go_ret
      exact ⟨_, xs, p, rfl, hv, .inl (by omega), hr, by omega, kept2.refl _ _ _, keptS.refl _ _⟩
    have hl0 : ((xs.length : Int) == 0) = false := beq_eq_false_iff_ne.2 (by omega)
    have hpos : 0 < xs.length := by omega
    unfold maxLen at hm
    go_enter Tryz.func45, Tryz.ntmps45
    go_wp2_with fail
    refine (rd_pick g p xs.length _ hr (by omega) ⟨by omega, by omega⟩).mono ?_
    rintro e w1 ⟨x, rfl, hx, hr1, hg1⟩
    obtain ⟨y0, y1⟩ := hx.2 (by omega)
    obtain ⟨k, rfl⟩ := Int.eq_ofNat_of_zero_le y0
    have ho1 := hv.grown hg1 (own_ne hv hb0)
    clear hx
    go_wp2_with fail
    refine (rd_pick g (p + 1) 40 _ hr1 (by omega) (by unfold isI64; omega)).mono ?_
    rintro e w2 ⟨x, rfl, hx, hr2, hg2⟩
    have ho2 := ho1.grown hg2 (own_ne ho1 hb0)
    replace hg2 := grown_trans hg1 hg2
    clear hx hg1
    have hbw : b0 ≤ w.heap.size := by omega
    have hzw := hg2.size
    have hB2 : kept2 g b0 w w2 := kept2.grown hg2 hbw
    have hz2' := hr2.lt
    have HS2 : keptS (fun k => k = g ∨ (Value.slice (some ⟨gg, 0, none⟩) xs.length c).ownBlock = some k) w w2 := (keptS.refl _ _).next hg2 fun r e => .inl (.inl (by injection e with e; exact e.symm))
    by_cases c0 : x = 0
    · have d0 : (x == 0) = true := by simp [c0]
      clear c0
      obtain ⟨⟨hi1, hi2⟩, c1, c2⟩ := own_ltr ho2 k (by omega)
      have hcs := hx2 xs[k] (List.getElem_mem _)
      have hcs' : xs[k].code.size ≤ 7 := by omega
      have HCS := Lib.hid hcs; clear hcs
      generalize hxk : xs[k] = z at *
      have HXK := Lib.hid hxk; clear hxk
      go_wp2_with fail
      refine (rd_l1Bad g (p + 1 + 1) _ _ hr2 (by omega) (by rw [ByteArray.size_append]; show 1 ≤ _ + 1; omega) (by rw [ByteArray.size_append]; show _ + 1 ≤ _; omega)).mono ?_
      rintro e w3 ⟨t, rfl, ht, hr3, hg3⟩
      have ht' : t.size ≤ maxLen := by
        rw [ByteArray.size_append] at ht
        have : t.size ≤ z.code.size + 1 + 1 := ht
        unfold maxLen; omega
      have ho3 := ho2.grown hg3 (own_ne ho2 hb0)
      obtain ⟨u1, g1⟩ := ho3.cellAt (j := k * 2 + 1) (by show _ < _ * 2; omega)
      have f1 := ho3.freeAt (k * 2 + 1)
      have HO := Lib.hid (ho3.setCell (k := k) (j := 1) (by omega) (by decide) (.string t) ⟨z.id, t⟩ (fun ecs he => by
        obtain ⟨_, rfl⟩ := he
        refine ⟨⟨hi1, ht'⟩, ?_⟩
        rw [HXK.out]
        rfl))
      have HR : Hid (rdr (w3.setCell ⟨gg, k * 2 + 1, none⟩ (.string t)) g (p + 1 + 1 + 1)) := hr3.grown (g' := gg) (grown_setCell (World.grownBy.refl _ _) (.inl rfl) _) (Nat.lt_of_lt_of_le hb0 hg)
      have HB : Hid (kept2 g b0 w (w3.setCell ⟨gg, k * 2 + 1, none⟩ (.string t))) := (hB2.trans (kept2.grown hg3 (by omega))).trans (kept2.below ((Below.refl _ _).setCell (p := ⟨gg, k * 2 + 1, none⟩) hg _))
      have HS3 := (HS2.next hg3 fun r e => .inl (.inl (by injection e with e; exact e.symm))).set ⟨gg, k * 2 + 1, none⟩ (.inl (.inr rfl)) (.string t)
      clear ho3 ht HS2
      go_wp2_with fail
      go_ret
      exact ⟨_, _, _, rfl, HO.out, .inl (by simp; omega), HR.out, by omega, HB.out, HS3⟩
    have d0 : (x == 0) = false := by simp [c0]
    by_cases c1 : x = 1
    · have d1 : (x == 1) = true := by simp [c1]
      clear c1 c0
      obtain ⟨⟨hi1, hi2⟩, c1, _⟩ := own_ltr ho2 0 hpos
      rw [Nat.zero_mul] at c1
      generalize xs[0].id = i at *
      go_wp2_with fail
      have hB3 := hB2
      refine (rd_num 3 g (p + 1 + 1) _ [0, 10000, 9999, -1, i] _ (hr2.alloc _) (by omega) (list_own 3 (g + 1) w2 [0, 10000, 9999, -1, i] (by
        intro y hy
        simp at hy
        rcases hy with rfl | rfl | rfl | rfl | rfl
        · simp [isI64]
        · simp [isI64]
        · simp [isI64]
        · simp [isI64]
        · exact hi1) (by show 5 ≤ maxLen; decide) (by omega)) (by show 0 < 5; decide)).mono ?_
      rintro e w3 ⟨y, hy, rfl, hr3, hg3⟩
      have hyi : isI64 y := by
        simp at hy
        rcases hy with rfl | rfl | rfl | rfl | rfl
        · simp [isI64]
        · simp [isI64]
        · simp [isI64]
        · simp [isI64]
        · exact hi1
      clear hy
      have ho2' := ho2.alloc (Obj.cells ([0, 10000, 9999, -1, i].map (Value.int IntKind.i64)).toArray 3)
      have ho3 := ho2'.grown hg3 (own_ne ho2' hb0)
      obtain ⟨u1, g1⟩ := ho3.cellAt (j := k * 2) (by show _ < _ * 2; omega)
      have f1 := ho3.freeAt (k * 2)
      have HO := Lib.hid (ho3.setCell (k := k) (j := 0) (by omega) (by decide) (.int .i64 y) ⟨y, xs[k].code⟩ (fun ecs he => by
        obtain ⟨⟨_, hh⟩, rfl⟩ := he
        exact ⟨⟨hyi, hh⟩, rfl⟩))
      have HR : Hid (rdr (w3.setCell ⟨gg, k * 2, none⟩ (.int .i64 y)) g (p + 1 + 1 + 1)) := hr3.grown (g' := gg) (grown_setCell (World.grownBy.refl _ _) (.inl rfl) _) (Nat.lt_of_lt_of_le hb0 hg)
      have HB : Hid (kept2 g b0 w (w3.setCell ⟨gg, k * 2, none⟩ (.int .i64 y))) := ((hB2.trans (kept2.below ((Below.refl _ _).alloc (by omega) _))).trans (kept2.grown hg3 (by simp; omega))).trans (kept2.below ((Below.refl _ _).setCell (p := ⟨gg, k * 2, none⟩) hg _))
      have HS3 := ((HS2.alloc _).next hg3 fun r e => .inl (.inl (by injection e with e; exact e.symm))).set ⟨gg, k * 2, none⟩ (.inl (.inr rfl)) (.int .i64 y)
      clear ho3 ho2' hg3 HS2
      go_wp2_with fail
      go_ret
      exact ⟨_, _, _, rfl, HO.out, .inl (by simp; omega), HR.out, by omega, HB.out, HS3⟩
    have d1 : (x == 1) = false := by simp [c1]
    by_cases c2 : x = 2
    · have d2 : (x == 2) = true := by simp [c2]
      clear c2 c1 c0
      go_wp2_with fail
      have HO2 := Lib.hid ho2; clear ho2
      go_loopw [1] (fun t wr => ∃ (ys : List Ltr), own 89 b0 wr t ys ∧ ys.length ≤ 61 ∧ rdr wr g (p + 1 + 1) ∧ kept2 g b0 w wr ∧ keptS (fun k => k = g ∨ (Value.slice (some ⟨gg, 0, none⟩) xs.length c).ownBlock = some k) w wr ∧ Hid (∀ r, t.ownBlock = some r → r = gg ∨ w.heap.size ≤ r)) (fun t wr => match t with | .slice _ n _ => 61 - n | _ => 0)
      case atStart => exact ⟨xs, HO2.out, by omega, hr2, hB2, HS2, fun r e => .inl (by injection e with e; exact e.symm)⟩
      case round =>
        obtain ⟨ys, ho, hy, hrr, hB, hS, HT⟩ := hrel
        obtain ⟨w3, rfl⟩ : ∃ w3 : World, w3 = wr := ⟨_, rfl⟩
        clear hr2 hB2 HS2
        obtain ⟨A, m, c', hv', hm', _, _, _⟩ := ho.rd
        subst hm' hv'
        have hlt3 := hrr.lt
        by_cases h61 : ys.length < 61
        · have hb3 : b0 ≤ w3.heap.size := by have := hB.size; omega
          go_wp2_with (at_builtin; refine wpList_append1 (α := Ltr) rfl (.tmp 48) (.tmp 53) _ rfl b0 89 i0 _ 24 Tryz.underlying29 hi hz0 hz1 hz2 rfl (by decide) (.slice A ys.length c') ys ⟨1000 + ys.length, ⟨#[49, 50, 48, 48, 49, 48, 49]⟩⟩ rfl (ho.alloc _) ⟨w3.heap.size, 0, none⟩ 1 (Ltr.cells ⟨1000 + ys.length, ⟨#[49, 50, 48, 48, 49, 48, 49]⟩⟩) rfl ⟨⟨⟨by show _ ≤ 1000 + (ys.length : Int); omega, by show 1000 + (ys.length : Int) ≤ _; omega⟩, by show 7 ≤ maxLen; decide⟩, rfl⟩ (news_at w3 _ (Ltr.cells ⟨1000 + ys.length, ⟨#[49, 50, 48, 48, 49, 48, 49]⟩⟩)) (by unfold maxLen; omega) (by omega) (by simp; omega) ?_; intro v' w4 ho4 hg4 ha4)
          have hr4 : rdr w4 g (p + 1 + 1) := (hrr.alloc _).append (ho.alloc _) hg4 hb0
          have hB4 : kept2 g b0 w w4 := (hB.trans (kept2.below ((Below.refl _ _).alloc hb3 _))).trans (kept2.below (below_append (ho.alloc _) hg4 (by simp; omega)))
          have hS4 := (hS.alloc (Obj.cells (Ltr.cells ⟨1000 + ys.length, ⟨#[49, 50, 48, 48, 49, 48, 49]⟩⟩).toArray 89)).next hg4 fun r e => by
            rcases HT.out r e with h | h
            · exact .inl (.inr (by rw [h]; rfl))
            · exact .inr h
          have HT4 : Hid (∀ r, v'.ownBlock = some r → r = gg ∨ w.heap.size ≤ r) := fun r e => by
            rcases ha4 with h | h
            · exact HT.out r (h.symm.trans e)
            · right
              rw [h] at e
              injection e with e
              have hzz := hB.size
              simp at e
              omega
          clear hg4 ha4
          obtain ⟨A4, m4, c4, hv4, hm4, _, _, _⟩ := ho4.rd
          subst hm4 hv4
          go_wp2_with fail
          go_roundw
          case rel => exact ⟨_, ho4, by simp; omega, hr4, hB4, hS4, HT4⟩
          case measure => simp; omega
        · go_wp2_with fail
          go_ret
          exact ⟨_, ys, _, rfl, ho, .inr (by omega), hrr, by omega, hB, hS⟩
    have d2 : (x == 2) = false := by simp [c2]
    clear c0 c1 c2
    go_wp2_with fail
    go_ret
    exact ⟨_, xs, _, rfl, ho2, .inl (by omega), hr2, by omega, hB2, HS2⟩

def draw3PostC (T1 T2 : Nat) (w : World) (e : Ending) (w' : World) : Prop :=
  ∃ (v vb : Value) (x : Pln) (xs : List Ltr) (k : Int), e = .returned (.tuple #[v, vb, .int .i64 k]) ∧ ownP T1 w.heap.size w' v x ∧ own T2 w.heap.size w' vb xs ∧ isI64 k ∧ (xs.length ≤ 14 ∨ xs.length = 61) ∧ x.order.length ≤ 101 ∧ Below w.heap.size w w'
theorem draw3PostC_of {T T1 T2 h B : _} {u0 u1 u2 : Value} {w W : World} {v vb a b d : Value} {x : Pln} {xs : List Ltr} {k : Int} (hh : w.heap.size ≤ h) (hbase : h < B) (hv : ownP T1 B W v x) (hvb : own T2 B W vb xs)
    (hk : isI64 k) (h1 : (xs.length ≤ 14 ∨ xs.length = 61)) (h3 : x.order.length ≤ 101) (hG : Below w.heap.size w W) (he : v = .agg #[a, b, d]) (_ : W.heap[h]? = some (.cells #[u0, u1, u2] T (0, 0))) :
    draw3PostC T1 T2 w (.returned (.tuple #[.agg #[a, b, d], vb, .int .i64 k])) (((W.setCell ⟨h, 0, none⟩ a).setCell ⟨h, 1, none⟩ b).setCell ⟨h, 2, none⟩ d) := by
  have HG := grown_setCell (p := ⟨h, 2, none⟩) (grown_setCell (p := ⟨h, 1, none⟩) (grown_setCell (p := ⟨h, 0, none⟩) (World.grownBy.refl W (some h)) (.inl rfl) a) (.inl rfl) b) (.inl rfl) d
  have HS := ((hG.setCell (p := ⟨h, 0, none⟩) hh a).setCell (p := ⟨h, 1, none⟩) hh b).setCell (p := ⟨h, 2, none⟩) hh d
  rw [← he]
  exact ⟨v, vb, x, xs, k, rfl, (hv.grown HG (fun r e => by injection e with e; omega)).base_ (by omega), (hvb.grown HG (own_ne hvb hbase)).base_ (by omega), hk, h1, h3, HS⟩
/-- Drawn: a plan, letters. -/
def draw2BPostC (T1 T2 : Nat) (w : World) (e : Ending) (w' : World) : Prop :=
  ∃ (v vb : Value) (x : Pln) (xs : List Ltr), e = .returned (.tuple #[v, vb]) ∧ ownP T1 w.heap.size w' v x ∧ own T2 w.heap.size w' vb xs ∧ (xs.length ≤ 14 ∨ xs.length = 61) ∧ x.order.length ≤ 101 ∧ Below w.heap.size w w'
theorem draw2BPostC_of {T T1 T2 h B : _} {u0 u1 u2 : Value} {w W : World} {v vb a b d : Value} {x : Pln} {xs : List Ltr} (hh : w.heap.size ≤ h) (hbase : h < B) (hv : ownP T1 B W v x) (hvb : own T2 B W vb xs)
    (h1 : (xs.length ≤ 14 ∨ xs.length = 61)) (h3 : x.order.length ≤ 101) (hG : Below w.heap.size w W) (he : v = .agg #[a, b, d]) (_ : W.heap[h]? = some (.cells #[u0, u1, u2] T (0, 0))) :
    draw2BPostC T1 T2 w (.returned (.tuple #[.agg #[a, b, d], vb])) (((W.setCell ⟨h, 0, none⟩ a).setCell ⟨h, 1, none⟩ b).setCell ⟨h, 2, none⟩ d) := by
  have HG := grown_setCell (p := ⟨h, 2, none⟩) (grown_setCell (p := ⟨h, 1, none⟩) (grown_setCell (p := ⟨h, 0, none⟩) (World.grownBy.refl W (some h)) (.inl rfl) a) (.inl rfl) b) (.inl rfl) d
  have HS := ((hG.setCell (p := ⟨h, 0, none⟩) hh a).setCell (p := ⟨h, 1, none⟩) hh b).setCell (p := ⟨h, 2, none⟩) hh d
  rw [← he]
  exact ⟨v, vb, x, xs, rfl, (hv.grown HG (fun r e => by injection e with e; omega)).base_ (by omega), (hvb.grown HG (own_ne hvb hbase)).base_ (by omega), h1, h3, HS⟩

set_option maxRecDepth 100000 in
set_option maxHeartbeats 1000000 in
theorem draw_DrawPlanPassC (v : Value) (bs : List UInt8) (w : World) (hv : rd w w.heap.size v bs) :
    Calls Tryz.prog 92 #[v] w (draw3PostC 9 89 w) := by
  obtain ⟨w00, hw00⟩ : ∃ u, u = w.alloc (Obj.cells #[.int .i64 0, .int .i64 0, .slice none 0 0] 25) := ⟨_, rfl⟩
  have hB00 : Below w.heap.size w w00 := by rw [hw00]; exact (Below.refl _ _).alloc (Nat.le_refl _) _
  have hz00 : w00.heap.size = w.heap.size + 1 := by rw [hw00]; simp
  have hb00 : w00.heap[w.heap.size]? = some (.cells #[.int .i64 0, .int .i64 0, .slice none 0 0] 25 (0, 0)) := by rw [hw00]; exact heap_alloc_new w _
  have hvA := hv.on hB00
  have HW00 := Lib.hid hw00; clear hw00
  go_enter Tryz.func92, Tryz.ntmps92
  go_wp2_with fail
  rw [← HW00.out]
  refine (rd_open _ bs _ hvA).mono ?_
  rintro e wA ⟨g, rfl, hg, hrA, b1⟩
  have hlt := hrA.lt
  have hbA := (b1.block w.heap.size (by omega)).trans hb00
  have hBA : Below w.heap.size w wA := hB00.trans (b1.mono (by omega))
  have hzA := b1.size
  obtain ⟨p, hp0⟩ : ∃ p : Nat, p = 0 := ⟨_, rfl⟩
  rw [← hp0] at hrA
  have hp : p ≤ 1000000000 := by omega
  have hwg : w.heap.size < g := by omega
  clear hvA hv hB00 b1 hb00
  go_wp2_with fail
  refine (rd_l3Some g p _ hrA (by omega)).mono ?_
  rintro e w1 ⟨v, x, p1, rfl, ov, hd, hr1, hp1, hg1⟩
  have HD := Lib.hid hd
  obtain ⟨hd1, hd2, hd3, hd4, hd5, hd6, _⟩ := hd
  have OV1 := Lib.hid ov
  obtain ⟨vo, rfl, i1, i2, hvo⟩ := ov
  obtain ⟨Ao, no, co, hvo2, hno, _, _, _⟩ := hvo.rd
  subst hno hvo2
  clear hvo
  obtain ⟨wB, hwB⟩ : ∃ u, u = w1.alloc (Obj.cells #[.int .i64 x.bins, .int .i64 x.passes, .slice Ao x.order.length co] 25) := ⟨_, rfl⟩
  have hBB : Below w1.heap.size w1 wB := by rw [hwB]; exact (Below.refl _ _).alloc (Nat.le_refl _) _
  have hrB : rdr wB g p1 := by rw [hwB]; exact hr1.alloc _
  have hzB : wB.heap.size = w1.heap.size + 1 := by rw [hwB]; simp
  have hbB : wB.heap[w1.heap.size]? = some (.cells #[.int .i64 x.bins, .int .i64 x.passes, .slice Ao x.order.length co] 25 (0, 0)) := by rw [hwB]; exact heap_alloc_new w1 _
  have hgB : wA.grownBy wB (some g) := grown_below hg1 hBB
  have hz1 := hg1.size
  have OVB : Hid (ownP 9 wA.heap.size wB (.agg #[.int .i64 x.bins, .int .i64 x.passes, .slice Ao x.order.length co]) x) := OV1.out.grown (grown_below (World.grownBy.refl w1 (some g)) hBB) (fun r e => by injection e with e; omega)
  have HAB : Hid (∀ W, wB.grownBy W (some g) → W.heap[w.heap.size]? = some (.cells #[.int .i64 0, .int .i64 0, .slice none 0 0] 25 (0, 0))) := fun W hg => ((hg.block w.heap.size (by omega) (fun e => by injection e; omega)).trans (hgB.block w.heap.size (by omega) (fun e => by injection e; omega))).trans hbA
  have HBB : Hid (∀ W, wB.grownBy W (some g) → W.heap[w1.heap.size]? = some (.cells #[.int .i64 x.bins, .int .i64 x.passes, .slice Ao x.order.length co] 25 (0, 0))) := fun W hg => (hg.block w1.heap.size (by omega) (fun e => by injection e; omega)).trans hbB
  have HVL : Hid (∀ k, planBlk (.agg #[.int .i64 x.bins, .int .i64 x.passes, .slice Ao x.order.length co]) k → k < w1.heap.size) := fun k hk => (planBlk_own OV1.out k hk).2
  have HWB := Lib.hid hwB
  clear hwB hBB hbB hbA hr1 hg1 hrA
  go_wp2_with fail
  rw [← HWB.out]
  refine (rd_l3Mail g p1 wA.heap.size _ x _ hrB (by omega) OVB.out (by omega) HD.out).mono ?_
  rintro e w2 ⟨vb, xs, p2, rfl, ob, hxl, hx7, hr2, hp2, hg2⟩
  have OB2 := Lib.hid ob
  have HX7 := Lib.hid hx7
  clear ob hx7 hrB
  obtain ⟨c0, c1, c2, _, _, _⟩ := cells3 (HBB.out w2 hg2)
  have hbl := OB2.out.rd
  obtain ⟨Ab, nb, cb, hvb, hnb, _, _, _⟩ := hbl
  subst hnb hvb
  go_wp2_with fail
  refine (rd_pick g p2 x.passes _ hr2 (by omega) i2).mono ?_
  rintro e w3 ⟨y, rfl, hy, hr3, hg3⟩
  obtain ⟨y0, y1⟩ := hy.2 (by omega)
  clear hy hr2
  have hgB3 := grown_trans hg2 hg3
  have OB3 := Lib.hid (OB2.out.grown hg3 (own_ne OB2.out (by omega)))
  go_wp2_with fail
  refine (rd_pick g (p2 + 1) 16 _ hr3 (by omega) (by unfold isI64; omega)).mono ?_
  rintro e w4 ⟨z, rfl, hz, hr4, hg4⟩
  clear hz hr3
  have hgB4 := grown_trans hgB3 hg4
  have OB4 := Lib.hid (OB3.out.grown hg4 (own_ne OB3.out (by omega)))
  clear c0 c1 c2 hg2 hg3 hg4 hgB3 OB2 OB3
  obtain ⟨c0, c1, c2, _, _, _⟩ := cells3 (HBB.out w4 hgB4)
  by_cases hz0 : z = 0
  rotate_left
  have d0 : (z == 0) = false := by simp [hz0]
  clear hz0
  obtain ⟨K, rfl⟩ : ∃ K : Int, K = y := ⟨_, rfl⟩
  obtain ⟨W, rfl⟩ : ∃ W : World, W = w4 := ⟨_, rfl⟩
  obtain ⟨q, hq⟩ : ∃ q : Nat, q = p2 + 1 + 1 := ⟨_, rfl⟩
  have hKi : isI64 K := by unfold isI64; omega
  rw [← hq] at hr4
  rotate_left
  have d0 : (z == 0) = true := by simp [hz0]
  clear hz0
  have hlt4 := hr4.lt
  go_wp2_with fail
  refine (rd_num 3 g (p2 + 1 + 1) _ [-1, x.passes, 9223372036854775807] _ (hr4.alloc _) (by omega) (list_own 3 (g + 1) w4 [-1, x.passes, 9223372036854775807] (by simp [isI64]; omega) (by unfold maxLen; simp) (by omega)) (by simp)).mono ?_
  rintro e W ⟨K, hK, rfl, hr5, hg5⟩
  have hKi : isI64 K := by
    simp at hK
    unfold isI64
    omega
  replace hg5 : w4.grownBy W (some g) := grown_trans (World.grownBy_alloc w4 _ _) hg5
  replace OB4 := Lib.hid (OB4.out.grown hg5 (own_ne OB4.out (by omega)))
  replace hgB4 := grown_trans hgB4 hg5
  clear hr4 hK hg5
  have hr4 := hr5
  clear hr5
  obtain ⟨q, hq⟩ : ∃ q : Nat, q = p2 + 1 + 1 + 1 := ⟨_, rfl⟩
  rw [← hq] at hr4
  clear c0 c1 c2
  obtain ⟨c0, c1, c2, _, _, _⟩ := cells3 (HBB.out W hgB4)
  all_goals
    have hgBz := hgB4.size
    have OVW := Lib.hid (OVB.out.grown hgB4 (fun r e => by injection e with e; omega))
    have hrW := hr4
    have OV7 := OVW
    have OB7 := OB4
    have OBW := OB4
    have hgB7 := hgB4
    clear hr4 hgB4 OB4 OVW
    go_wp2_with fail
    refine (rd_l3Bad g q wA.heap.size _ x _ hrW (by omega) OV7.out (by omega) HD.out).mono ?_
    rintro e w8 ⟨v8, x8, q8, rfl, ov8, hl8, hr8, hq8, hk8, hs8, hb8⟩
    have OB8 := Lib.hid (OB7.out.keepBlk (w' := w8) fun k hk => by
      have h1 := OB7.out.blk k hk
      refine hs8.block k h1.2 fun h => ?_
      rcases h with h | h
      · omega
      · have := HVL.out k h; omega)
    have hz8 := hs8.size
    have hA8 := (hk8.block w.heap.size (by omega) (by omega)).trans (HAB.out W hgB7)
    have hgw8 : wA.grownBy w8 (some g) := kept2.back (grown_trans hgB hgB7) hk8 (Nat.le_refl _)
    have hpl8 : ∀ k, planBlk v8 k → k ≠ g ∧ (k < w1.heap.size ∨ W.heap.size ≤ k) := fun k hk => by
      have h1 := planBlk_own ov8 k hk
      refine ⟨by omega, ?_⟩
      rcases hb8 k hk with (h | h) | h
      · omega
      · exact .inl (HVL.out k h)
      · exact .inr h
    have OV8 := Lib.hid ov8
    have HPL := Lib.hid hpl8
    have OBK : Hid (∀ k, (Value.slice Ab xs.length cb).ownBlock = some k → k < W.heap.size) := fun k hk => (OBW.out.blk k hk).2
    clear ov8 hb8 hpl8 hs8 hk8 OB7 hrW c0 c1 c2
    have hob8 := OB8.out
    go_wp2_with fail
    refine (rd_l2BadC g q8 wB.heap.size _ xs _ hr8 (by omega) OB8.out (by omega) (by omega) HX7.out).mono ?_
    rintro e w9 ⟨vb9, xs9, q9, rfl, ob9, hl9, hr9, hq9, hk9, hs9⟩
    have OV9 := Lib.hid (OV8.out.keepBlk (w' := w9) fun k hk => by
      have h1 := planBlk_own OV8.out k hk
      have h2 := HPL.out k hk
      refine hs9.block k h1.2 fun h => ?_
      rcases h with h | h
      · omega
      · have h3 := OB8.out.blk k h
        rcases h2.2 with h4 | h4
        · omega
        · have := OBK.out k h; omega)
    have hA9 := (hk9.block w.heap.size (by omega) (by omega)).trans hA8
    have hgw9 : wA.grownBy w9 (some g) := kept2.back hgw8 hk9 (by omega)
    clear hs9 hk9 hgw8 hA8 OV8 HPL OB8 hob8 hr8 OBK
    have OB9 := Lib.hid ob9
    obtain ⟨vo9, hv9, i91, i92, ho9⟩ := OV9.out
    obtain ⟨A9, n9, c9, hvo9, hn9, _, _, _⟩ := ho9.rd
    subst hn9 hvo9
    subst hv9
    clear ho9 ob9
    obtain ⟨a0, a1, a2, f0, f1, f2⟩ := cells3 hA9
    go_wp2_with fail
    refine ret_box2 rfl rfl (three_set hA9) Tryz.underlying25 rfl Tryz.sizePln rfl ?_
    exact draw3PostC_of (B := wA.heap.size) (Nat.le_refl _) (by omega) OV9.out (OB9.out.base_ (by omega)) hKi hl9 hl8 (hBA.trans (below_of_grown hgw9 hBA.size (fun r e => by injection e; omega))) rfl hA9

set_option maxRecDepth 100000 in
set_option maxHeartbeats 400000 in
theorem draw_DrawRunPlanC (v : Value) (bs : List UInt8) (w : World) (hv : rd w w.heap.size v bs) :
    Calls Tryz.prog 33 #[v] w (draw2BPostC 9 89 w) := by
  obtain ⟨wA, hwA⟩ : ∃ u, u = w.alloc (Obj.cells #[.int .i64 0, .int .i64 0, .slice none 0 0] 25) := ⟨_, rfl⟩
  have hBA : Below w.heap.size w wA := by rw [hwA]; exact (Below.refl _ _).alloc (Nat.le_refl _) _
  have hzA : wA.heap.size = w.heap.size + 1 := by rw [hwA]; simp
  have hbA : wA.heap[w.heap.size]? = some (.cells #[.int .i64 0, .int .i64 0, .slice none 0 0] 25 (0, 0)) := by rw [hwA]; exact heap_alloc_new w _
  have hvA := hv.on hBA
  have HWA := Lib.hid hwA; clear hwA
  go_enter Tryz.func33, Tryz.ntmps33
  go_wp2_with fail
  rw [← HWA.out]
  refine (draw_DrawPlanPassC _ bs _ hvA).mono ?_
  rintro e w2 ⟨v2, vb, x, xs, k, rfl, ov, ob, hk, hxl, hol, b2⟩
  have hz2 := b2.size
  have hb2 := (b2.block w.heap.size (by omega)).trans hbA
  have hB2 : Below w.heap.size w w2 := hBA.trans (b2.mono (by omega))
  have OV := Lib.hid ov
  obtain ⟨vo, rfl, i1, i2, ho⟩ := ov
  obtain ⟨A, n, c, hvo, hn, _, _, _⟩ := ho.rd
  subst hn hvo
  clear ho b2 hbA hBA hvA hv
  obtain ⟨wC, hwC⟩ : ∃ u, u = w2.alloc (Obj.cells #[.int .i64 x.bins, .int .i64 x.passes, .slice A x.order.length c] 25) := ⟨_, rfl⟩
  have hBC : Below w2.heap.size w2 wC := by rw [hwC]; exact (Below.refl _ _).alloc (Nat.le_refl _) _
  have hb3 := (hBC.block w.heap.size (by omega)).trans hb2
  have hB3 : Below w.heap.size w wC := hB2.trans (hBC.mono (by omega))
  have OV3 : Hid (ownP 9 wA.heap.size wC (.agg #[.int .i64 x.bins, .int .i64 x.passes, .slice A x.order.length c]) x) := OV.out.keepBlk fun k hk => hBC.block k (planBlk_own OV.out k hk).2
  have ob3 := ob.below hBC
  have hbC : wC.heap[w2.heap.size]? = some (.cells #[.int .i64 x.bins, .int .i64 x.passes, .slice A x.order.length c] 25 (0, 0)) := by rw [hwC]; exact heap_alloc_new w2 _
  have hb3' := hb3
  have hbC' := hbC
  rw [hwC] at hb3' hbC'
  have HWC := Lib.hid hwC; clear hwC
  obtain ⟨a0, a1, a2, f0, f1, f2⟩ := cells3 hb3'
  obtain ⟨d0, d1, d2, _, _, _⟩ := cells3 hbC'
  go_wp2_with fail
  rw [← HWC.out]
  refine ret_box1 rfl rfl (three_set hb3) Tryz.underlying25 rfl Tryz.sizePln rfl ?_
  exact draw2BPostC_of (B := wA.heap.size) (Nat.le_refl _) (by omega) OV3.out ob3 hxl hol hB3 rfl hb3

end Go.Proofs.YtpinkbodbedajaaGreatDoor
