/- ZF JI JK KG KA KH ST KI KB KC -/
import Derived.Test.YtpinkbodbedajaaGreatDoorQ23
import Derived.Test.YtpinkbodbedajaaGreatDoorQ16
import Derived.Test.YtpinkbodbedajaaGreatDoorQ13
import Derived.Test.YtpinkbodbedajaaGreatDoorQ5
import Derived.Test.YtpinkbodbedajaaGreatDoorQ8
import Derived.Test.YtpinkbodbedajaaGreatDoorQ18
import Derived.Test.YtpinkbodbedajaaGreatDoorQ21
import Derived.Shelf.SlSortCmp.InsertionK
import Derived.Lib.SortBridge
import Derived.Lib.Bytealg
import Derived.Test.YtpinkbodbedajaaGreatDoorQ2
import Derived.Shelf.SlLaysF0
import Derived.Ground.SlsfProg
import Derived.Sort.LotA
import Derived.Test.YtpinkbodbedajaaGreatDoorQ7
import Derived.Test.YtpinkbodbedajaaGreatDoorQ20
import Derived.Test.YtpinkbodbedajaaGreatDoorQ9
namespace Go.Proofs.YtpinkbodbedajaaGreatDoor
open Go.RowKit

/-- What a line's call leaves. -/
def lineQ (B d : Nat) (s' : Dsk) (vH : Value) (a : ByteArray) (w : World) (e : Ending) (w' : World) : Prop := e = .returned (.string a) ∧ ∃ vH', dskAt B w' d s' vH' ∧ Kd d vH w w' ∧ heldN w vH vH'
theorem lineQ.pre {B d : Nat} {s' : Dsk} {vH : Value} {a : ByteArray} {w W w' : World} {e : Ending} (hb : Below w.heap.size w W) (h : lineQ B d s' vH a W e w') : lineQ B d s' vH a w e w' := by
  obtain ⟨h1, vH', h2, h3, h4⟩ := h
  refine ⟨h1, vH', h2, (Kd.of_below hb).trans h3, ?_⟩
  rcases h4 with h4 | h4
  · exact .inl h4
  · exact .inr fun k hk => Nat.le_trans hb.size (h4 k hk)
theorem lineQ.post {B d : Nat} {s' : Dsk} {vH : Value} {a : ByteArray} {w w1 w' : World} {e : Ending} (h : lineQ B d s' vH a w e w1) (hb : Below w1.heap.size w1 w') : lineQ B d s' vH a w e w' := by
  obtain ⟨h1, vH', h2, h3, h4⟩ := h
  exact ⟨h1, vH', h2.below hb, h3.trans (Kd.of_below hb), h4⟩
theorem lineQ.of_read {B d : Nat} {s : Dsk} {vH : Value} {a : ByteArray} {w w' : World} {e : Ending} (hD : dskAt B w d s vH) (he : e = .returned (.string a)) (hb : Below w.heap.size w w') : lineQ B d s vH a w e w' :=
  ⟨he, vH, hD.below hb, Kd.of_below hb, heldN.refl _ _⟩

/-! ### The forms of a line -/
set_option maxRecDepth 100000 in
set_option maxHeartbeats 800000 in
theorem line_word (B d : Nat) (s' : Dsk) (vH : Value) (line a : ByteArray) (w : World) (hz : line.size ≤ maxLen) (hcut : cutAt 32 line = none)
    (HC : ∀ W, Below w.heap.size w W → Calls Tryz.prog 131 #[.pointer (some ⟨d, 0, none⟩), .string line] W (lineQ B d s' vH a W)) :
    Calls Tryz.prog 68 #[.pointer (some ⟨d, 0, none⟩), .string line] w (lineQ B d s' vH a w) := by
  have HK : Hid (Calls Tryz.prog 130 #[.string line, .string ⟨#[32]⟩] w fun e w' => e = .returned (.tuple #[.string line, .string ⟨#[]⟩, .bool false]) ∧ Below w.heap.size w w') := (strings_Cut1 line 32 w hz).mono fun e w' h => by
    obtain ⟨hb, ⟨_, he⟩ | ⟨p, q, h, _⟩⟩ := h
    · exact ⟨he, hb⟩
    · rw [hcut] at h; cases h
  have HCC := Lib.hid HC
  clear HC hcut
  go_enter Tryz.func68, Tryz.ntmps68
  go_wp2_with fail
  refine HK.out.mono ?_
  rintro e w1 ⟨rfl, b1⟩
  go_wp2_with fail
  refine (HCC.out _ b1).mono ?_
  rintro e w2 ⟨rfl, h2⟩
  go_wp2_with fail
  go_ret
  exact lineQ.pre b1 ⟨rfl, h2⟩

set_option maxRecDepth 100000 in
set_option maxHeartbeats 1600000 in
theorem line_one (B d : Nat) (s' : Dsk) (vH : Value) (line wd rest f a : ByteArray) (w : World) (hz : line.size ≤ maxLen) (hr : rest.size ≤ 1000000000) (hcut : cutAt 32 line = some (wd, rest)) (hp : partsB 32 rest = [f])
    (q_0 : (wd.toList == [108, 101, 116, 116, 101, 114, 115]) = false) (q_1 : (wd.toList == [112, 108, 97, 110]) = false) (q_2 : (wd.toList == [102, 111, 114, 119, 97, 114, 100, 115]) = false) (q_3 : (wd.toList == [110, 101, 116]) = false)
    (HC : ∀ W, Below w.heap.size w W → Calls Tryz.prog 137 #[.pointer (some ⟨d, 0, none⟩), .string wd, .string f] W (lineQ B d s' vH a W)) :
    Calls Tryz.prog 68 #[.pointer (some ⟨d, 0, none⟩), .string line] w (lineQ B d s' vH a w) := by
  have HK : Hid (Calls Tryz.prog 130 #[.string line, .string ⟨#[32]⟩] w fun e w' => e = .returned (.tuple #[.string wd, .string rest, .bool true]) ∧ Below w.heap.size w w') := (strings_Cut1 line 32 w hz).mono fun e w' h => by
    obtain ⟨hb, ⟨h, _⟩ | ⟨p, q, h, he⟩⟩ := h
    · rw [hcut] at h; cases h
    · rw [hcut] at h; cases h; exact ⟨he, hb⟩
  have HCC := Lib.hid HC
  have HSP : Hid (∀ W : World, Calls Tryz.prog 65 #[.string rest, .string ⟨#[32]⟩] W fun e w' => e = .returned (.slice (some ⟨W.heap.size, 0, none⟩) 1 1) ∧ own 9 W.heap.size w' (.slice (some ⟨W.heap.size, 0, none⟩) 1 1) [f] ∧ Below W.heap.size W w') := fun W => by
    have h := strings_Split1 rest 32 W hr
    rw [hp] at h
    exact h.mono fun e w' h => ⟨h.1, h.2.1, h.2.2.1⟩
  clear HC hcut hp
  go_enter Tryz.func68, Tryz.ntmps68
  go_wp2_with fail
  refine HK.out.mono ?_
  rintro e w1 ⟨rfl, b1⟩
  go_wp2_with fail
  refine (HSP.out _).mono ?_
  rintro e w2 ⟨rfl, o2, b2⟩
  have l2 := later_trans b1 b2
  have y0 : w2.cell? ⟨w1.heap.size, 0, none⟩ = some (.string f) := own_str1 o2 0 (by simp)
  have L2 := Lib.hid l2
  clear o2 b1 b2 l2
  go_wp2_with fail
  refine (HCC.out _ L2.out).mono ?_
  rintro e w3 ⟨rfl, h3⟩
  go_wp2_with fail
  go_ret
  exact lineQ.pre L2.out ⟨rfl, h3⟩

/-! ### The network's lines -/
/-! ### The words -/
end Go.Proofs.YtpinkbodbedajaaGreatDoor

namespace Go.Proofs.YtpinkbodbedajaaGreatDoor
open Go.RowKit

/-- A line of a word and one field. -/
def lnOne (wd f : ByteArray) : ByteArray := wd ++ ⟨#[32]⟩ ++ f
theorem lnOne_size (wd f : ByteArray) : (lnOne wd f).size = wd.size + 1 + f.size := by
  unfold lnOne; simp only [ByteArray.size_append]; rfl
theorem lnOne_10 {wd f : ByteArray} (h1 : (10 : UInt8) ∉ wd.data.toList) (h2 : (10 : UInt8) ∉ f.data.toList) : (10 : UInt8) ∉ (lnOne wd f).data.toList := by
  unfold lnOne
  rw [ba_append, ba_append, List.mem_append, List.mem_append]
  rintro ((h | h) | h)
  · exact h1 h
  · exact absurd h (by decide)
  · exact h2 h
end Go.Proofs.YtpinkbodbedajaaGreatDoor

namespace Go.Proofs.YtpinkbodbedajaaGreatDoor
open Go.RowKit

end Go.Proofs.YtpinkbodbedajaaGreatDoor

namespace Go.Proofs.YtpinkbodbedajaaGreatDoor
open Go.RowKit

end Go.Proofs.YtpinkbodbedajaaGreatDoor

namespace Go.Proofs.YtpinkbodbedajaaGreatDoor
open Go.RowKit

def negB (t : ByteArray) : Bool := Lib.hasPrefix t.data.toList [45]
def absB (t : ByteArray) : ByteArray := ⟨(Lib.trimPrefix t.data.toList [45]).toArray⟩
def zeroB (d : ByteArray) : Bool := d.data.toList.head? == some 48
def nOk (d : ByteArray) (ng : Bool) : Bool := (decide (d.size ≠ 0) && (decide (d.size ≤ 17) && digs d.data.toList)) && !(zeroB d && (decide (1 < d.size) || ng))
def nVal (d : ByteArray) (ng : Bool) : Int := if nOk d ng then (if ng then -(numL d.data.toList : Int) else (numL d.data.toList : Int)) else 0
def numOk (t : ByteArray) : Bool := nOk (absB t) (negB t)
def numV (t : ByteArray) : Int := nVal (absB t) (negB t)
theorem zeroB_at {d : ByteArray} (h : 0 < d.size) : zeroB d = (d[0] == 48) := by
  have hl : 0 < d.data.toList.length := by simpa using h
  unfold zeroB
  obtain ⟨b, l, hbl⟩ : ∃ b l, d.data.toList = b :: l := by
    cases hq : d.data.toList with
    | nil => rw [hq] at hl; simp at hl
    | cons b l => exact ⟨b, l, rfl⟩
  have e : d[0] = d.data.toList[0] := rfl
  rw [e]
  simp only [hbl]
  simp
theorem nVal_no {d : ByteArray} {ng : Bool} (h : nOk d ng = false) : nVal d ng = 0 := by unfold nVal; rw [h]; rfl
theorem nVal_bound {d : ByteArray} {ng : Bool} : -100000000000000000 < nVal d ng ∧ nVal d ng < 100000000000000000 := by
  unfold nVal
  split
  · rename_i h
    unfold nOk at h
    simp only [Bool.and_eq_true, decide_eq_true_iff] at h
    have h1 := numL_lt d.data.toList.length d.data.toList h.1.2.2 rfl
    have h2 : d.data.toList.length ≤ 17 := by have := h.1.2.1; simpa using this
    have h3 : 10 ^ d.data.toList.length ≤ 10 ^ 17 := Nat.pow_le_pow_right (by decide) h2
    split <;> omega
  · omega

set_option maxRecDepth 100000 in
set_option maxHeartbeats 1600000 in
theorem impl_parseNumber (t : ByteArray) (w : World) (ht : t.size ≤ maxLen) :
    Calls Tryz.prog 197 #[.string t] w fun e w' => e = .returned (.tuple #[.int .i64 (numV t), .bool (numOk t)]) ∧ w = w' := by
  have HC : Hid (∀ W : World, Calls Tryz.prog 247 #[.string t, .string ⟨#[45]⟩] W fun e w' => e = .returned (.tuple #[.string (absB t), .bool (negB t)]) ∧ W = w') := fun W => (Tryz.strings_CutPrefix t ⟨#[45]⟩ W).mono fun e w' h => ⟨h.1, h.2.symm⟩
  have hdz : (absB t).size ≤ maxLen := by
    have h1 : (Lib.trimPrefix t.data.toList [45]).length ≤ t.data.toList.length := by
      unfold Lib.trimPrefix
      split
      · simp
      · exact Nat.le_refl _
    have h2 : t.data.toList.length = t.size := by simp
    show (Lib.trimPrefix t.data.toList [45]).toArray.size ≤ _
    rw [List.size_toArray]
    omega
  unfold numV numOk
  generalize absB t = d at *
  generalize negB t = ng at *
  have HA := Lib.hid (fun W => impl_allDigits d W hdz)
  have HN := Lib.hid (fun W => impl_digitsNumber d W)
  unfold maxLen at hdz
  by_cases h0 : d.size = 0
  · have HO : Hid (nOk d ng = false) := by show _ = _; unfold nOk; simp [h0]
    have HV := Lib.hid (nVal_no HO.out)
    obtain ⟨e1, e2⟩ := empty_tests h0
    rw [HO.out, HV.out]
    clear h0
    go_enter Tryz.func197, Tryz.ntmps197
    go_wp2_with fail
    refine (HC.out _).mono ?_
    rintro e _ ⟨rfl, rfl⟩
    go_wp2_with fail
    go_ret2
    exact ⟨rfl, rfl⟩
  obtain ⟨e1, e2⟩ := nonempty_tests h0
  by_cases h17 : 17 < d.size
  · have HO : Hid (nOk d ng = false) := by show _ = _; unfold nOk; rw [decide_eq_false (show ¬ d.size ≤ 17 by omega)]; simp
    have HV := Lib.hid (nVal_no HO.out)
    rw [HO.out, HV.out]
    go_enter Tryz.func197, Tryz.ntmps197
    go_wp2_with fail
    refine (HC.out _).mono ?_
    rintro e _ ⟨rfl, rfl⟩
    go_wp2_with fail
    go_ret2
    exact ⟨rfl, rfl⟩
  cases hdd : digs d.data.toList
  · have HO : Hid (nOk d ng = false) := by show _ = _; unfold nOk; rw [hdd]; simp
    have HV := Lib.hid (nVal_no HO.out)
    rw [HO.out, HV.out]
    rw [hdd] at HA
    clear hdd
    go_enter Tryz.func197, Tryz.ntmps197
    go_wp2_with fail
    refine (HC.out _).mono ?_
    rintro e _ ⟨rfl, rfl⟩
    go_wp2_with (go_at_call 143; refine (HA.out _).mono ?_; rintro e _ ⟨rfl, rfl⟩)
    go_ret2
    exact ⟨rfl, rfl⟩
  have HN2 := Lib.hid (fun W => HN.out W hdd (by omega))
  have hnl := numL_lt d.data.toList.length d.data.toList hdd rfl
  have hlz : d.data.toList.length = d.size := by simp
  have h3 : 10 ^ d.data.toList.length ≤ 10 ^ 17 := Nat.pow_le_pow_right (by decide) (by omega)
  have hn : numL d.data.toList ≤ 100000000000000000 := by omega
  have hz0 := zeroB_at (d := d) (by omega)
  have HO0 : Hid (nOk d ng = !(zeroB d && (decide (1 < d.size) || ng))) := by show _ = _; unfold nOk; rw [hdd, decide_eq_true (show d.size ≠ 0 from h0), decide_eq_true (show d.size ≤ 17 by omega)]; simp
  have HV0 : Hid (nVal d ng = if nOk d ng then (if ng then -(numL d.data.toList : Int) else (numL d.data.toList : Int)) else 0) := rfl
  rw [hdd] at HA
  generalize numL d.data.toList = n at *
  clear hdd hnl h3 HN
  have hd0 : 0 < d.size := by omega
  obtain ⟨b, hbe⟩ : ∃ b, d[0] = b := ⟨_, rfl⟩
  rw [hbe] at hz0
  have hdi : (0 : Int) < (d.size : Int) := by omega
  generalize zeroB d = zb at *
  generalize nOk d ng = ok at *
  generalize nVal d ng = vv at *
  have wn : IntKind.i64.wrap (-(n : Int)) = -(n : Int) := IntWalk.i64_in _ (by omega)
  by_cases hb : b = 48
  · subst hb
    have HZ : Hid (zb = true) := by show _ = _; rw [hz0]; rfl
    clear hz0
    by_cases h1 : 1 < d.size
    · have HO : Hid (ok = false) := by show _ = _; rw [HO0.out, HZ.out, decide_eq_true h1]; rfl
      have HV : Hid (vv = 0) := by show _ = _; rw [HV0.out, HO.out]; rfl
      rw [HO.out, HV.out]
      go_enter Tryz.func197, Tryz.ntmps197
      go_wp2_with fail
      refine (HC.out _).mono ?_
      rintro e _ ⟨rfl, rfl⟩
      go_wp2_with (go_at_call 143; refine (HA.out _).mono ?_; rintro e _ ⟨rfl, rfl⟩)
      go_ret2
      exact ⟨rfl, rfl⟩
    · cases ng
      · have HO : Hid (ok = true) := by show _ = _; rw [HO0.out, HZ.out, decide_eq_false h1]; rfl
        have HV : Hid (vv = (n : Int)) := by show _ = _; rw [HV0.out, HO.out]; rfl
        rw [HO.out, HV.out]
        go_enter Tryz.func197, Tryz.ntmps197
        go_wp2_with fail
        refine (HC.out _).mono ?_
        rintro e _ ⟨rfl, rfl⟩
        go_wp2_with (first | (go_at_call 143; refine (HA.out _).mono ?_; rintro e _ ⟨rfl, rfl⟩) | (go_at_call 248; refine (HN2.out _).mono ?_; rintro e _ ⟨rfl, rfl⟩))
        go_ret2
        exact ⟨rfl, rfl⟩
      · have HO : Hid (ok = false) := by show _ = _; rw [HO0.out, HZ.out]; simp
        have HV : Hid (vv = 0) := by show _ = _; rw [HV0.out, HO.out]; rfl
        rw [HO.out, HV.out]
        go_enter Tryz.func197, Tryz.ntmps197
        go_wp2_with fail
        refine (HC.out _).mono ?_
        rintro e _ ⟨rfl, rfl⟩
        go_wp2_with (go_at_call 143; refine (HA.out _).mono ?_; rintro e _ ⟨rfl, rfl⟩)
        go_ret2
        exact ⟨rfl, rfl⟩
  · have hbn : ((b.toNat : Int) == 48) = false := beq_eq_false_iff_ne.2 fun h => hb (UInt8.toNat_inj.1 (by show b.toNat = 48; omega))
    have HZ : Hid (zb = false) := by show _ = _; rw [hz0]; exact beq_eq_false_iff_ne.2 hb
    have HO : Hid (ok = true) := by show _ = _; rw [HO0.out, HZ.out]; rfl
    clear hz0 hb
    cases ng
    · have HV : Hid (vv = (n : Int)) := by show _ = _; rw [HV0.out, HO.out]; rfl
      rw [HO.out, HV.out]
      go_enter Tryz.func197, Tryz.ntmps197
      go_wp2_with fail
      refine (HC.out _).mono ?_
      rintro e _ ⟨rfl, rfl⟩
      go_wp2_with (first | (go_at_call 143; refine (HA.out _).mono ?_; rintro e _ ⟨rfl, rfl⟩) | (go_at_call 248; refine (HN2.out _).mono ?_; rintro e _ ⟨rfl, rfl⟩))
      go_ret2
      exact ⟨rfl, rfl⟩
    · have HV : Hid (vv = -(n : Int)) := by show _ = _; rw [HV0.out, HO.out]; rfl
      rw [HO.out, HV.out]
      go_enter Tryz.func197, Tryz.ntmps197
      go_wp2_with fail
      refine (HC.out _).mono ?_
      rintro e _ ⟨rfl, rfl⟩
      go_wp2_with (first | (go_at_call 143; refine (HA.out _).mono ?_; rintro e _ ⟨rfl, rfl⟩) | (go_at_call 248; refine (HN2.out _).mono ?_; rintro e _ ⟨rfl, rfl⟩))
      go_ret2
      exact ⟨rfl, rfl⟩

/-- The number of a field; -1 if it is none. -/
def fieldN (t : ByteArray) : Int := if numOk t then numV t else -1
set_option maxRecDepth 100000 in
theorem impl_fieldNumber (t : ByteArray) (w : World) (ht : t.size ≤ maxLen) :
    Calls Tryz.prog 201 #[.string t] w fun e w' => e = .returned (.int .i64 (fieldN t)) ∧ w = w' := by
  have HN := Lib.hid (fun W => impl_parseNumber t W ht)
  have HF : Hid (fieldN t = if numOk t then numV t else -1) := rfl
  generalize numV t = n at *
  generalize fieldN t = r at *
  cases h : numOk t
  · rw [h] at HN HF
    rw [show r = -1 from HF.out]
    clear h
    go_enter Tryz.func201, Tryz.ntmps201
    go_wp2_with fail
    refine (HN.out _).mono ?_
    rintro e _ ⟨rfl, rfl⟩
    go_wp2_with fail
    go_ret
    exact ⟨rfl, rfl⟩
  · rw [h] at HN HF
    rw [show r = n from HF.out]
    clear h
    go_enter Tryz.func201, Tryz.ntmps201
    go_wp2_with fail
    refine (HN.out _).mono ?_
    rintro e _ ⟨rfl, rfl⟩
    go_wp2_with fail
    go_ret
    exact ⟨rfl, rfl⟩

end Go.Proofs.YtpinkbodbedajaaGreatDoor

namespace Go.Proofs.YtpinkbodbedajaaGreatDoor
open Go.RowKit

end Go.Proofs.YtpinkbodbedajaaGreatDoor

namespace Go.Proofs.YtpinkbodbedajaaGreatDoor
open Go.RowKit

instance : Inhabited Ltr := ⟨⟨0, ⟨#[]⟩⟩⟩
instance : Inhabited Fwd := ⟨⟨⟨#[]⟩, ⟨#[]⟩⟩⟩

/-! ### The library's order of texts -/
/-! ### Rows of two cells, flat -/
end Go.Proofs.YtpinkbodbedajaaGreatDoor

namespace Go.Proofs
open Go.Shelf
end Go.Proofs
namespace Go.Proofs.YtpinkbodbedajaaGreatDoor
open Go.RowKit


end Go.Proofs.YtpinkbodbedajaaGreatDoor

namespace Go.Proofs.YtpinkbodbedajaaGreatDoor
open Go.RowKit Go.Shelf
attribute [local go_sem] Oper.semAt_some

theorem Tryz.infoLt : (Tryz.prog.info? 89).map (fun i => (i.zero, i.size, i.bytes)) = some (some (.agg #[.int .i64 0, .string ⟨#[]⟩]), 2, 24) := by kernel_rfl

/-! ### What is parsed -/
def partLt (x : ByteArray) : Option Ltr := match cutAt 58 x with
  | some (p, q) => if numOk p then some ⟨numV p, q⟩ else none
  | none => none
def allLt (ps : List ByteArray) : Bool := ps.all fun x => (partLt x).isSome
def gotLt (ps : List ByteArray) : List Ltr := ps.filterMap partLt
def pbParts (t : ByteArray) : Bool := allLt (partsB 32 t) && decide ((partsB 32 t).length ≤ 60)
def pbSome (t : ByteArray) : Bool := pbParts t && sEq (fmtB (gotLt (partsB 32 t))) t
def pbOk (t : ByteArray) : Bool := sEq t ⟨#[45]⟩ || pbSome t
def pbL (t : ByteArray) : List Ltr := if sEq t ⟨#[45]⟩ then [] else if pbSome t then gotLt (partsB 32 t) else []
theorem partLt_none {x : ByteArray} (h : cutAt 58 x = none) : partLt x = none := by unfold partLt; rw [h]
theorem partLt_no {x p q : ByteArray} (h : cutAt 58 x = some (p, q)) (hn : numOk p = false) : partLt x = none := by unfold partLt; rw [h]; simp [hn]
theorem partLt_yes {x p q : ByteArray} (h : cutAt 58 x = some (p, q)) (hn : numOk p = true) : partLt x = some ⟨numV p, q⟩ := by unfold partLt; rw [h]; simp [hn]
theorem gotLt_len : ∀ ps : List ByteArray, allLt ps = true → (gotLt ps).length = ps.length
  | [], _ => rfl
  | x :: ps, h => by
    unfold allLt at h
    rw [List.all_cons, Bool.and_eq_true] at h
    obtain ⟨y, hy⟩ := Option.isSome_iff_exists.1 h.1
    unfold gotLt
    rw [List.filterMap_cons, hy]
    show (gotLt ps).length + 1 = _
    rw [gotLt_len ps h.2]
    rfl
theorem gotLt_snoc {ps : List ByteArray} {x : ByteArray} {y : Ltr} (h : partLt x = some y) : gotLt (ps ++ [x]) = gotLt ps ++ [y] := by
  unfold gotLt
  rw [List.filterMap_append]
  simp [h]
theorem allLt_snoc (ps : List ByteArray) (x : ByteArray) : allLt (ps ++ [x]) = (allLt ps && (partLt x).isSome) := by
  unfold allLt
  rw [List.all_append]
  simp
theorem allLt_bad (ps : List ByteArray) {x : ByteArray} (h : partLt x = none) : allLt (ps ++ [x]) = false := by
  rw [allLt_snoc, h]; simp
theorem allLt_prefix {ps qs : List ByteArray} (h : ps <+: qs) (hf : allLt ps = false) : allLt qs = false := by
  obtain ⟨r, rfl⟩ := h
  unfold allLt at *
  rw [List.all_append, hf]
  rfl

/-- What lies between two rounds. -/
def pbI (h : Nat) (w0 : World) (B : Nat) (pre : List ByteArray) (W : World) : Prop :=
  (∃ v, Boxed W (h + 1 + 1) 29 v ∧ own 89 B W v (gotLt pre)) ∧ B ≤ W.heap.size ∧ allLt pre = true ∧ pre.length ≤ 60 ∧ Boxed W h 29 (.slice none 0 0) ∧ Boxed W (h + 1) 4 (.bool false) ∧ Below h w0 W
/-- .. where a round has returned. -/
def pbX (h : Nat) (w0 : World) (pre : List ByteArray) (W : World) : Prop :=
  (allLt pre = false ∨ 60 < pre.length) ∧ Boxed W h 29 (.slice none 0 0) ∧ Boxed W (h + 1) 4 (.bool false) ∧ Below h w0 W
theorem pbI_bears {h B z : Nat} {w0 : World} (hz : h + 1 + 1 < z) (hzB : z < B) (hs : h ≤ w0.heap.size) : Bears B z (pbI h w0 B) := by
  rintro pre A C row ⟨⟨v, hv, ho⟩, h0, h1, h2, h3, h4, h5⟩ hg hr
  have ne : ∀ k, k < z → some k ≠ row := fun k hk e => by
    rcases hr k e.symm with h | ⟨h, _⟩ <;> omega
  refine ⟨⟨v, hv.kept hg (ne _ (by omega)), ho.grown hg ?_⟩, Nat.le_trans h0 hg.size, h1, h2, h3.kept hg (ne _ (by omega)), h4.kept hg (ne _ (by omega)), h5.grown hg (Nat.le_trans hs h5.size) fun k e => ?_⟩
  · cases hb : v.ownBlock with
    | none => exact .inl rfl
    | some k =>
      refine .inr fun e => ?_
      have hk := (ho.blk k hb).1
      rcases hr k e.symm with h | ⟨_, o, ho1, ho2⟩
      · omega
      · obtain ⟨o', ho3, ho4⟩ := own_isCells ho hb
        rw [ho3] at ho1
        injection ho1 with ho1
        rw [ho1, ho2] at ho4
        cases ho4
  · rcases hr k e with h | ⟨h, _⟩ <;> omega
theorem pbX_bears {h B z : Nat} {w0 : World} (hz : h + 1 + 1 < z) (hzB : z < B) (hs : h ≤ w0.heap.size) : Bears B z (pbX h w0) := by
  rintro pre A C row ⟨h1, h3, h4, h5⟩ hg hr
  have ne : ∀ k, k < z → some k ≠ row := fun k hk e => by
    rcases hr k e.symm with h | ⟨h, _⟩ <;> omega
  refine ⟨h1, h3.kept hg (ne _ (by omega)), h4.kept hg (ne _ (by omega)), h5.grown hg (Nat.le_trans hs h5.size) fun k e => ?_⟩
  rcases hr k e with h | ⟨h, _⟩ <;> omega

set_option maxRecDepth 100000 in
set_option maxHeartbeats 3200000 in
theorem impl_ParseBatch (t : ByteArray) (w : World) (ht : t.size ≤ maxLen) (hX : TabW w) :
    Calls Tryz.prog 133 #[.string t] w fun e w' => ∃ v', e = .returned (.tuple #[v', .bool (pbOk t)]) ∧ own 89 w.heap.size w' v' (pbL t) ∧ Below w.heap.size w w' := by
  have HTB := Lib.hid hX; clear hX
  refine (callsIn_wide (n := 9)).1 ?_
  have hn9 : 1 ≤ 9 := by omega
  refine callsIn_of_wp_marks Tryz.func133 rfl trivial ?_ rfl
  simp only [Tryz.ntmps133, List.size_toArray, List.length_cons, List.length_nil, Nat.reduceAdd, Nat.reduceSub, Array.replicate_succ, Array.replicate_zero, List.push_toArray, List.append_toArray, List.nil_append, List.cons_append]
  by_cases h45 : sEq t ⟨#[45]⟩ = true
  · have hO : pbOk t = true := by unfold pbOk; rw [h45]; rfl
    have hR : pbL t = [] := by unfold pbL; rw [if_pos h45]
    have HO := Lib.hid hO; have HR := Lib.hid hR
    clear hO hR
    have h46 : (t.toList == [45]) = true := by unfold sEq at h45; rw [ByteArray.toList_eq ⟨#[45]⟩] at h45; exact h45
    clear h45
    gi_wp2
    refine ⟨.tuple #[.slice none 0 0, .bool true], by simp [results, Tryz.results133, go_sem], _, by rw [HO.out], by rw [HR.out]; exact own.nil_ _ _ _, ?_⟩
    exact ((Below.refl _ w).alloc (Nat.le_refl _) _).alloc (by simp) _
  · have h46 : (t.toList == [45]) = false := by rw [Bool.not_eq_true] at h45; unfold sEq at h45; rw [ByteArray.toList_eq ⟨#[45]⟩] at h45; exact h45
    have HO : Hid (pbOk t = pbSome t) := by show _ = _; unfold pbOk; rw [Bool.not_eq_true] at h45; rw [h45]; rfl
    have HR : Hid (pbL t = if pbSome t then gotLt (partsB 32 t) else []) := by show _ = _; unfold pbL; rw [if_neg h45]
    clear h45
    have HS := fun W => strings_SplitSeq t 32 W
    have b0 := ((Boxed.new w 29 (.slice none 0 0)).alloc (Obj.cells #[.bool false] 4)).alloc (Obj.cells #[.slice none 0 0] 29)
    have b1 := (Boxed.new (w.alloc (Obj.cells #[.slice none 0 0] 29)) 4 (.bool false)).alloc (Obj.cells #[.slice none 0 0] 29)
    have b2 := Boxed.new ((w.alloc (Obj.cells #[.slice none 0 0] 29)).alloc (Obj.cells #[.bool false] 4)) 29 (.slice none 0 0)
    have l3 : Below w.heap.size w (((w.alloc (Obj.cells #[.slice none 0 0] 29)).alloc (Obj.cells #[.bool false] 4)).alloc (Obj.cells #[.slice none 0 0] 29)) := (((Below.refl _ w).alloc (Nat.le_refl _) _).alloc (by simp) _).alloc (by simp; omega) _
    rw [World.size_alloc] at b1 b2
    rw [World.size_alloc] at b2
    have B0 := Lib.hid b0; have B1 := Lib.hid b1; have B2 := Lib.hid b2; have L3 := Lib.hid l3
    clear b0 b1 b2 l3
    gi_wp2_with (refine ⟨trivial, ?_⟩; gi_at_call 196; refine (callsIn_wide.2 (HS _)).mono ?_; rintro e w6 ⟨rfl, hcap, hb6, hz6⟩)
    have hz3 : (((w.alloc (Obj.cells #[.slice none 0 0] 29)).alloc (Obj.cells #[.bool false] 4)).alloc (Obj.cells #[.slice none 0 0] 29)).heap.size = w.heap.size + 1 + 1 + 1 := by simp
    generalize (((w.alloc (Obj.cells #[.slice none 0 0] 29)).alloc (Obj.cells #[.bool false] 4)).alloc (Obj.cells #[.slice none 0 0] 29)) = w3 at *
    rw [hz3] at hcap hz6
    have x0 : Boxed w6 (w.heap.size) 29 (.slice none 0 0) := (hb6.block _ (by omega)).trans B0.out
    have x1 : Boxed w6 (w.heap.size + 1) 4 (.bool false) := (hb6.block _ (by omega)).trans B1.out
    have x2 : Boxed w6 (w.heap.size + 1 + 1) 29 (.slice none 0 0) := (hb6.block _ (by omega)).trans B2.out
    have l6 : Below w.heap.size w w6 := L3.out.trans (hb6.mono (by omega))
    clear B0 B1 B2 L3 hb6 HS hz3
    obtain ⟨i0, hi, hi0, hi1, hi2⟩ := info_parts Tryz.infoLt
    refine range_iterZ (F := Fence.wide) (n := 9) rfl (by omega) (gf := 278) (lb := #[.pointer (some ⟨w.heap.size + 1 + 1 + 1 + 1, 0, none⟩), .pointer (some ⟨w.heap.size + 1 + 1 + 1, 0, none⟩), .pointer (some ⟨w.heap.size + 1 + 1 + 1 + 2, 0, none⟩)]) rfl trivial (enters_of Tryz.func278 (by kernel_rfl) rfl)
      (split_iter 8 (w.heap.size + 1 + 1 + 1) (by omega) 32 t w6 hcap ht) (fun k hk => by simp at hk; omega) (by omega) (fun _ => rfl)
      (pbI w.heap.size w w6.heap.size) (pbX w.heap.size w) (pbI_bears (by omega) (by omega) (Nat.le_refl _)) (pbX_bears (by omega) (by omega) (Nat.le_refl _))
      ⟨⟨_, x2, own.nil_ _ _ _⟩, Nat.le_refl _, rfl, Nat.zero_le _, x0, x1, l6⟩
      (fun x => { tmps := #[.string t, undef, .pointer (some ⟨w.heap.size, 0, none⟩), .pointer (some ⟨w.heap.size + 1, 0, none⟩), .pointer (some ⟨w.heap.size + 1 + 1, 0, none⟩), .string x, undef, undef, undef, undef, undef, .string t, .bool false, .string t, .func (.func 278) #[] #[.pointer (some ⟨w.heap.size + 1 + 1 + 1 + 1, 0, none⟩), .pointer (some ⟨w.heap.size + 1 + 1 + 1, 0, none⟩), .pointer (some ⟨w.heap.size + 1 + 1 + 1 + 2, 0, none⟩)], .string x, undef, undef, undef, undef, undef, undef, undef, undef, undef, undef, undef, undef, undef, undef, undef, undef, undef, undef, undef, undef, undef, undef, undef, undef, undef, undef, undef, undef, undef, undef, undef, undef, undef], defers := [] }) ?assign ?body ?done ?stop
    case assign =>
      intro l x W K hK
      gi_wp2
      exact hK
    case body =>
      rintro l pre x W ⟨⟨v, hv, ho⟩, hBW, hall, hlen, y0, y1, hB⟩ _ hx
      have hd : 1 ≤ 9 - 1 - 1 := by omega
      have HC := strings_Cut1 x 58 W hx
      have y0c := Lib.hid y0; have y1c := Lib.hid y1; have hvc := Lib.hid hv; have hoc := Lib.hid ho
      rcases hcx : cutAt 58 x with _ | ⟨p, q⟩
      · have HCn : Calls Tryz.prog 130 #[.string x, .string ⟨#[58]⟩] W fun e w' => Below W.heap.size W w' ∧ e = .returned (.tuple #[.string x, .string ⟨#[]⟩, .bool false]) := HC.mono fun e w' h => by
          obtain ⟨hb, ⟨_, he⟩ | ⟨p, q, h, _⟩⟩ := h
          · exact ⟨hb, he⟩
          · rw [hcx] at h; cases h
        have HP : Hid (allLt (pre ++ [x]) = false) := allLt_bad pre (partLt_none hcx)
        have HN := Lib.hid (fun V => impl_parseNumber x V hx)
        generalize numOk x = nok at *
        generalize numV x = nv at *
        clear HC hcx y0 y1 hv ho
        gi_wp2_with (first | (refine ⟨trivial, ?_⟩; gi_at_call 130; refine (CallsIn.inRound l (callsIn_wide.2 HCn)).mono ?_; rintro e W2 ⟨hb, rfl⟩; have z0 : Boxed W2 _ _ _ := (hb.block _ y0c.out.lt).trans y0c.out; have z1 : Boxed W2 _ _ _ := (hb.block _ y1c.out.lt).trans y1c.out; have c0 := z0.cell; have c1 := z1.cell; have f0 := z0.frozen; have f1 := z1.frozen) | (refine ⟨trivial, ?_⟩; gi_at_call 197; refine (CallsIn.inRound l (callsIn_wide.2 (HN.out _))).mono ?_; rintro e _ ⟨rfl, rfl⟩))
        obtain ⟨r0, r1, r2, r3⟩ := set_two z0 z1 (.slice none 0 0) (.bool false)
        exact ⟨(keeps_below hb).trans r2, .inl HP.out, r0, r1, (hB.trans (hb.mono hB.size)).trans (r3 _ (Nat.le_refl _))⟩
      · have HCn : Calls Tryz.prog 130 #[.string x, .string ⟨#[58]⟩] W fun e w' => Below W.heap.size W w' ∧ e = .returned (.tuple #[.string p, .string q, .bool true]) := HC.mono fun e w' h => by
          obtain ⟨hb, ⟨h, _⟩ | ⟨p', q', h, he⟩⟩ := h
          · rw [hcx] at h; cases h
          · rw [hcx] at h; cases h; exact ⟨hb, he⟩
        have hpq := cut_sizes hcx
        have HN := Lib.hid (fun V => impl_parseNumber p V (by omega))
        cases hno : numOk p
        · have HP : Hid (allLt (pre ++ [x]) = false) := allLt_bad pre (partLt_no hcx hno)
          rw [hno] at HN
          generalize numV p = nv at *
          clear HC hcx y0 y1 hv ho hno
          gi_wp2_with (first | (refine ⟨trivial, ?_⟩; gi_at_call 130; refine (CallsIn.inRound l (callsIn_wide.2 HCn)).mono ?_; rintro e W2 ⟨hb, rfl⟩; have z0 : Boxed W2 _ _ _ := (hb.block _ y0c.out.lt).trans y0c.out; have z1 : Boxed W2 _ _ _ := (hb.block _ y1c.out.lt).trans y1c.out; have c0 := z0.cell; have c1 := z1.cell; have f0 := z0.frozen; have f1 := z1.frozen) | (refine ⟨trivial, ?_⟩; gi_at_call 197; refine (CallsIn.inRound l (callsIn_wide.2 (HN.out _))).mono ?_; rintro e _ ⟨rfl, rfl⟩))
          obtain ⟨r0, r1, r2, r3⟩ := set_two z0 z1 (.slice none 0 0) (.bool false)
          exact ⟨(keeps_below hb).trans r2, .inl HP.out, r0, r1, (hB.trans (hb.mono hB.size)).trans (r3 _ (Nat.le_refl _))⟩
        · have hpx := partLt_yes hcx hno
          have hnb := nVal_bound (d := absB p) (ng := negB p)
          rw [show nVal (absB p) (negB p) = numV p from rfl] at hnb
          rw [hno] at HN
          generalize numV p = nv at *
          have HP := Lib.hid hpx
          have hgl := gotLt_len pre hall
          obtain ⟨A, m, cp, rfl, hm, _, _, _⟩ := ho.rd
          clear HC hcx hpx y0 y1 hv ho hno
          by_cases h20 : m = 60
          · have hm20 : ((m : Int) == 60) = true := by simp [h20]
            have HL : Hid (60 < (pre ++ [x]).length) := by show _ < _; rw [List.length_append]; show 60 < pre.length + 1; omega
            clear h20 hm hgl hpq
            gi_wp2_with (first | (refine ⟨trivial, ?_⟩; gi_at_call 130; refine (CallsIn.inRound l (callsIn_wide.2 HCn)).mono ?_; rintro e W2 ⟨hb, rfl⟩; have z0 : Boxed W2 _ _ _ := (hb.block _ y0c.out.lt).trans y0c.out; have z1 : Boxed W2 _ _ _ := (hb.block _ y1c.out.lt).trans y1c.out; have z2 : Boxed W2 _ _ _ := (hb.block _ hvc.out.lt).trans hvc.out; have c0 := z0.cell; have c1 := z1.cell; have c2 := z2.cell; have f0 := z0.frozen; have f1 := z1.frozen) | (refine ⟨trivial, ?_⟩; gi_at_call 197; refine (CallsIn.inRound l (callsIn_wide.2 (HN.out _))).mono ?_; rintro e _ ⟨rfl, rfl⟩))
            obtain ⟨r0, r1, r2, r3⟩ := set_two z0 z1 (.slice none 0 0) (.bool false)
            exact ⟨(keeps_below hb).trans r2, .inr HL.out, r0, r1, (hB.trans (hb.mono hB.size)).trans (r3 _ (Nat.le_refl _))⟩
          · have hm20 : ((m : Int) == 60) = false := beq_eq_false_iff_ne.2 (by omega)
            have hg19 : (gotLt pre).length ≤ 59 := by omega
            have HPL : Hid (pre.length ≤ 59) := by show _ ≤ _; omega
            have HY : Hid (Ltr.ok ⟨nv, q⟩) := ⟨by show isI64 nv; unfold isI64; omega, by show q.size ≤ _; omega⟩
            clear h20 hm hgl hpq hnb
            gi_wp2_with (first | (refine ⟨trivial, ?_⟩; gi_at_call 130; refine (CallsIn.inRound l (callsIn_wide.2 HCn)).mono ?_; rintro e W2 ⟨hb, rfl⟩; have z0 : Boxed W2 _ _ _ := (hb.block _ y0c.out.lt).trans y0c.out; have z1 : Boxed W2 _ _ _ := (hb.block _ y1c.out.lt).trans y1c.out; have z2 : Boxed W2 _ _ _ := (hb.block _ hvc.out.lt).trans hvc.out; have c2 := z2.cell; have o2 := hoc.out.below hb; have hs2 := hb.size) | (refine ⟨trivial, ?_⟩; gi_at_call 197; refine (CallsIn.inRound l (callsIn_wide.2 (HN.out _))).mono ?_; rintro e _ ⟨rfl, rfl⟩) | (gi_at_builtin; refine wpListIn_append1 (α := Ltr) rfl (.tmp 38) (.tmp 42) 29 rfl w6.heap.size 89 i0 _ 24 Tryz.underlying29 hi hi0 hi1 hi2 rfl (by decide) (.slice A m cp) (gotLt pre) ⟨nv, q⟩ rfl (o2.alloc _) ⟨W2.heap.size, 0, none⟩ 1 (Ltr.cells ⟨nv, q⟩) rfl ⟨HY.out, rfl⟩ (news_at W2 _ (Ltr.cells ⟨nv, q⟩)) (by unfold maxLen; omega) (by omega) (by simp; omega) ?_; intro v5 w5 o5 hg5; have u2 : Boxed w5 _ _ _ := (z2.alloc _).kept hg5 (fun e => by have := (o2.blk _ e.symm).1; omega); have e2 := u2.cell; have g2 := u2.frozen; obtain ⟨A5, n5, c5, rfl, -, -, -, -⟩ := o5.rd))
            have hk5 : ∀ k, k < w6.heap.size → k ≠ w.heap.size + 1 + 1 → (w5.setCell ⟨w.heap.size + 1 + 1, 0, none⟩ (.slice A5 n5 c5)).heap[k]? = W.heap[k]? := fun k h1 h2 => by
              have a1 := (grownBy_setCell' w5 (w.heap.size + 1 + 1) (.slice A5 n5 c5)).block k (by have := hg5.size; simp at this; omega) (fun e => h2 (by injection e))
              have a2 := hg5.block k (by simp; omega) (fun e => by have := (o2.blk _ e.symm).1; omega)
              exact a1.trans (a2.trans ((Below.heap_alloc W2 _ k (by omega)).trans (hb.block k (by omega))))
            have hko : KeepsOthers W (w5.setCell ⟨w.heap.size + 1 + 1, 0, none⟩ (.slice A5 n5 c5)) := (((keeps_below hb).trans (KeepsOthers.alloc W2 _)).trans (KeepsOthers.of_grownBy hg5 fun j o ej hj => by
              obtain ⟨o', h1, h2⟩ := own_isCells (o2.alloc (Obj.cells #[.int .i64 nv, .string q] 89)) ej
              rw [h1] at hj; injection hj with hj; rw [← hj]; exact h2)).trans (KeepsOthers.setCell _ _ _)
            refine ⟨hko, fun k hk => hk5 k (by simp at hk; omega) (by simp at hk; omega), ⟨_, u2.set _, ?_⟩, ?_, ?_, ?_, ?_, ?_, ?_⟩
            · rw [gotLt_snoc HP.out]
              exact own_out o5 ⟨w.heap.size + 1 + 1, 0, none⟩ _ (by show w.heap.size + 1 + 1 < _; omega)
            · have := hg5.size; simp at this; simp; omega
            · rw [allLt_snoc, hall, HP.out]; rfl
            · have := HPL.out; rw [List.length_append]; show pre.length + 1 ≤ 60; omega
            · exact (hk5 _ (by omega) (by omega)).trans y0c.out
            · exact (hk5 _ (by omega) (by omega)).trans y1c.out
            · refine hB.trans ⟨?_, ?_, ?_, ?_, fun k h1 => hk5 k (by omega) (by omega)⟩
              · exact hg5.os.trans hb.os
              · exact hg5.tape.trans hb.tape
              · exact hg5.output.trans hb.output
              · exact hko.1
    case done =>
      rintro D ys W hD rfl ⟨⟨v, hv, ho⟩, hBW, hall, hlen, y0, y1, hB⟩ hK
      have hPS : pbSome t = sEq (fmtB (gotLt (partsB 32 t))) t := by unfold pbSome pbParts; rw [hall, decide_eq_true hlen]; rfl
      obtain ⟨A, m, cp, rfl, -, -, -, -⟩ := ho.rd
      have HV := impl_FormatBatch (.slice A m cp) (gotLt (partsB 32 t)) W ho.rd (HTB.out.on hB)
      have hfz := fmtB_size (gotLt (partsB 32 t))
      have y0c := Lib.hid y0; have y1c := Lib.hid y1; have hvc := Lib.hid hv; have hoc := Lib.hid ho
      have c2 := hv.cell
      clear hall hlen ho hv y0 y1
      obtain ⟨F, hFe⟩ : ∃ F, fmtB (gotLt (partsB 32 t)) = F := ⟨_, rfl⟩
      rw [hFe] at HV hPS hfz
      clear hFe
      cases hro : sEq F t
      · rw [hro] at hPS
        have HPS := Lib.hid hPS
        have hq : (F.toList == t.toList) = false := by unfold sEq at hro; exact hro
        clear hPS hro
        dsimp only
        gi_wp2_with (refine ⟨trivial, ?_⟩; gi_at_call 12; refine (callsIn_wide.2 HV).mono ?_; rintro e W2 ⟨rfl, hb⟩; have z0 : Boxed W2 _ _ _ := (hb.block _ y0c.out.lt).trans y0c.out; have z1 : Boxed W2 _ _ _ := (hb.block _ y1c.out.lt).trans y1c.out; have z2 : Boxed W2 _ _ _ := (hb.block _ hvc.out.lt).trans hvc.out; have c0 := z0.cell; have c1 := z1.cell; have c2 := z2.cell; have f0 := z0.frozen; have f1 := z1.frozen)
        obtain ⟨r0, r1, r2, r3⟩ := set_two z0 z1 (.slice none 0 0) (.bool false)
        have hD2 : ((W2.setCell ⟨w.heap.size, 0, none⟩ (.slice none 0 0)).setCell ⟨w.heap.size + 1, 0, none⟩ (.bool false)).heap[D]? = some (.deferred (some [])) := r2.same _ _ ((keeps_below hb).same _ _ hK rfl) rfl
        have k0 := (r0.kept (grownBy_putObj' ((W2.setCell ⟨w.heap.size, 0, none⟩ (.slice none 0 0)).setCell ⟨w.heap.size + 1, 0, none⟩ (.bool false)) D (.deferred none)) (fun e => by injection e; omega)).cell
        have k1 := (r1.kept (grownBy_putObj' ((W2.setCell ⟨w.heap.size, 0, none⟩ (.slice none 0 0)).setCell ⟨w.heap.size + 1, 0, none⟩ (.bool false)) D (.deferred none)) (fun e => by injection e; omega)).cell
        have hBz : Below w.heap.size w (((W2.setCell ⟨w.heap.size, 0, none⟩ (.slice none 0 0)).setCell ⟨w.heap.size + 1, 0, none⟩ (.bool false)).putObj D (.deferred none)) := ((hB.trans (hb.mono hB.size)).trans (r3 _ (Nat.le_refl _))).grown (grownBy_putObj' _ _ _) (by have := ((hB.trans (hb.mono hB.size)).trans (r3 _ (Nat.le_refl _))).size; omega) (fun r e => by injection e; omega)
        refine ⟨by simp, .inl ⟨_, _, rfl, run_takeDeferred hD2, ?_⟩⟩
        refine ⟨.tuple #[.slice none 0 0, .bool false], by simp [results, Tryz.results133, go_sem, k0, k1], _, by rw [HO.out, HPS.out], by rw [HR.out, HPS.out]; exact own.nil_ _ _ _, hBz⟩
      · rw [hro] at hPS
        have HPS := Lib.hid hPS
        have hq : (F.toList == t.toList) = true := by unfold sEq at hro; exact hro
        clear hPS hro
        dsimp only
        gi_wp2_with (refine ⟨trivial, ?_⟩; gi_at_call 12; refine (callsIn_wide.2 HV).mono ?_; rintro e W2 ⟨rfl, hb⟩; have z0 : Boxed W2 _ _ _ := (hb.block _ y0c.out.lt).trans y0c.out; have z1 : Boxed W2 _ _ _ := (hb.block _ y1c.out.lt).trans y1c.out; have z2 : Boxed W2 _ _ _ := (hb.block _ hvc.out.lt).trans hvc.out; have c0 := z0.cell; have c1 := z1.cell; have c2 := z2.cell; have f0 := z0.frozen; have f1 := z1.frozen)
        obtain ⟨r0, r1, r2, r3⟩ := set_two z0 z1 (.slice A m cp) (.bool true)
        have o2 := hoc.out.below hb
        have oz := own_out (own_out o2 ⟨w.heap.size, 0, none⟩ (.slice A m cp) (by show w.heap.size < _; omega)) ⟨w.heap.size + 1, 0, none⟩ (.bool true) (by show w.heap.size + 1 < _; omega)
        have hD2 : ((W2.setCell ⟨w.heap.size, 0, none⟩ (.slice A m cp)).setCell ⟨w.heap.size + 1, 0, none⟩ (.bool true)).heap[D]? = some (.deferred (some [])) := r2.same _ _ ((keeps_below hb).same _ _ hK rfl) rfl
        have k0 := (r0.kept (grownBy_putObj' ((W2.setCell ⟨w.heap.size, 0, none⟩ (.slice A m cp)).setCell ⟨w.heap.size + 1, 0, none⟩ (.bool true)) D (.deferred none)) (fun e => by injection e; omega)).cell
        have k1 := (r1.kept (grownBy_putObj' ((W2.setCell ⟨w.heap.size, 0, none⟩ (.slice A m cp)).setCell ⟨w.heap.size + 1, 0, none⟩ (.bool true)) D (.deferred none)) (fun e => by injection e; omega)).cell
        have hBz : Below w.heap.size w (((W2.setCell ⟨w.heap.size, 0, none⟩ (.slice A m cp)).setCell ⟨w.heap.size + 1, 0, none⟩ (.bool true)).putObj D (.deferred none)) := ((hB.trans (hb.mono hB.size)).trans (r3 _ (Nat.le_refl _))).grown (grownBy_putObj' _ _ _) (by have := ((hB.trans (hb.mono hB.size)).trans (r3 _ (Nat.le_refl _))).size; omega) (fun r e => by injection e; omega)
        refine ⟨by simp, .inl ⟨_, _, rfl, run_takeDeferred hD2, ?_⟩⟩
        refine ⟨.tuple #[.slice A m cp, .bool true], by simp [results, Tryz.results133, go_sem, k0, k1], _, by rw [HO.out, HPS.out], by rw [HR.out, HPS.out, if_pos rfl]; exact (oz.grown (grownBy_putObj' _ D _) (own_notD oz hD2)).base_ (by omega), hBz⟩
    case stop =>
      rintro D pre W hD hpre ⟨hbad, y0, y1, hB⟩ hK
      have hPS : pbSome t = false := by
        unfold pbSome pbParts
        rcases hbad with h | h
        · rw [allLt_prefix hpre h]; rfl
        · have := hpre.length_le
          rw [decide_eq_false (by omega)]
          simp
      have HPS := Lib.hid hPS
      have k0 := (y0.kept (grownBy_putObj' W D (.deferred none)) (fun e => by injection e; omega)).cell
      have k1 := (y1.kept (grownBy_putObj' W D (.deferred none)) (fun e => by injection e; omega)).cell
      have hBz : Below w.heap.size w (W.putObj D (.deferred none)) := hB.grown (grownBy_putObj' _ _ _) hB.size (fun r e => by injection e; omega)
      clear hPS hbad hpre
      dsimp only
      gi_wp2
      refine ⟨by simp, .inl ⟨_, _, rfl, run_takeDeferred hK, ?_⟩⟩
      refine ⟨.tuple #[.slice none 0 0, .bool false], by simp [results, Tryz.results133, go_sem, k0, k1], _, by rw [HO.out, HPS.out], by rw [HR.out, HPS.out]; exact own.nil_ _ _ _, hBz⟩

end Go.Proofs.YtpinkbodbedajaaGreatDoor

namespace Go.Proofs.YtpinkbodbedajaaGreatDoor
open Go.RowKit Go.Shelf
attribute [local go_sem] Oper.semAt_some

theorem Tryz.infoFo : (Tryz.prog.info? 94).map (fun i => (i.zero, i.size, i.bytes)) = some (some (.agg #[.string ⟨#[]⟩, .string ⟨#[]⟩]), 2, 32) := by kernel_rfl
def pfSome (t : ByteArray) : Bool := allR (partsB 32 t) && decide ((partsB 32 t).length ≤ 30) && fwdsOk (gotR (partsB 32 t))
def pfOk (t : ByteArray) : Bool := sEq t ⟨#[45]⟩ || pfSome t
def pfF (t : ByteArray) : List Fwd := if sEq t ⟨#[45]⟩ then [] else if pfSome t then gotR (partsB 32 t) else []

/-- What lies between two rounds. -/
def pfI (h : Nat) (w0 : World) (B : Nat) (pre : List ByteArray) (W : World) : Prop :=
  (∃ v, Boxed W (h + 1 + 1) 26 v ∧ own 94 B W v (gotR pre)) ∧ B ≤ W.heap.size ∧ allR pre = true ∧ pre.length ≤ 30 ∧ Boxed W h 26 (.slice none 0 0) ∧ Boxed W (h + 1) 4 (.bool false) ∧ Below h w0 W
/-- .. where a round has returned. -/
def pfX (h : Nat) (w0 : World) (pre : List ByteArray) (W : World) : Prop :=
  (allR pre = false ∨ 30 < pre.length) ∧ Boxed W h 26 (.slice none 0 0) ∧ Boxed W (h + 1) 4 (.bool false) ∧ Below h w0 W
theorem pfI_bears {h B z : Nat} {w0 : World} (hz : h + 1 + 1 < z) (hzB : z < B) (hs : h ≤ w0.heap.size) : Bears B z (pfI h w0 B) := by
  rintro pre A C row ⟨⟨v, hv, ho⟩, h0, h1, h2, h3, h4, h5⟩ hg hr
  have ne : ∀ k, k < z → some k ≠ row := fun k hk e => by
    rcases hr k e.symm with h | ⟨h, _⟩ <;> omega
  refine ⟨⟨v, hv.kept hg (ne _ (by omega)), ho.grown hg ?_⟩, Nat.le_trans h0 hg.size, h1, h2, h3.kept hg (ne _ (by omega)), h4.kept hg (ne _ (by omega)), h5.grown hg (Nat.le_trans hs h5.size) fun k e => ?_⟩
  · cases hb : v.ownBlock with
    | none => exact .inl rfl
    | some k =>
      refine .inr fun e => ?_
      have hk := (ho.blk k hb).1
      rcases hr k e.symm with h | ⟨_, o, ho1, ho2⟩
      · omega
      · obtain ⟨o', ho3, ho4⟩ := own_isCells ho hb
        rw [ho3] at ho1
        injection ho1 with ho1
        rw [ho1, ho2] at ho4
        cases ho4
  · rcases hr k e with h | ⟨h, _⟩ <;> omega
theorem pfX_bears {h B z : Nat} {w0 : World} (hz : h + 1 + 1 < z) (hzB : z < B) (hs : h ≤ w0.heap.size) : Bears B z (pfX h w0) := by
  rintro pre A C row ⟨h1, h3, h4, h5⟩ hg hr
  have ne : ∀ k, k < z → some k ≠ row := fun k hk e => by
    rcases hr k e.symm with h | ⟨h, _⟩ <;> omega
  refine ⟨h1, h3.kept hg (ne _ (by omega)), h4.kept hg (ne _ (by omega)), h5.grown hg (Nat.le_trans hs h5.size) fun k e => ?_⟩
  rcases hr k e with h | ⟨h, _⟩ <;> omega

set_option maxRecDepth 100000 in
set_option maxHeartbeats 3200000 in
theorem impl_ParseForwards (t : ByteArray) (w : World) (ht : t.size ≤ maxLen) :
    Calls Tryz.prog 199 #[.string t] w fun e w' => ∃ v', e = .returned (.tuple #[v', .bool (pfOk t)]) ∧ own 94 w.heap.size w' v' (pfF t) ∧ Below w.heap.size w w' := by
  refine (callsIn_wide (n := 9)).1 ?_
  have hn9 : 1 ≤ 9 := by omega
  refine callsIn_of_wp_marks Tryz.func199 rfl trivial ?_ rfl
  simp only [Tryz.ntmps199, List.size_toArray, List.length_cons, List.length_nil, Nat.reduceAdd, Nat.reduceSub, Array.replicate_succ, Array.replicate_zero, List.push_toArray, List.append_toArray, List.nil_append, List.cons_append]
  by_cases h45 : sEq t ⟨#[45]⟩ = true
  · have hO : pfOk t = true := by unfold pfOk; rw [h45]; rfl
    have hR : pfF t = [] := by unfold pfF; rw [if_pos h45]
    have HO := Lib.hid hO; have HR := Lib.hid hR
    clear hO hR
    have h46 : (t.toList == [45]) = true := by unfold sEq at h45; rw [ByteArray.toList_eq ⟨#[45]⟩] at h45; exact h45
    clear h45
    gi_wp2
    refine ⟨.tuple #[.slice none 0 0, .bool true], by simp [results, Tryz.results199, go_sem], _, by rw [HO.out], by rw [HR.out]; exact own.nil_ _ _ _, ?_⟩
    exact ((Below.refl _ w).alloc (Nat.le_refl _) _).alloc (by simp) _
  · have h46 : (t.toList == [45]) = false := by rw [Bool.not_eq_true] at h45; unfold sEq at h45; rw [ByteArray.toList_eq ⟨#[45]⟩] at h45; exact h45
    have HO : Hid (pfOk t = pfSome t) := by show _ = _; unfold pfOk; rw [Bool.not_eq_true] at h45; rw [h45]; rfl
    have HR : Hid (pfF t = if pfSome t then gotR (partsB 32 t) else []) := by show _ = _; unfold pfF; rw [if_neg h45]
    clear h45
    have HS := fun W => strings_SplitSeq t 32 W
    have b0 := ((Boxed.new w 26 (.slice none 0 0)).alloc (Obj.cells #[.bool false] 4)).alloc (Obj.cells #[.slice none 0 0] 26)
    have b1 := (Boxed.new (w.alloc (Obj.cells #[.slice none 0 0] 26)) 4 (.bool false)).alloc (Obj.cells #[.slice none 0 0] 26)
    have b2 := Boxed.new ((w.alloc (Obj.cells #[.slice none 0 0] 26)).alloc (Obj.cells #[.bool false] 4)) 26 (.slice none 0 0)
    have l3 : Below w.heap.size w (((w.alloc (Obj.cells #[.slice none 0 0] 26)).alloc (Obj.cells #[.bool false] 4)).alloc (Obj.cells #[.slice none 0 0] 26)) := (((Below.refl _ w).alloc (Nat.le_refl _) _).alloc (by simp) _).alloc (by simp; omega) _
    rw [World.size_alloc] at b1 b2
    rw [World.size_alloc] at b2
    have B0 := Lib.hid b0; have B1 := Lib.hid b1; have B2 := Lib.hid b2; have L3 := Lib.hid l3
    clear b0 b1 b2 l3
    gi_wp2_with (refine ⟨trivial, ?_⟩; gi_at_call 196; refine (callsIn_wide.2 (HS _)).mono ?_; rintro e w6 ⟨rfl, hcap, hb6, hz6⟩)
    have hz3 : (((w.alloc (Obj.cells #[.slice none 0 0] 26)).alloc (Obj.cells #[.bool false] 4)).alloc (Obj.cells #[.slice none 0 0] 26)).heap.size = w.heap.size + 1 + 1 + 1 := by simp
    generalize (((w.alloc (Obj.cells #[.slice none 0 0] 26)).alloc (Obj.cells #[.bool false] 4)).alloc (Obj.cells #[.slice none 0 0] 26)) = w3 at *
    rw [hz3] at hcap hz6
    have x0 : Boxed w6 (w.heap.size) 26 (.slice none 0 0) := (hb6.block _ (by omega)).trans B0.out
    have x1 : Boxed w6 (w.heap.size + 1) 4 (.bool false) := (hb6.block _ (by omega)).trans B1.out
    have x2 : Boxed w6 (w.heap.size + 1 + 1) 26 (.slice none 0 0) := (hb6.block _ (by omega)).trans B2.out
    have l6 : Below w.heap.size w w6 := L3.out.trans (hb6.mono (by omega))
    clear B0 B1 B2 L3 hb6 HS hz3
    obtain ⟨i0, hi, hi0, hi1, hi2⟩ := info_parts Tryz.infoFo
    refine range_iterZ (F := Fence.wide) (n := 9) rfl (by omega) (gf := 278) (lb := #[.pointer (some ⟨w.heap.size + 1 + 1 + 1 + 1, 0, none⟩), .pointer (some ⟨w.heap.size + 1 + 1 + 1, 0, none⟩), .pointer (some ⟨w.heap.size + 1 + 1 + 1 + 2, 0, none⟩)]) rfl trivial (enters_of Tryz.func278 (by kernel_rfl) rfl)
      (split_iter 8 (w.heap.size + 1 + 1 + 1) (by omega) 32 t w6 hcap ht) (fun k hk => by simp at hk; omega) (by omega) (fun _ => rfl)
      (pfI w.heap.size w w6.heap.size) (pfX w.heap.size w) (pfI_bears (by omega) (by omega) (Nat.le_refl _)) (pfX_bears (by omega) (by omega) (Nat.le_refl _))
      ⟨⟨_, x2, own.nil_ _ _ _⟩, Nat.le_refl _, rfl, Nat.zero_le _, x0, x1, l6⟩
      (fun x => { tmps := #[.string t, undef, .pointer (some ⟨w.heap.size, 0, none⟩), .pointer (some ⟨w.heap.size + 1, 0, none⟩), .pointer (some ⟨w.heap.size + 1 + 1, 0, none⟩), .string x, undef, undef, undef, .string t, .bool false, .string t, .func (.func 278) #[] #[.pointer (some ⟨w.heap.size + 1 + 1 + 1 + 1, 0, none⟩), .pointer (some ⟨w.heap.size + 1 + 1 + 1, 0, none⟩), .pointer (some ⟨w.heap.size + 1 + 1 + 1 + 2, 0, none⟩)], .string x, undef, undef, undef, undef, undef, undef, undef, undef, undef, undef, undef, undef, undef, undef, undef, undef, undef, undef, undef, undef, undef, undef, undef], defers := [] }) ?assign ?body ?done ?stop
    case assign =>
      intro l x W K hK
      gi_wp2
      exact hK
    case body =>
      rintro l pre x W ⟨⟨v, hv, ho⟩, hBW, hall, hlen, y0, y1, hB⟩ _ hx
      have hd : 1 ≤ 9 - 1 - 1 := by omega
      have HC := strings_Cut1 x 62 W hx
      have y0c := Lib.hid y0; have y1c := Lib.hid y1; have hvc := Lib.hid hv; have hoc := Lib.hid ho
      rcases hcx : cutAt 62 x with _ | ⟨p, q⟩
      · have HCn : Calls Tryz.prog 130 #[.string x, .string ⟨#[62]⟩] W fun e w' => Below W.heap.size W w' ∧ e = .returned (.tuple #[.string x, .string ⟨#[]⟩, .bool false]) := HC.mono fun e w' h => by
          obtain ⟨hb, ⟨_, he⟩ | ⟨p, q, h, _⟩⟩ := h
          · exact ⟨hb, he⟩
          · rw [hcx] at h; cases h
        have HP : Hid (allR (pre ++ [x]) = false) := by show _ = _; rw [allR_snoc]; unfold partR; rw [hcx]; simp
        clear HC hcx y0 y1 hv ho
        gi_wp2_with (refine ⟨trivial, ?_⟩; gi_at_call 130; refine (CallsIn.inRound l (callsIn_wide.2 HCn)).mono ?_; rintro e W2 ⟨hb, rfl⟩; have z0 : Boxed W2 _ _ _ := (hb.block _ y0c.out.lt).trans y0c.out; have z1 : Boxed W2 _ _ _ := (hb.block _ y1c.out.lt).trans y1c.out; have c0 := z0.cell; have c1 := z1.cell; have f0 := z0.frozen; have f1 := z1.frozen)
        obtain ⟨r0, r1, r2, r3⟩ := set_two z0 z1 (.slice none 0 0) (.bool false)
        exact ⟨(keeps_below hb).trans r2, .inl HP.out, r0, r1, (hB.trans (hb.mono hB.size)).trans (r3 _ (Nat.le_refl _))⟩
      · have HCn : Calls Tryz.prog 130 #[.string x, .string ⟨#[62]⟩] W fun e w' => Below W.heap.size W w' ∧ e = .returned (.tuple #[.string p, .string q, .bool true]) := HC.mono fun e w' h => by
          obtain ⟨hb, ⟨h, _⟩ | ⟨p', q', h, he⟩⟩ := h
          · rw [hcx] at h; cases h
          · rw [hcx] at h; cases h; exact ⟨hb, he⟩
        have hpx : partR x = some ⟨p, q⟩ := by unfold partR; rw [hcx]; rfl
        have hpq := cut_sizes hcx
        have HP := Lib.hid hpx
        have hgl := gotR_len pre hall
        obtain ⟨A, m, cp, rfl, hm, _, _, _⟩ := ho.rd
        clear HC hcx hpx y0 y1 hv ho
        by_cases h20 : m = 30
        · have hm20 : ((m : Int) == 30) = true := by simp [h20]
          have HL : Hid (30 < (pre ++ [x]).length) := by show _ < _; rw [List.length_append]; show 30 < pre.length + 1; omega
          clear h20 hm hgl hpq
          gi_wp2_with (refine ⟨trivial, ?_⟩; gi_at_call 130; refine (CallsIn.inRound l (callsIn_wide.2 HCn)).mono ?_; rintro e W2 ⟨hb, rfl⟩; have z0 : Boxed W2 _ _ _ := (hb.block _ y0c.out.lt).trans y0c.out; have z1 : Boxed W2 _ _ _ := (hb.block _ y1c.out.lt).trans y1c.out; have z2 : Boxed W2 _ _ _ := (hb.block _ hvc.out.lt).trans hvc.out; have c0 := z0.cell; have c1 := z1.cell; have c2 := z2.cell; have f0 := z0.frozen; have f1 := z1.frozen)
          obtain ⟨r0, r1, r2, r3⟩ := set_two z0 z1 (.slice none 0 0) (.bool false)
          exact ⟨(keeps_below hb).trans r2, .inr HL.out, r0, r1, (hB.trans (hb.mono hB.size)).trans (r3 _ (Nat.le_refl _))⟩
        · have hm20 : ((m : Int) == 30) = false := beq_eq_false_iff_ne.2 (by omega)
          have hg19 : (gotR pre).length ≤ 29 := by omega
          have HPL : Hid (pre.length ≤ 29) := by show _ ≤ _; omega
          have HY : Hid (Fwd.ok ⟨p, q⟩) := ⟨by show p.size ≤ _; omega, by show q.size ≤ _; omega⟩
          clear h20 hm hgl hpq
          gi_wp2_with (first | (refine ⟨trivial, ?_⟩; gi_at_call 130; refine (CallsIn.inRound l (callsIn_wide.2 HCn)).mono ?_; rintro e W2 ⟨hb, rfl⟩; have z0 : Boxed W2 _ _ _ := (hb.block _ y0c.out.lt).trans y0c.out; have z1 : Boxed W2 _ _ _ := (hb.block _ y1c.out.lt).trans y1c.out; have z2 : Boxed W2 _ _ _ := (hb.block _ hvc.out.lt).trans hvc.out; have c2 := z2.cell; have o2 := hoc.out.below hb; have hs2 := hb.size) | (gi_at_builtin; refine wpListIn_append1 (α := Fwd) rfl (.tmp 27) (.tmp 31) 26 rfl w6.heap.size 94 i0 _ 32 Tryz.underlying26 hi hi0 hi1 hi2 rfl (by decide) (.slice A m cp) (gotR pre) ⟨p, q⟩ rfl (o2.alloc _) ⟨W2.heap.size, 0, none⟩ 1 (Fwd.cells ⟨p, q⟩) rfl ⟨HY.out, rfl⟩ (news_at W2 _ (Fwd.cells ⟨p, q⟩)) (by unfold maxLen; omega) (by omega) (by simp; omega) ?_; intro v5 w5 o5 hg5; have u2 : Boxed w5 _ _ _ := (z2.alloc _).kept hg5 (fun e => by have := (o2.blk _ e.symm).1; omega); have e2 := u2.cell; have g2 := u2.frozen; obtain ⟨A5, n5, c5, rfl, -, -, -, -⟩ := o5.rd))
          have hk5 : ∀ k, k < w6.heap.size → k ≠ w.heap.size + 1 + 1 → (w5.setCell ⟨w.heap.size + 1 + 1, 0, none⟩ (.slice A5 n5 c5)).heap[k]? = W.heap[k]? := fun k h1 h2 => by
            have a1 := (grownBy_setCell' w5 (w.heap.size + 1 + 1) (.slice A5 n5 c5)).block k (by have := hg5.size; simp at this; omega) (fun e => h2 (by injection e))
            have a2 := hg5.block k (by simp; omega) (fun e => by have := (o2.blk _ e.symm).1; omega)
            exact a1.trans (a2.trans ((Below.heap_alloc W2 _ k (by omega)).trans (hb.block k (by omega))))
          have hko : KeepsOthers W (w5.setCell ⟨w.heap.size + 1 + 1, 0, none⟩ (.slice A5 n5 c5)) := (((keeps_below hb).trans (KeepsOthers.alloc W2 _)).trans (KeepsOthers.of_grownBy hg5 fun j o ej hj => by
            obtain ⟨o', h1, h2⟩ := own_isCells (o2.alloc (Obj.cells #[.string p, .string q] 94)) ej
            rw [h1] at hj; injection hj with hj; rw [← hj]; exact h2)).trans (KeepsOthers.setCell _ _ _)
          refine ⟨hko, fun k hk => hk5 k (by simp at hk; omega) (by simp at hk; omega), ⟨_, u2.set _, ?_⟩, ?_, ?_, ?_, ?_, ?_, ?_⟩
          · rw [gotR_snoc HP.out]
            exact own_out o5 ⟨w.heap.size + 1 + 1, 0, none⟩ _ (by show w.heap.size + 1 + 1 < _; omega)
          · have := hg5.size; simp at this; simp; omega
          · rw [allR_snoc, hall, HP.out]; rfl
          · have := HPL.out; rw [List.length_append]; show pre.length + 1 ≤ 30; omega
          · exact (hk5 _ (by omega) (by omega)).trans y0c.out
          · exact (hk5 _ (by omega) (by omega)).trans y1c.out
          · refine hB.trans ⟨?_, ?_, ?_, ?_, fun k h1 => hk5 k (by omega) (by omega)⟩
            · exact hg5.os.trans hb.os
            · exact hg5.tape.trans hb.tape
            · exact hg5.output.trans hb.output
            · exact hko.1
    case done =>
      rintro D ys W hD rfl ⟨⟨v, hv, ho⟩, hBW, hall, hlen, y0, y1, hB⟩ hK
      have hPS : pfSome t = fwdsOk (gotR (partsB 32 t)) := by unfold pfSome; rw [hall, decide_eq_true hlen]; rfl
      obtain ⟨A, m, cp, rfl, -, -, -, -⟩ := ho.rd
      have HV := impl_ForwardsValid (.slice A m cp) (gotR (partsB 32 t)) W ho.rd
      have y0c := Lib.hid y0; have y1c := Lib.hid y1; have hvc := Lib.hid hv; have hoc := Lib.hid ho
      have c2 := hv.cell
      clear hall hlen ho hv y0 y1
      cases hro : fwdsOk (gotR (partsB 32 t))
      · rw [hro] at HV hPS
        have HPS := Lib.hid hPS
        clear hPS hro
        dsimp only
        gi_wp2_with (refine ⟨trivial, ?_⟩; gi_at_call 59; refine (callsIn_wide.2 HV).mono ?_; rintro e W2 ⟨rfl, hb⟩; have z0 : Boxed W2 _ _ _ := (hb.block _ y0c.out.lt).trans y0c.out; have z1 : Boxed W2 _ _ _ := (hb.block _ y1c.out.lt).trans y1c.out; have z2 : Boxed W2 _ _ _ := (hb.block _ hvc.out.lt).trans hvc.out; have c0 := z0.cell; have c1 := z1.cell; have c2 := z2.cell; have f0 := z0.frozen; have f1 := z1.frozen)
        obtain ⟨r0, r1, r2, r3⟩ := set_two z0 z1 (.slice none 0 0) (.bool false)
        have hD2 : ((W2.setCell ⟨w.heap.size, 0, none⟩ (.slice none 0 0)).setCell ⟨w.heap.size + 1, 0, none⟩ (.bool false)).heap[D]? = some (.deferred (some [])) := r2.same _ _ ((keeps_below hb).same _ _ hK rfl) rfl
        have k0 := (r0.kept (grownBy_putObj' ((W2.setCell ⟨w.heap.size, 0, none⟩ (.slice none 0 0)).setCell ⟨w.heap.size + 1, 0, none⟩ (.bool false)) D (.deferred none)) (fun e => by injection e; omega)).cell
        have k1 := (r1.kept (grownBy_putObj' ((W2.setCell ⟨w.heap.size, 0, none⟩ (.slice none 0 0)).setCell ⟨w.heap.size + 1, 0, none⟩ (.bool false)) D (.deferred none)) (fun e => by injection e; omega)).cell
        have hBz : Below w.heap.size w (((W2.setCell ⟨w.heap.size, 0, none⟩ (.slice none 0 0)).setCell ⟨w.heap.size + 1, 0, none⟩ (.bool false)).putObj D (.deferred none)) := ((hB.trans (hb.mono hB.size)).trans (r3 _ (Nat.le_refl _))).grown (grownBy_putObj' _ _ _) (by have := ((hB.trans (hb.mono hB.size)).trans (r3 _ (Nat.le_refl _))).size; omega) (fun r e => by injection e; omega)
        refine ⟨by simp, .inl ⟨_, _, rfl, run_takeDeferred hD2, ?_⟩⟩
        refine ⟨.tuple #[.slice none 0 0, .bool false], by simp [results, Tryz.results199, go_sem, k0, k1], _, by rw [HO.out, HPS.out], by rw [HR.out, HPS.out]; exact own.nil_ _ _ _, hBz⟩
      · rw [hro] at HV hPS
        have HPS := Lib.hid hPS
        clear hPS hro
        dsimp only
        gi_wp2_with (refine ⟨trivial, ?_⟩; gi_at_call 59; refine (callsIn_wide.2 HV).mono ?_; rintro e W2 ⟨rfl, hb⟩; have z0 : Boxed W2 _ _ _ := (hb.block _ y0c.out.lt).trans y0c.out; have z1 : Boxed W2 _ _ _ := (hb.block _ y1c.out.lt).trans y1c.out; have z2 : Boxed W2 _ _ _ := (hb.block _ hvc.out.lt).trans hvc.out; have c0 := z0.cell; have c1 := z1.cell; have c2 := z2.cell; have f0 := z0.frozen; have f1 := z1.frozen)
        obtain ⟨r0, r1, r2, r3⟩ := set_two z0 z1 (.slice A m cp) (.bool true)
        have o2 := hoc.out.below hb
        have oz := own_out (own_out o2 ⟨w.heap.size, 0, none⟩ (.slice A m cp) (by show w.heap.size < _; omega)) ⟨w.heap.size + 1, 0, none⟩ (.bool true) (by show w.heap.size + 1 < _; omega)
        have hD2 : ((W2.setCell ⟨w.heap.size, 0, none⟩ (.slice A m cp)).setCell ⟨w.heap.size + 1, 0, none⟩ (.bool true)).heap[D]? = some (.deferred (some [])) := r2.same _ _ ((keeps_below hb).same _ _ hK rfl) rfl
        have k0 := (r0.kept (grownBy_putObj' ((W2.setCell ⟨w.heap.size, 0, none⟩ (.slice A m cp)).setCell ⟨w.heap.size + 1, 0, none⟩ (.bool true)) D (.deferred none)) (fun e => by injection e; omega)).cell
        have k1 := (r1.kept (grownBy_putObj' ((W2.setCell ⟨w.heap.size, 0, none⟩ (.slice A m cp)).setCell ⟨w.heap.size + 1, 0, none⟩ (.bool true)) D (.deferred none)) (fun e => by injection e; omega)).cell
        have hBz : Below w.heap.size w (((W2.setCell ⟨w.heap.size, 0, none⟩ (.slice A m cp)).setCell ⟨w.heap.size + 1, 0, none⟩ (.bool true)).putObj D (.deferred none)) := ((hB.trans (hb.mono hB.size)).trans (r3 _ (Nat.le_refl _))).grown (grownBy_putObj' _ _ _) (by have := ((hB.trans (hb.mono hB.size)).trans (r3 _ (Nat.le_refl _))).size; omega) (fun r e => by injection e; omega)
        refine ⟨by simp, .inl ⟨_, _, rfl, run_takeDeferred hD2, ?_⟩⟩
        refine ⟨.tuple #[.slice A m cp, .bool true], by simp [results, Tryz.results199, go_sem, k0, k1], _, by rw [HO.out, HPS.out], by rw [HR.out, HPS.out, if_pos rfl]; exact (oz.grown (grownBy_putObj' _ D _) (own_notD oz hD2)).base_ (by omega), hBz⟩
    case stop =>
      rintro D pre W hD hpre ⟨hbad, y0, y1, hB⟩ hK
      have hPS : pfSome t = false := by
        unfold pfSome
        rcases hbad with h | h
        · rw [allR_prefix hpre h]; rfl
        · have := hpre.length_le
          rw [decide_eq_false (by omega)]
          simp
      have HPS := Lib.hid hPS
      have k0 := (y0.kept (grownBy_putObj' W D (.deferred none)) (fun e => by injection e; omega)).cell
      have k1 := (y1.kept (grownBy_putObj' W D (.deferred none)) (fun e => by injection e; omega)).cell
      have hBz : Below w.heap.size w (W.putObj D (.deferred none)) := hB.grown (grownBy_putObj' _ _ _) hB.size (fun r e => by injection e; omega)
      clear hPS hbad hpre
      dsimp only
      gi_wp2
      refine ⟨by simp, .inl ⟨_, _, rfl, run_takeDeferred hK, ?_⟩⟩
      refine ⟨.tuple #[.slice none 0 0, .bool false], by simp [results, Tryz.results199, go_sem, k0, k1], _, by rw [HO.out, HPS.out], by rw [HR.out, HPS.out]; exact own.nil_ _ _ _, hBz⟩

end Go.Proofs.YtpinkbodbedajaaGreatDoor
