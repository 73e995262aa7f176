/- JC JD JE JF JG JH ZC ZD -/
import Derived.Test.YtpinkbodbedajaaGreatDoorQ20
import Derived.Test.YtpinkbodbedajaaGreatDoorQ31
import Derived.Deep.RegionHeld3
import Derived.Lib.LaidTab
import Derived.Shelf.Strings.Split
import Derived.Test.YtpinkbodbedajaaGreatDoorQ28
import Derived.Test.YtpinkbodbedajaaGreatDoorQ30
import Derived.Test.YtpinkbodbedajaaGreatDoorQ23
import Derived.Test.YtpinkbodbedajaaGreatDoorQ29
namespace Go.Proofs.YtpinkbodbedajaaGreatDoor
open Go.RowKit

def numL (l : List UInt8) : Nat := l.foldl (fun n b => 10 * n + (b.toNat - 48)) 0
theorem numL_snoc (l : List UInt8) (b : UInt8) : numL (l ++ [b]) = 10 * numL l + (b.toNat - 48) := by
  unfold numL; rw [List.foldl_append]; rfl
theorem digs_take {l : List UInt8} (h : digs l = true) (k : Nat) : digs (l.take k) = true := by
  unfold digs at *
  exact List.all_eq_true.2 fun b hb => List.all_eq_true.1 h b (List.mem_of_mem_take hb)
theorem digs_drop {l : List UInt8} (h : digs l = true) (k : Nat) : digs (l.drop k) = true := by
  unfold digs at *
  exact List.all_eq_true.2 fun b hb => List.all_eq_true.1 h b (List.mem_of_mem_drop hb)
theorem numL_lt : ∀ (k : Nat) (l : List UInt8), digs l = true → l.length = k → numL l < 10 ^ k
  | 0, l, _, hl => by rw [List.eq_nil_of_length_eq_zero hl]; decide
  | k + 1, l, h, hl => by
    have e : l = l.take k ++ [l[k]] := by
      conv => lhs; rw [← List.take_append_drop k l, List.drop_eq_getElem_cons (by omega)]
      rw [List.drop_eq_nil_of_le (by omega)]
    have ih := numL_lt k (l.take k) (digs_take h k) (by rw [List.length_take]; omega)
    have hb := digs_mem h _ (List.getElem_mem (show k < l.length by omega))
    rw [e, numL_snoc, Nat.pow_succ]
    omega

set_option maxRecDepth 100000 in
set_option maxHeartbeats 800000 in
theorem impl_digitsNumber (s : ByteArray) (w : World) (hd : digs s.data.toList = true) (hz : s.size ≤ 17) :
    Calls Tryz.prog 248 #[.string s] w fun e w' => e = .returned (.int .i64 (numL s.data.toList : Int)) ∧ w = w' := by
  have HD := Lib.hid hd; clear hd
  go_enter Tryz.func248, Tryz.ntmps248
  go_wp2_with fail
  go_loop [3, 4] (fun t i => ∃ k : Nat, k ≤ s.size ∧ i = .int .i64 k ∧ t = .int .i64 (numL (s.data.toList.take k) : Int)) (fun _ i => s.size - (intOf i).toNat)
  case atStart => exact ⟨0, Nat.zero_le _, rfl, rfl⟩
  case round =>
    obtain ⟨k, hk, rfl, rfl⟩ := hrel
    by_cases hlt : k < s.size
    · have hlt' : k < s.data.toList.length := by simpa using hlt
      have hb := digs_mem HD.out s[k] (by
        have := List.getElem_mem hlt'
        exact this)
      have HS0 : numL (s.data.toList.take (k + 1)) = 10 * numL (s.data.toList.take k) + (s[k].toNat - 48) := by
        rw [List.take_succ_eq_append_getElem hlt', numL_snoc]
        rfl
      have hn := numL_lt k (s.data.toList.take k) (digs_take HD.out k) (by rw [List.length_take]; omega)
      have hp : 10 ^ k ≤ 10 ^ 16 := Nat.pow_le_pow_right (by decide) (by omega)
      obtain ⟨n, hnn⟩ : ∃ n, numL (s.data.toList.take k) = n := ⟨_, rfl⟩
      rw [hnn] at HS0 hn ⊢
      have hn16 : n ≤ 10000000000000000 := by omega
      clear hnn hn hp
      obtain ⟨b, hbe⟩ : ∃ b, s[k] = b := ⟨_, rfl⟩
      rw [hbe] at hb HS0
      obtain ⟨hb1, hb2⟩ := hb
      have HS := Lib.hid HS0; clear HS0
      have hki : (k : Int) < (s.size : Int) := by omega
      have w1 : IntKind.wrap .u8 ((b.toNat : Int) - 48) = (b.toNat : Int) - 48 := by simp [IntKind.wrap, IntKind.bits, IntKind.signed]; omega
      have w2 : IntKind.i64.wrap ((b.toNat : Int) - 48) = (b.toNat : Int) - 48 := IntWalk.i64_in _ (by omega)
      have w3 : IntKind.i64.wrap (10 * (n : Int)) = 10 * (n : Int) := IntWalk.i64_in _ (by omega)
      have w4 : IntKind.i64.wrap (10 * (n : Int) + ((b.toNat : Int) - 48)) = 10 * (n : Int) + ((b.toNat : Int) - 48) := IntWalk.i64_in _ (by omega)
      have hb1' : (48 : Int) ≤ (b.toNat : Int) := by omega
      have hb2' : (b.toNat : Int) ≤ 57 := by omega
      go_wp2_with fail
      go_round
      case rel => exact ⟨k + 1, by omega, by go_num, by rw [HS.out]; congr 1; omega⟩
      case measure => simp [intOf]; omega
    · have HE : Hid (s.data.toList.take k = s.data.toList) := List.take_of_length_le (by simp; omega)
      go_wp2_with fail
      go_ret
      exact ⟨ret_int (by rw [HE.out]), rfl⟩

def placeN (c : ByteArray) : Plc := ⟨(numL (c.extract 0 3).data.toList : Int), (numL (c.extract 3 5).data.toList : Int), (numL (c.extract 5 c.size).data.toList : Int)⟩
theorem Tryz.sizePlc : (Tryz.prog.info? 51).map (·.size) = some 3 := by kernel_rfl
set_option maxRecDepth 100000 in
set_option maxHeartbeats 1600000 in
theorem impl_PlaceOf_yes (c : ByteArray) (w : World) (hc : isCode c = true) :
    Calls Tryz.prog 281 #[.string c] w fun e w' => e = .returned (.tuple #[.agg #[.int .i64 (placeN c).area, .int .i64 (placeN c).walk, .int .i64 (placeN c).point], .bool true]) ∧ Below w.heap.size w w' := by
  obtain ⟨h7, _⟩ := code_mem hc
  have hdd : digs c.data.toList = true := by unfold isCode at hc; rw [Bool.and_eq_true] at hc; exact hc.2
  have hx : ∀ i j, j ≤ c.size → digs (c.extract i j).data.toList = true := fun i j hj => by
    rw [ByteArray.data_extract]
    have e : (c.data.extract i j).toList = (c.data.toList.take j).drop i := by simp [List.drop_take]
    rw [e]
    exact digs_drop (digs_take hdd j) i
  have H0 : Hid (∀ W : World, Calls Tryz.prog 248 #[.string (c.extract 0 3)] W fun e w' => e = .returned (.int .i64 (placeN c).area) ∧ W = w') := fun W => impl_digitsNumber _ W (hx 0 3 (by omega)) (by rw [ByteArray.size_extract]; omega)
  have H1 : Hid (∀ W : World, Calls Tryz.prog 248 #[.string (c.extract 3 5)] W fun e w' => e = .returned (.int .i64 (placeN c).walk) ∧ W = w') := fun W => impl_digitsNumber _ W (hx 3 5 (by omega)) (by rw [ByteArray.size_extract]; omega)
  have H2 : Hid (∀ W : World, Calls Tryz.prog 248 #[.string (c.extract 5 c.size)] W fun e w' => e = .returned (.int .i64 (placeN c).point) ∧ W = w') := fun W => impl_digitsNumber _ W (hx 5 c.size (by omega)) (by rw [ByteArray.size_extract]; omega)
  have HCV : Hid (∀ W : World, Calls Tryz.prog 75 #[.string c] W fun e w' => e = .returned (.bool true) ∧ W = w') := fun W => by
    have := impl_CodeValid c W (by unfold maxLen; omega)
    rw [hc] at this; exact this
  have g1 : (3 : Int) ≤ (c.size : Int) := by omega
  have g2 : (5 : Int) ≤ (c.size : Int) := by omega
  have HB0 := Lib.hid (heap_alloc_new w (Obj.cells #[.int .i64 0, .int .i64 0, .int .i64 0] 51))
  have HL0 : Hid (Below w.heap.size w (w.alloc (Obj.cells #[.int .i64 0, .int .i64 0, .int .i64 0] 51))) := (Below.refl _ _).alloc (Nat.le_refl _) _
  generalize placeN c = p at *
  clear hc h7 hdd hx
  go_enter Tryz.func281, Tryz.ntmps281
  go_wp2_with fail
  refine (HCV.out _).mono ?_
  rintro e _ ⟨rfl, rfl⟩
  go_wp2_with fail
  go_region_held3 (fun _ => True) (first | trivial | fail) (first | (go_at_call 248; first | ((with_reducible refine (H0.out _).mono ?_); rintro e _ ⟨rfl, rfl⟩) | ((with_reducible refine (H1.out _).mono ?_); rintro e _ ⟨rfl, rfl⟩) | ((with_reducible refine (H2.out _).mono ?_); rintro e _ ⟨rfl, rfl⟩) | fail) | fail)
  all_goals
    go_wp2_with fail
    refine ret_box1 rfl rfl (heap_alloc_new w (Obj.cells #[.int .i64 p.area, .int .i64 p.walk, .int .i64 p.point] 51)) Tryz.underlying51 rfl Tryz.sizePlc rfl ?_
    exact ⟨rfl, later_drew ((Below.refl w.heap.size w).alloc (Nat.le_refl _) _)⟩

end Go.Proofs.YtpinkbodbedajaaGreatDoor

namespace Go.Proofs.YtpinkbodbedajaaGreatDoor
open Go.RowKit

def digSum (l : List UInt8) : Nat := l.foldl (fun n b => n + (b.toNat - 48)) 0
theorem digSum_snoc (l : List UInt8) (b : UInt8) : digSum (l ++ [b]) = digSum l + (b.toNat - 48) := by
  unfold digSum; rw [List.foldl_append]; rfl
theorem digSum_le : ∀ (k : Nat) (l : List UInt8), digs l = true → l.length = k → digSum l ≤ 9 * k
  | 0, l, _, hl => by rw [List.eq_nil_of_length_eq_zero hl]; decide
  | k + 1, l, h, hl => by
    have e : l = l.take k ++ [l[k]] := by
      conv => lhs; rw [← List.take_append_drop k l, List.drop_eq_getElem_cons (by omega)]
      rw [List.drop_eq_nil_of_le (by omega)]
    have ih := digSum_le k (l.take k) (digs_take h k) (by rw [List.length_take]; omega)
    have hb := digs_mem h _ (List.getElem_mem (show k < l.length by omega))
    rw [e, digSum_snoc]
    omega

set_option maxRecDepth 100000 in
set_option maxHeartbeats 800000 in
theorem impl_digitSum (s : ByteArray) (w : World) (hd : digs s.data.toList = true) (hz : s.size ≤ 20) :
    Calls Tryz.prog 145 #[.string s] w fun e w' => e = .returned (.int .i64 (digSum s.data.toList : Int)) ∧ w = w' := by
  have HD := Lib.hid hd; clear hd
  go_enter Tryz.func145, Tryz.ntmps145
  go_wp2_with fail
  go_loop [3, 4] (fun t i => ∃ k : Nat, k ≤ s.size ∧ i = .int .i64 k ∧ t = .int .i64 (digSum (s.data.toList.take k) : Int)) (fun _ i => s.size - (intOf i).toNat)
  case atStart => exact ⟨0, Nat.zero_le _, rfl, rfl⟩
  case round =>
    obtain ⟨k, hk, rfl, rfl⟩ := hrel
    by_cases hlt : k < s.size
    · have hlt' : k < s.data.toList.length := by simpa using hlt
      have hb := digs_mem HD.out s[k] (by
        have := List.getElem_mem hlt'
        exact this)
      have HS0 : digSum (s.data.toList.take (k + 1)) = digSum (s.data.toList.take k) + (s[k].toNat - 48) := by
        rw [List.take_succ_eq_append_getElem hlt', digSum_snoc]
        rfl
      have hn := digSum_le k (s.data.toList.take k) (digs_take HD.out k) (by rw [List.length_take]; omega)
      obtain ⟨n, hnn⟩ : ∃ n, digSum (s.data.toList.take k) = n := ⟨_, rfl⟩
      rw [hnn] at HS0 hn ⊢
      have hn16 : n ≤ 180 := by omega
      clear hnn hn
      obtain ⟨b, hbe⟩ : ∃ b, s[k] = b := ⟨_, rfl⟩
      rw [hbe] at hb HS0
      obtain ⟨hb1, hb2⟩ := hb
      have HS := Lib.hid HS0; clear HS0
      have hki : (k : Int) < (s.size : Int) := by omega
      have w1 : IntKind.wrap .u8 ((b.toNat : Int) - 48) = (b.toNat : Int) - 48 := by simp [IntKind.wrap, IntKind.bits, IntKind.signed]; omega
      have w2 : IntKind.i64.wrap ((b.toNat : Int) - 48) = (b.toNat : Int) - 48 := IntWalk.i64_in _ (by omega)
      have w4 : IntKind.i64.wrap ((n : Int) + ((b.toNat : Int) - 48)) = (n : Int) + ((b.toNat : Int) - 48) := IntWalk.i64_in _ (by omega)
      have hb1' : (48 : Int) ≤ (b.toNat : Int) := by omega
      have hb2' : (b.toNat : Int) ≤ 57 := by omega
      go_wp2_with fail
      go_round
      case rel => exact ⟨k + 1, by omega, by go_num, by rw [HS.out]; congr 1; omega⟩
      case measure => simp [intOf]; omega
    · have HE : Hid (s.data.toList.take k = s.data.toList) := List.take_of_length_le (by simp; omega)
      go_wp2_with fail
      go_ret
      exact ⟨ret_int (by rw [HE.out]), rfl⟩

set_option maxRecDepth 100000 in
theorem impl_DigitsValid_yes (s : ByteArray) (w : World) (hd : digs s.data.toList = true) (hz : s.size ≤ 20) :
    Calls Tryz.prog 144 #[.string s] w fun e w' => e = .returned (.bool true) ∧ w = w' := by
  have HA : Hid (∀ W : World, Calls Tryz.prog 143 #[.string s] W fun e w' => e = .returned (.bool true) ∧ W = w') := fun W => by
    have := impl_allDigits s W (by unfold maxLen; omega)
    rw [hd] at this; exact this
  clear hd
  have hzi : (s.size : Int) ≤ 20 := by omega
  go_enter Tryz.func144, Tryz.ntmps144
  go_wp2_with (go_at_call 143; refine (HA.out _).mono ?_; rintro e w' ⟨rfl, rfl⟩)
  go_ret
  exact ⟨rfl, rfl⟩

def checkN (l : List UInt8) : Nat := (10 - digSum l % 10) % 10
theorem checkN_lt (l : List UInt8) : checkN l < 10 := Nat.mod_lt _ (by decide)
set_option maxRecDepth 100000 in
theorem impl_CheckDigit_yes (s : ByteArray) (w : World) (hd : digs s.data.toList = true) (hz : s.size ≤ 20) :
    Calls Tryz.prog 77 #[.string s] w fun e w' => e = .returned (.int .i64 (checkN s.data.toList : Int)) ∧ w = w' := by
  have HA := Lib.hid (fun W => impl_DigitsValid_yes s W hd hz)
  have HB := Lib.hid (fun W => impl_digitSum s W hd hz)
  have hn := digSum_le s.size s.data.toList hd (by simp)
  have HE : Hid (checkN s.data.toList = (10 - digSum s.data.toList % 10) % 10) := rfl
  generalize digSum s.data.toList = n at *
  generalize checkN s.data.toList = k at *
  have hn2 : n ≤ 180 := by omega
  clear hd hn
  go_enter Tryz.func77, Tryz.ntmps77
  go_wp2_with fail
  refine (HA.out _).mono ?_
  rintro e _ ⟨rfl, rfl⟩
  go_wp2_with (go_at_call 145; refine (HB.out _).mono ?_; rintro e _ ⟨rfl, rfl⟩)
  go_ret
  refine ⟨ret_int ?_, rfl⟩
  have := HE.out
  omega

theorem threeF {w : World} {g : Nat} {T : TypeId} {a b d : Value} (h : w.heap[g]? = some (.cells #[a, b, d] T (0, 0))) :
    w.cell? ⟨g, 0, none⟩ = some a ∧ w.cell? ⟨g, 1, none⟩ = some b ∧ w.cell? ⟨g, 2, none⟩ = some d ∧ w.frozen? ⟨g, 0, none⟩ = false ∧ w.frozen? ⟨g, 1, none⟩ = false ∧ w.frozen? ⟨g, 2, none⟩ = false :=
  ⟨by rw [cell_of_row _ _ _ _ _ _ h]; rfl, by rw [cell_of_row _ _ _ _ _ _ h]; rfl, by rw [cell_of_row _ _ _ _ _ _ h]; rfl, by simp [World.frozen?, h], by simp [World.frozen?, h], by simp [World.frozen?, h]⟩

set_option maxRecDepth 100000 in
set_option maxHeartbeats 800000 in
theorem impl_ParsePlace_yes (t c : ByteArray) (w : World) (hz : t.size = 9) (h3 : (t[3]'(by omega)).toNat = 45) (h6 : (t[6]'(by omega)).toNat = 45)
    (hc : t.extract 0 3 ++ t.extract 4 6 ++ t.extract 7 9 = c) (hcc : isCode c = true) :
    Calls Tryz.prog 256 #[.string t] w fun e w' => e = .returned (.tuple #[.agg #[.int .i64 (placeN c).area, .int .i64 (placeN c).walk, .int .i64 (placeN c).point], .bool true]) ∧ Below w.heap.size w w' := by
  have HP := Lib.hid (fun W => impl_PlaceOf_yes c W hcc)
  clear hcc
  generalize placeN c = p at *
  subst hc
  obtain ⟨w0, hw0⟩ : ∃ u, u = w.alloc (Obj.cells #[.int .i64 0, .int .i64 0, .int .i64 0] 51) := ⟨_, rfl⟩
  have HT := Lib.hid (box_later hw0).1
  have HB0 : Hid (w0.heap[w.heap.size]? = some (.cells #[.int .i64 0, .int .i64 0, .int .i64 0] 51 (0, 0))) := by rw [hw0]; exact heap_alloc_new w _
  have HW := Lib.hid hw0; clear hw0
  have g9 : (t.size : Int) = 9 := by omega
  have g3 : (((t[3]'(by omega)).toNat : Nat) : Int) = 45 := by omega
  have g6 : (((t[6]'(by omega)).toNat : Nat) : Int) = 45 := by omega
  go_enter Tryz.func256, Tryz.ntmps256
  go_wp2_with fail
  rw [← HW.out]
  go_region_held3 (fun _ => True) (first | trivial | fail) (first | (go_at_call 281; (with_reducible refine (HP.out _).mono ?_); rintro e w1 ⟨rfl, b1⟩; have hb1 := blk_below (w := w0.drew) HB0.out b1; obtain ⟨c0, c1, c2, f0, f1, f2⟩ := threeF hb1; have HB1 := Lib.hid hb1; clear hb1) | fail)
  all_goals
    clear c0 c1 c2 f0 f1 f2
    have K1 := Lib.hid (later_trans (later_drew HT.out) b1); clear b1
    go_wp2_with fail
    refine ret_box1 rfl rfl (three_set HB1.out) Tryz.underlying51 rfl Tryz.sizePlc rfl ?_
    exact ⟨rfl, later_set (later_set (later_set K1.out (Nat.le_refl _) _) (Nat.le_refl _) _) (Nat.le_refl _) _⟩

set_option maxRecDepth 100000 in
set_option maxHeartbeats 800000 in
theorem impl_codeOfText_yes (t : ByteArray) (p : Plc) (w : World)
    (HP : Hid (∀ W : World, Calls Tryz.prog 256 #[.string t] W fun e w' => e = .returned (.tuple #[.agg #[.int .i64 p.area, .int .i64 p.walk, .int .i64 p.point], .bool true]) ∧ Below W.heap.size W w'))
    (hp : plcOk p = true) :
    Calls Tryz.prog 212 #[.string t] w fun e w' => e = .returned (.string (codeP p)) ∧ Below w.heap.size w w' := by
  have HC := Lib.hid (fun W => impl_CodeOf_yes p W hp)
  clear hp
  go_enter Tryz.func212, Tryz.ntmps212
  go_wp2_with (first | (go_at_call 256; (with_reducible refine (HP.out _).mono ?_); rintro e w1 ⟨rfl, b1⟩) | (go_at_call 22; (with_reducible refine (HC.out _).mono ?_); rintro e w3 ⟨rfl, b3⟩))
  go_ret
  exact ⟨rfl, later_trans (later_alloc b1 _) b3⟩

end Go.Proofs.YtpinkbodbedajaaGreatDoor

namespace Go.Proofs.YtpinkbodbedajaaGreatDoor
open Go.RowKit

def barTab : List ByteArray := [⟨#[124, 124, 46, 46, 46]⟩, ⟨#[46, 46, 46, 124, 124]⟩, ⟨#[46, 46, 124, 46, 124]⟩, ⟨#[46, 46, 124, 124, 46]⟩, ⟨#[46, 124, 46, 46, 124]⟩, ⟨#[46, 124, 46, 124, 46]⟩, ⟨#[46, 124, 124, 46, 46]⟩, ⟨#[124, 46, 46, 46, 124]⟩, ⟨#[124, 46, 46, 124, 46]⟩, ⟨#[124, 46, 124, 46, 46]⟩]
def barB (k : Nat) : ByteArray := barTab.getD k ⟨#[]⟩
theorem barB_inj : ∀ j, j < 10 → ∀ k, k < 10 → barB j = barB k → j = k := by decide
theorem barB_size : ∀ j, j < 10 → (barB j).size = 5 := by decide
/-- The program's table of bars lies where it lay. -/
def BarsW (w : World) : Prop := w.var? Tryz.prog "loop.example/sortingoffice/impl.digitBars" = some (barTab.map fun b => Value.string b).toArray
theorem Tryz.gBars : Tryz.prog.globalNamed "loop.example/sortingoffice/impl.digitBars" = some 0 := by kernel_rfl
theorem BarsW.cell {w : World} (h : BarsW w) (i : Nat) (hi : i < 10) : w.cell? ⟨0, i, none⟩ = some (.string (barB i)) := by
  have h1 := World.var?_cell Tryz.gBars h i
  rw [h1]
  have hl : i < barTab.length := hi
  simp [barB, List.getD, hl]
theorem BarsW.on {w w' : World} (h : BarsW w) (hb : Below w.heap.size w w') : BarsW w' :=
  Go.Joins.var_stays Tryz.gBars h hb (Nat.le_refl _)
theorem BarsW.alloc {w : World} (h : BarsW w) (o : Obj) : BarsW (w.alloc o) := h.on ((Below.refl _ _).alloc (Nat.le_refl _) o)

set_option maxRecDepth 100000 in
set_option maxHeartbeats 800000 in
theorem impl_DigitBars (d : Nat) (w : World) (hd : d < 10) (hw : BarsW w) :
    Calls Tryz.prog 76 #[.int .i64 (d : Int)] w fun e w' => e = .returned (.string (barB d)) ∧ w = w' := by
  have hc := hw.cell d hd
  have h0 : ¬ ((d : Int) < 0) := by omega
  have h1 : (d : Int) ≤ 9 := by omega
  clear hw
  go_enter Tryz.func76, Tryz.ntmps76
  go_wp2_with fail
  go_ret
  exact ⟨rfl, rfl⟩

theorem eq_toList (a b : ByteArray) : (a.toList == b.toList) = true ↔ a = b := by
  rw [beq_iff_eq, ByteArray.toList_eq, ByteArray.toList_eq]
  constructor
  · intro h
    obtain ⟨⟨a⟩⟩ := a
    obtain ⟨⟨b⟩⟩ := b
    simp only at h
    rw [h]
  · intro h; rw [h]
/-- What BarsDigit answers. -/
def barIs (b : ByteArray) (d : Int) : Prop := (∃ k : Nat, k < 10 ∧ d = k ∧ barB k = b) ∨ (d = -1 ∧ ∀ k, k < 10 → barB k ≠ b)
set_option maxRecDepth 100000 in
set_option maxHeartbeats 800000 in
theorem impl_BarsDigit (b : ByteArray) (w : World) (hw : BarsW w) :
    Calls Tryz.prog 282 #[.string b] w fun e w' => ∃ d : Int, e = .returned (.int .i64 d) ∧ Hid (barIs b d) ∧ w = w' := by
  have HB := Lib.hid hw; clear hw
  go_enter Tryz.func282, Tryz.ntmps282
  go_wp2_with fail
  go_loop [3] (fun i => ∃ k : Nat, k ≤ 10 ∧ i = .int .i64 k ∧ Hid (∀ j, j < k → barB j ≠ b)) (fun i => 10 - (intOf i).toNat)
  case atStart => exact ⟨0, Nat.zero_le _, rfl, fun j hj => absurd hj (Nat.not_lt_zero _)⟩
  case round =>
    obtain ⟨k, hk, rfl, HN⟩ := hrel
    by_cases hlt : k < 10
    · have hc := HB.out.cell k hlt
      have hki : (k : Int) < 10 := by omega
      by_cases he : barB k = b
      · have HE := Lib.hid he
        have hq : ((barB k).toList == b.toList) = true := (eq_toList _ _).2 he
        clear he
        go_wp2_with fail
        go_ret
        exact ⟨(k : Int), rfl, Or.inl ⟨k, hlt, rfl, HE.out⟩, rfl⟩
      · have HE := Lib.hid he
        have hq : ((barB k).toList == b.toList) = false := Bool.eq_false_iff.2 fun h => he ((eq_toList _ _).1 h)
        clear he
        go_wp2_with fail
        go_round
        case rel => exact ⟨k + 1, by omega, by go_num, fun j hj => by
          rcases Nat.lt_succ_iff_lt_or_eq.1 hj with h | rfl
          · exact HN.out j h
          · exact HE.out⟩
        case measure => simp [intOf]; omega
    · obtain rfl : k = 10 := by omega
      go_wp2_with fail
      go_ret
      exact ⟨-1, rfl, Or.inr ⟨rfl, HN.out⟩, rfl⟩

end Go.Proofs.YtpinkbodbedajaaGreatDoor

namespace Go.Proofs.YtpinkbodbedajaaGreatDoor
open Go.RowKit

set_option maxRecDepth 100000 in
set_option maxHeartbeats 800000 in
theorem impl_groupDigit (b : ByteArray) (k : Nat) (w : World) (hz : b.size = 42) (hk : k < 8) (hw : BarsW w) :
    Calls Tryz.prog 257 #[.string b, .int .i64 (k : Int)] w fun e w' => ∃ d : Int, e = .returned (.int .i64 d) ∧ Hid (barIs (b.extract (1 + 5 * k) (6 + 5 * k)) d) ∧ w = w' := by
  have HB := Lib.hid (fun s : ByteArray => impl_BarsDigit s w hw)
  clear hw
  obtain ⟨f, hf⟩ : ∃ f : Nat, f = 1 + 5 * k := ⟨_, rfl⟩
  have w1 : IntKind.i64.wrap ((k : Int) * 5) = (k : Int) * 5 := IntWalk.i64_in _ (by omega)
  have w2 : IntKind.i64.wrap (1 + (k : Int) * 5) = (f : Int) := by rw [IntWalk.i64_in _ (by omega)]; omega
  have w3 : IntKind.i64.wrap ((f : Int) + 5) = ((f + 5 : Nat) : Int) := by rw [IntWalk.i64_in _ (by omega)]; omega
  have hE : Hid (b.extract (1 + 5 * k) (6 + 5 * k) = b.extract f (f + 5)) := by show _ = _; rw [hf, show 6 + 5 * k = 1 + 5 * k + 5 by omega]
  have hf2 : f + 5 ≤ b.size := by omega
  have hz2 : (b.size : Int) = 42 := by omega
  clear hf hk
  go_enter Tryz.func257, Tryz.ntmps257
  go_wp2_with (go_at_call 282; refine (HB.out _).mono ?_; rintro e _ ⟨d, rfl, hd, rfl⟩)
  go_ret
  exact ⟨d, rfl, by rw [hE.out]; exact hd, rfl⟩

def barsL (l : List UInt8) : ByteArray := l.foldl (fun a b => a ++ barB (b.toNat - 48)) ⟨#[124]⟩
theorem barsL_snoc (l : List UInt8) (b : UInt8) : barsL (l ++ [b]) = barsL l ++ barB (b.toNat - 48) := by
  unfold barsL; rw [List.foldl_append]; rfl
theorem barsL_size : ∀ (k : Nat) (l : List UInt8), digs l = true → l.length = k → (barsL l).size = 1 + 5 * k
  | 0, l, _, hl => by rw [List.eq_nil_of_length_eq_zero hl]; rfl
  | k + 1, l, h, hl => by
    have e : l = l.take k ++ [l[k]] := by
      conv => lhs; rw [← List.take_append_drop k l, List.drop_eq_getElem_cons (by omega)]
      rw [List.drop_eq_nil_of_le (by omega)]
    have ih := barsL_size k (l.take k) (digs_take h k) (by rw [List.length_take]; omega)
    have hb := digs_mem h _ (List.getElem_mem (show k < l.length by omega))
    rw [e, barsL_snoc, ByteArray.size_append, ih, barB_size _ (by omega)]
    omega
def barsOf (l : List UInt8) : ByteArray := barsL l ++ barB (checkN l) ++ ⟨#[124]⟩

set_option maxRecDepth 100000 in
set_option maxHeartbeats 800000 in
theorem impl_BarsOf_yes (s : ByteArray) (w : World) (hc : isCode s = true) (hw : BarsW w) :
    Calls Tryz.prog 24 #[.string s] w fun e w' => e = .returned (.tuple #[.string (barsOf s.data.toList), .bool true]) ∧ w = w' := by
  obtain ⟨h7, _⟩ := code_mem hc
  have hdd : digs s.data.toList = true := by unfold isCode at hc; rw [Bool.and_eq_true] at hc; exact hc.2
  have HCV : Hid (∀ W : World, Calls Tryz.prog 75 #[.string s] W fun e w' => e = .returned (.bool true) ∧ W = w') := fun W => by
    have := impl_CodeValid s W (by unfold maxLen; omega)
    rw [hc] at this; exact this
  have HCK := Lib.hid (fun W => impl_CheckDigit_yes s W hdd (by omega))
  have HDB := Lib.hid (fun (d : Nat) (hd : d < 10) => impl_DigitBars d w hd hw)
  have HB := Lib.hid (fun (d : Nat) (hd : d < 10) (W : World) (hW : w = W) => by subst hW; exact impl_DigitBars d w hd hw : ∀ (d : Nat) (_ : d < 10) (W : World) (_ : w = W), Calls Tryz.prog 76 #[.int .i64 (d : Int)] W fun e w' => e = .returned (.string (barB d)) ∧ W = w')
  have HD := Lib.hid hdd
  have hck := checkN_lt s.data.toList
  have HE : Hid (barsOf s.data.toList = barsL s.data.toList ++ barB (checkN s.data.toList) ++ ⟨#[124]⟩) := rfl
  obtain ⟨q, hq⟩ : ∃ q, checkN s.data.toList = q := ⟨_, rfl⟩
  rw [hq] at HCK HE hck
  have hz : (s.size : Int) = 7 := by omega
  clear hc hw hdd hq
  go_enter Tryz.func24, Tryz.ntmps24
  go_wp2_with (go_at_call 75; refine (HCV.out _).mono ?_; rintro e _ ⟨rfl, rfl⟩)
  go_loop [4, 5] (fun t i => ∃ k : Nat, k ≤ s.size ∧ i = .int .i64 k ∧ t = .string (barsL (s.data.toList.take k))) (fun _ i => s.size - (intOf i).toNat)
  case atStart => exact ⟨0, Nat.zero_le _, rfl, rfl⟩
  case round =>
    obtain ⟨k, hk, rfl, rfl⟩ := hrel
    by_cases hlt : k < s.size
    · have hlt' : k < s.data.toList.length := by simpa using hlt
      have hb := digs_mem HD.out s[k] (by
        have := List.getElem_mem hlt'
        exact this)
      have HS0 : barsL (s.data.toList.take (k + 1)) = barsL (s.data.toList.take k) ++ barB (s[k].toNat - 48) := by
        rw [List.take_succ_eq_append_getElem hlt', barsL_snoc]
        rfl
      have hus := barsL_size k (s.data.toList.take k) (digs_take HD.out k) (by rw [List.length_take]; omega)
      generalize barsL (s.data.toList.take k) = u at *
      obtain ⟨b, hbe⟩ : ∃ b, s[k] = b := ⟨_, rfl⟩
      rw [hbe] at hb HS0
      obtain ⟨d, hd⟩ : ∃ d, d = b.toNat - 48 := ⟨_, rfl⟩
      rw [← hd] at HS0
      obtain ⟨hb1, hb2⟩ := hb
      have hd10 : d < 10 := by omega
      have HS := Lib.hid HS0; clear HS0
      have hki : (k : Int) < 7 := by omega
      have hbs := barB_size d hd10
      have hus2 : u.size ≤ 36 := by omega
      clear hus
      have w1 : IntKind.wrap .u8 ((b.toNat : Int) - 48) = (d : Int) := by simp [IntKind.wrap, IntKind.bits, IntKind.signed]; omega
      have w2 : IntKind.i64.wrap (d : Int) = (d : Int) := IntWalk.i64_in _ (by omega)
      clear hb1 hb2 hd
      go_wp2_with (go_at_call 76; refine (HB.out d hd10 _ rfl).mono ?_; rintro e _ ⟨rfl, rfl⟩)
      go_round
      case rel => exact ⟨k + 1, by omega, by go_num, by rw [HS.out]⟩
      case measure => simp [intOf]; omega
    · have hkz : k = s.size := by omega
      have HL : Hid (s.data.toList.take k = s.data.toList) := List.take_of_length_le (by simp; omega)
      have hki : ¬ ((k : Int) < 7) := by omega
      rw [HL.out]
      have hus := barsL_size 7 s.data.toList HD.out (by simp; omega)
      have hbs := barB_size q hck
      generalize barsL s.data.toList = u at *
      have hus2 : u.size ≤ 36 := by omega
      clear hus
      go_wp2_with (first | (go_at_call 77; refine (HCK.out _).mono ?_; rintro e _ ⟨rfl, rfl⟩) | (go_at_call 76; refine (HB.out q hck _ rfl).mono ?_; rintro e _ ⟨rfl, rfl⟩))
      go_ret2
      exact ⟨by rw [HE.out]; rfl, rfl⟩

end Go.Proofs.YtpinkbodbedajaaGreatDoor

namespace Go.Proofs.YtpinkbodbedajaaGreatDoor
open Go.RowKit

/-- The sum of the first k digits but that at u. -/
def sumD (ds : Nat → Nat) (u : Nat) : Nat → Nat
  | 0 => 0
  | k + 1 => sumD ds u k + if k = u then 0 else ds k
theorem sumD_le {ds : Nat → Nat} (h : ∀ k, k < 8 → ds k < 10) (u : Nat) : ∀ k, k ≤ 8 → sumD ds u k ≤ 9 * k
  | 0, _ => Nat.le_refl _
  | k + 1, hk => by
    have h1 := sumD_le h u k (by omega)
    have h2 := h k (by omega)
    unfold sumD
    split <;> omega
/-- The code of the digits. -/
def digC (ds : Nat → Nat) : ByteArray := ⟨((List.range 7).map fun j => b8 (48 + (ds j : Int))).toArray⟩
structure Bars (b : ByteArray) (ds : Nat → Nat) (u : Nat) : Prop where
  size : b.size = 42
  ten : ∀ k, k < 8 → ds k < 10
  read : ∀ k, k < 8 → k ≠ u → barB (ds k) = b.extract (1 + 5 * k) (6 + 5 * k)
  not : u < 8 → ∀ j, j < 10 → barB j ≠ b.extract (1 + 5 * u) (6 + 5 * u)
  sum : (sumD ds 8 8) % 10 = 0
theorem sumD_without (ds : Nat → Nat) (u : Nat) : ∀ k, sumD ds 8 k = sumD ds u k + (if u < k ∧ u ≠ 8 then ds u else 0) ∨ 8 < k
  | 0 => Or.inl (by simp [sumD])
  | k + 1 => by
    rcases sumD_without ds u k with h | h
    · by_cases h8 : k = 8
      · exact Or.inr (by omega)
      · left
        unfold sumD
        rw [h, if_neg h8]
        by_cases hk : k = u
        · subst hk
          simp [h8]
        · rw [if_neg hk]
          by_cases h2 : u < k ∧ u ≠ 8
          · rw [if_pos h2, if_pos (by omega)]; omega
          · rw [if_neg h2, if_neg (by omega)]; omega
    · exact Or.inr (by omega)
theorem Bars.last {b : ByteArray} {ds : Nat → Nat} {u : Nat} (h : Bars b ds u) (hu : u < 8) : (10 - sumD ds u 8 % 10) % 10 = ds u := by
  have h1 := h.sum
  have h2 := h.ten u hu
  rcases sumD_without ds u 8 with h3 | h3
  · rw [if_pos (by omega)] at h3; omega
  · omega
theorem Bars.all {b : ByteArray} {ds : Nat → Nat} {u : Nat} (h : Bars b ds u) (hu : u = 8) : sumD ds u 8 % 10 = 0 := by
  subst hu; exact h.sum
theorem Bars.is {b : ByteArray} {ds : Nat → Nat} {u k : Nat} {d : Int} (h : Bars b ds u) (hk : k < 8) (hd : barIs (b.extract (1 + 5 * k) (6 + 5 * k)) d) : d = if k = u then -1 else (ds k : Int) := by
  by_cases hu : k = u
  · subst hu
    rw [if_pos rfl]
    rcases hd with ⟨j, hj, _, h2⟩ | ⟨h1, _⟩
    · exact absurd h2 (h.not hk j hj)
    · exact h1
  · rw [if_neg hu]
    rcases hd with ⟨j, hj, h1, h2⟩ | ⟨_, h2⟩
    · have := barB_inj _ hj _ (h.ten k hk) (h2.trans (h.read k hk hu).symm)
      rw [h1, this]
    · exact absurd (h.read k hk hu) (h2 _ (h.ten k hk))
theorem digC_of {ds : Nat → Nat} {l : List UInt8} (hl : l.length = 8) (h : ∀ j, j < 7 → l[j]? = some (b8 (48 + (ds j : Int)))) : (⟨(l.take 7).toArray⟩ : ByteArray) = digC ds := by
  unfold digC
  congr 2
  apply List.ext_getElem?
  intro i
  rw [List.getElem?_take]
  by_cases hi : i < 7
  · rw [if_pos hi, h i hi, List.getElem?_map, List.getElem?_range hi]; rfl
  · rw [if_neg hi, List.getElem?_eq_none (by rw [List.length_map, List.length_range]; omega)]

set_option maxRecDepth 100000 in
set_option maxHeartbeats 1600000 in
theorem impl_RecoverBars (b : ByteArray) (ds : Nat → Nat) (u : Nat) (w : World) (hB : Bars b ds u) (hu8 : u ≤ 8) (hw : BarsW w) :
    Calls Tryz.prog 213 #[.string b] w fun e w' => e = .returned (.tuple #[.string (digC ds), .bool true]) ∧ Below w.heap.size w w' := by
  have HBB := Lib.hid hB
  have HG : Hid (∀ (k : Nat) (_ : k < 8) (W : World), Below w.heap.size w W → Calls Tryz.prog 257 #[.string b, .int .i64 (k : Int)] W fun e w' => e = .returned (.int .i64 (if k = u then -1 else (ds k : Int))) ∧ W = w') := fun k hk W hW => by
    refine (impl_groupDigit b k W hB.size hk (hw.on hW)).mono ?_
    rintro e _ ⟨d, rfl, hd, rfl⟩
    exact ⟨by rw [hB.is hk hd.out], rfl⟩
  have hz : (b.size : Int) = 42 := by have := hB.size; omega
  obtain ⟨i0, hi, hz0, hz1, hz2⟩ := info_parts Tryz.infoByte
  have hmk8 := make_row (P := Tryz.prog) 22 5 i0 _ Tryz.underlying22 hi hz0 8 (by rw [hz2]; omega) (by omega)
  have hmk : ∀ W : World, Sem.run Tryz.prog (Instr.makeSlice 22 (.int .i64 8) (.int .i64 8)) W = .ok (.slice (some ⟨W.heap.size, 0, none⟩) 8 8) (W.alloc (Obj.cells (madeCells #[.int .u8 0] 8) 5)) := fun W => by
    have h := hmk8 W
    rw [hz1] at h
    exact h
  clear hmk8
  clear hB hw
  go_enter Tryz.func213, Tryz.ntmps213
  go_wp2_with fail
  obtain ⟨wz, hwz⟩ : ∃ u, u = w.alloc (Obj.cells (madeCells #[.int .u8 0] 8) 5) := ⟨_, rfl⟩
  have hg : byteRow wz w.heap.size (List.replicate 8 0) := by
    subst hwz
    unfold byteRow
    rw [heap_alloc_new w _, madeBytes]
  have lz : Below w.heap.size w wz := (box_later hwz).1
  rw [← hwz]
  have HGR := Lib.hid hg
  clear hwz hmk hg
  go_loopw [5, 6, 7] (fun t m i wr => ∃ (k : Nat) (l : List UInt8), k ≤ 8 ∧ i = .int .i64 k ∧ t = .int .i64 (sumD ds u k : Nat) ∧ m = .int .i64 (if u < k then (u : Int) else -1) ∧ Hid (byteRow wr w.heap.size l) ∧ Hid (l.length = 8) ∧ Hid (∀ j, j < k → j ≠ u → l[j]? = some (b8 (48 + (ds j : Int)))) ∧ Below w.heap.size w wr) (fun _ _ i _ => (8 - intOf i).toNat)
  case atStart => exact ⟨0, List.replicate 8 0, by omega, rfl, rfl, by rw [if_neg (Nat.not_lt_zero _)], HGR.out, by show _ = _; simp, fun j hj => absurd hj (Nat.not_lt_zero _), lz⟩
  case round =>
    obtain ⟨k, l, hk, rfl, rfl, rfl, HR, HL, HJ, hbl⟩ := hrel
    obtain ⟨w1, rfl⟩ : ∃ w1 : World, w1 = wr := ⟨_, rfl⟩
    by_cases hlt : k < 8
    · have hki : (k : Int) < 8 := by omega
      have HC := Lib.hid (HG.out k hlt w1 hbl)
      have hsl := sumD_le HBB.out.ten u k hk
      have hd := HBB.out.ten k hlt
      have hlk : k < l.length := by have := HL.out; omega
      by_cases hu : k = u
      · subst hu
        have HC2 : Hid (Calls Tryz.prog 257 #[.string b, .int .i64 (k : Int)] w1 fun e w' => e = .returned (.int .i64 (-1)) ∧ w1 = w') := by
          have := HC.out
          rw [if_pos rfl] at this
          exact this
        have HS : Hid (sumD ds k (k + 1) = sumD ds k k) := by show _ = _; rw [sumD, if_pos rfl]; rfl
        rw [if_neg (Nat.lt_irrefl k)]
        clear HC
        generalize sumD ds k k = sm at *
        go_wp2_with (go_at_call 257; (with_reducible refine HC2.out.mono ?_); rintro e _ ⟨rfl, rfl⟩)
        go_roundw
        case rel => exact ⟨k + 1, l, by omega, by go_num, by rw [HS.out], by rw [if_pos (Nat.lt_succ_self k)], HR, HL, fun j hj hju => HJ.out j (by omega) hju, hbl⟩
        case measure => simp [intOf]; omega
      · have HC2 : Hid (Calls Tryz.prog 257 #[.string b, .int .i64 (k : Int)] w1 fun e w' => e = .returned (.int .i64 (ds k : Int)) ∧ w1 = w') := by
          have := HC.out
          rw [if_neg hu] at this
          exact this
        have HS : Hid (sumD ds u (k + 1) = sumD ds u k + ds k) := by show _ = _; rw [sumD, if_neg hu]
        have HM : Hid ((if u < k + 1 then (u : Int) else -1) = if u < k then (u : Int) else -1) := by
          show _ = _
          by_cases h : u < k
          · rw [if_pos h, if_pos (by omega)]
          · rw [if_neg h, if_neg (by omega)]
        have HSET : Hid (byteRow (w1.setCell ⟨w.heap.size, k, none⟩ (.int .u8 (48 + (ds k : Int)))) w.heap.size (l.set k (b8 (48 + (ds k : Int))))) := by
          have h1 := HR.out.set k (b8 (48 + (ds k : Int)))
          rw [b8_nat (by omega) (by omega)] at h1
          exact h1
        have HJ2 : Hid (∀ j, j < k + 1 → j ≠ u → (l.set k (b8 (48 + (ds k : Int))))[j]? = some (b8 (48 + (ds j : Int)))) := fun j hj hju => by
          by_cases hjk : j = k
          · subst hjk; rw [List.getElem?_set_self hlk]
          · rw [List.getElem?_set_ne (by omega)]; exact HJ.out j (by omega) hju
        have HL2 : Hid ((l.set k (b8 (48 + (ds k : Int)))).length = 8) := by show _ = _; rw [List.length_set]; exact HL.out
        have hc := HR.out.cell k hlk
        have hf := HR.out.free k
        clear HC
        generalize (if u < k then (u : Int) else -1) = m at *
        generalize sumD ds u k = sm at *
        generalize l[k] = old at *
        obtain ⟨d, hdd⟩ : ∃ d, ds k = d := ⟨_, rfl⟩
        rw [hdd] at HC2 HS HSET HJ2 HL2 hd
        clear hdd
        have hwr : IntKind.wrap .u8 (48 + (d : Int)) = 48 + (d : Int) := by simp [IntKind.wrap, IntKind.bits, IntKind.signed]; omega
        go_wp2_with (go_at_call 257; (with_reducible refine HC2.out.mono ?_); rintro e _ ⟨rfl, rfl⟩)
        go_roundw
        case rel => exact ⟨k + 1, _, by omega, by go_num, by rw [HS.out]; rfl, by rw [HM.out], HSET, HL2, HJ2, later_set hbl (p := ⟨w.heap.size, k, none⟩) (Nat.le_refl _) _⟩
        case measure => simp [intOf]; omega
    · obtain rfl : k = 8 := by omega
      have hsl := sumD_le HBB.out.ten u 8 (Nat.le_refl _)
      by_cases hu : u < 8
      · have hE0 := HBB.out.last hu
        have hd := HBB.out.ten u hu
        have hlk : u < l.length := by have := HL.out; omega
        have HSET : Hid (byteRow (w1.setCell ⟨w.heap.size, u, none⟩ (.int .u8 (48 + (ds u : Int)))) w.heap.size (l.set u (b8 (48 + (ds u : Int))))) := by
          have h1 := HR.out.set u (b8 (48 + (ds u : Int)))
          rw [b8_nat (by omega) (by omega)] at h1
          exact h1
        have HC : Hid ((⟨((l.set u (b8 (48 + (ds u : Int)))).take 7).toArray⟩ : ByteArray) = digC ds) := digC_of (by rw [List.length_set]; exact HL.out) fun j hj => by
          by_cases hju : j = u
          · subst hju; rw [List.getElem?_set_self hlk]
          · rw [List.getElem?_set_ne (by omega)]; exact HJ.out j (by omega) hju
        have hcv := HSET.out.str (c := 8) (m := 7) (by rw [List.length_set]; have := HL.out; omega)
        rw [HC.out] at hcv
        have hc := HR.out.cell u hlk
        have hf := HR.out.free u
        rw [if_pos hu]
        generalize sumD ds u 8 = sm at *
        generalize l[u] = old at *
        obtain ⟨cc, hcc⟩ : ∃ cc, digC ds = cc := ⟨_, rfl⟩
        rw [hcc] at hcv
        have HCC := Lib.hid hcc; clear hcc
        obtain ⟨d, hdd⟩ : ∃ d, ds u = d := ⟨_, rfl⟩
        rw [hdd] at hE0 hd hcv HSET
        clear hdd HC
        have hE : (10 - (sm : Int) % 10) % 10 = (d : Int) := by omega
        have hwr : IntKind.wrap .u8 (48 + (d : Int)) = 48 + (d : Int) := by simp [IntKind.wrap, IntKind.bits, IntKind.signed]; omega
        have hui : (u : Int) < 8 := by omega
        have hu0 : (0 : Int) ≤ (u : Int) := by omega
        clear hE0
        go_wp2_with fail
        go_ret2
        exact ⟨by rw [HCC.out]; rfl, later_set hbl (p := ⟨w.heap.size, u, none⟩) (Nat.le_refl _) _⟩
      · have hS0 := HBB.out.all (by omega)
        have HC : Hid ((⟨(l.take 7).toArray⟩ : ByteArray) = digC ds) := digC_of HL.out fun j hj => HJ.out j (by omega) (by omega)
        have hcv := HR.out.str (c := 8) (m := 7) (by have := HL.out; omega)
        rw [HC.out] at hcv
        rw [if_neg hu]
        generalize sumD ds u 8 = sm at *
        obtain ⟨cc, hcc⟩ : ∃ cc, digC ds = cc := ⟨_, rfl⟩
        rw [hcc] at hcv
        have HCC := Lib.hid hcc; clear hcc
        clear HC
        have hS1 : (sm : Int) % 10 = 0 := by omega
        clear hS0
        go_wp2_with fail
        go_ret2
        exact ⟨by rw [HCC.out]; rfl, hbl⟩
end Go.Proofs.YtpinkbodbedajaaGreatDoor

namespace Go.Proofs.YtpinkbodbedajaaGreatDoor
open Go.RowKit

theorem isCode_mk {s : ByteArray} (h : digs s.data.toList = true) (h7 : s.size = 7) : isCode s = true := by unfold isCode; rw [h, h7]; rfl
theorem b8_digit (n : Nat) : (b8 (48 + (n : Int) % 10)).toNat = 48 + n % 10 := by
  have := b8_nat (n := 48 + (n : Int) % 10) (by omega) (by omega)
  omega
theorem showL_digs : ∀ (k n : Nat), digs (showL n k) = true
  | 0, _ => rfl
  | k + 1, n => by
    rw [showL, digs_app, showL_digs k]
    have := b8_digit n
    simp [digs, dig, this]
    omega
theorem numL_show : ∀ (k n : Nat), n < 10 ^ k → numL (showL n k) = n
  | 0, n, h => by have : n = 0 := by simpa using h
                  subst this; rfl
  | k + 1, n, h => by
    rw [showL, numL_snoc, numL_show k (n / 10) (by rw [Nat.pow_succ] at h; omega), b8_digit]
    omega
theorem codeP_data (p : Plc) : (codeP p).data.toList = showL p.area.toNat 3 ++ showL p.walk.toNat 2 ++ showL p.point.toNat 2 := by
  unfold codeP
  rw [ba_append, ba_append]
  rfl
theorem codeP_size (p : Plc) : (codeP p).size = 7 := by
  unfold codeP
  rw [ByteArray.size_append, ByteArray.size_append, showB_size, showB_size, showB_size]
theorem fmtP_size (p : Plc) : (fmtP p).size = 9 := by
  unfold fmtP
  simp only [ByteArray.size_append, showB_size]
  rfl
theorem codeP_code (p : Plc) : isCode (codeP p) = true :=
  isCode_mk (by rw [codeP_data, digs_app, digs_app, showL_digs, showL_digs, showL_digs]; rfl) (codeP_size p)
theorem showL2 (n : Nat) : ∃ x y : UInt8, showL n 2 = [x, y] := ⟨_, _, rfl⟩
theorem showL3 (n : Nat) : ∃ x y z : UInt8, showL n 3 = [x, y, z] := ⟨_, _, _, rfl⟩
theorem placeN_code {p : Plc} (h : plcOk p = true) : placeN (codeP p) = p := by
  obtain ⟨⟨h1, h2⟩, ⟨h3, h4⟩, ⟨h5, h6⟩⟩ := plcOk_iff.1 h
  have e := codeP_data p
  have na := numL_show 3 p.area.toNat (by omega)
  have nb := numL_show 2 p.walk.toNat (by omega)
  have nc := numL_show 2 p.point.toNat (by omega)
  obtain ⟨x, y, z, ha⟩ := showL3 p.area.toNat
  obtain ⟨u, v, hb⟩ := showL2 p.walk.toNat
  obtain ⟨r, s, hc⟩ := showL2 p.point.toNat
  rw [ha, hb, hc] at e
  rw [ha] at na; rw [hb] at nb; rw [hc] at nc
  have e2 : codeP p = ⟨#[x, y, z, u, v, r, s]⟩ := ba_ext (by rw [e]; rfl)
  have q1 : ((codeP p).extract 0 3).data.toList = [x, y, z] := by rw [e2, ByteArray.data_extract]; simp
  have q2 : ((codeP p).extract 3 5).data.toList = [u, v] := by rw [e2, ByteArray.data_extract]; simp
  have q3 : ((codeP p).extract 5 (codeP p).size).data.toList = [r, s] := by rw [codeP_size, e2, ByteArray.data_extract]; simp
  unfold placeN
  rw [q1, q2, q3, na, nb, nc]
  obtain ⟨a, b, c⟩ := p
  simp only at h1 h3 h5 ⊢
  rw [Int.toNat_of_nonneg h1, Int.toNat_of_nonneg h3, Int.toNat_of_nonneg h5]
theorem fmtP_parts (p : Plc) : ∃ x y z u v r s : UInt8, fmtP p = ⟨#[x, y, z, 45, u, v, 45, r, s]⟩ ∧ codeP p = ⟨#[x, y, z, u, v, r, s]⟩ := by
  obtain ⟨x, y, z, ha⟩ := showL3 p.area.toNat
  obtain ⟨u, v, hb⟩ := showL2 p.walk.toNat
  obtain ⟨r, s, hc⟩ := showL2 p.point.toNat
  refine ⟨x, y, z, u, v, r, s, ?_, ?_⟩
  · apply ba_ext
    unfold fmtP
    simp only [ba_append]
    show showL p.area.toNat 3 ++ [45] ++ showL p.walk.toNat 2 ++ [45] ++ showL p.point.toNat 2 = _
    rw [ha, hb, hc]
    rfl
  · apply ba_ext
    rw [codeP_data, ha, hb, hc]
    rfl
theorem text_parts {x y z u v r s : UInt8} (t : ByteArray) (h1 : t = ⟨#[x, y, z, 45, u, v, 45, r, s]⟩) : ∃ h : t.size = 9, (t[3]'(by omega)).toNat = 45 ∧ (t[6]'(by omega)).toNat = 45 ∧ t.extract 0 3 ++ t.extract 4 6 ++ t.extract 7 9 = ⟨#[x, y, z, u, v, r, s]⟩ := by
  subst h1
  refine ⟨rfl, rfl, rfl, ?_⟩
  apply ba_ext
  simp only [ba_append, ByteArray.data_extract]
  simp
theorem fmtP_text (p : Plc) : ∃ h : (fmtP p).size = 9, ((fmtP p)[3]'(by omega)).toNat = 45 ∧ ((fmtP p)[6]'(by omega)).toNat = 45 ∧ (fmtP p).extract 0 3 ++ (fmtP p).extract 4 6 ++ (fmtP p).extract 7 9 = codeP p := by
  obtain ⟨x, y, z, u, v, r, s, h1, h2⟩ := fmtP_parts p
  rw [h2]
  exact text_parts _ h1
theorem fmtP_mem (p : Plc) : ∀ b ∈ (fmtP p).data.toList, (48 ≤ b.toNat ∧ b.toNat ≤ 57) ∨ b = 45 := fun b m => by
  unfold fmtP at m
  simp only [ba_append, List.mem_append] at m
  have hd := fun (n k : Nat) (m : b ∈ (showB n k).data.toList) => digs_mem (showL_digs k n) b m
  rcases m with (((m | m) | m) | m) | m
  · exact .inl (hd _ _ m)
  · simp at m; exact .inr m
  · exact .inl (hd _ _ m)
  · simp at m; exact .inr m
  · exact .inl (hd _ _ m)

/-! ### Bars of a code -/
theorem barsL_app : ∀ (b a : List UInt8), ∃ R : ByteArray, barsL (a ++ b) = barsL a ++ R
  | [], a => ⟨⟨#[]⟩, by rw [List.append_nil]; apply ba_ext; rw [ba_append]; simp⟩
  | x :: b, a => by
    obtain ⟨R, hR⟩ := barsL_app b (a ++ [x])
    refine ⟨barB (x.toNat - 48) ++ R, ?_⟩
    rw [show a ++ x :: b = a ++ [x] ++ b by simp, hR, barsL_snoc]
    apply ba_ext
    simp only [ba_append, List.append_assoc]
/-- The digits of a code, and the one that completes them. -/
def all8 (l : List UInt8) : List UInt8 := l ++ [b8 (48 + (checkN l : Int) % 10)]
def dsOf (l : List UInt8) (k : Nat) : Nat := (l.getD k 0).toNat - 48
theorem all8_last (l : List UInt8) : (b8 (48 + (checkN l : Int) % 10)).toNat - 48 = checkN l := by
  rw [b8_digit]
  have := checkN_lt l
  omega
theorem barsOf_all8 (l : List UInt8) : barsOf l = barsL (all8 l) ++ ⟨#[124]⟩ := by
  unfold barsOf all8
  rw [barsL_snoc, all8_last]
theorem all8_digs {l : List UInt8} (h : digs l = true) : digs (all8 l) = true := by
  unfold all8
  rw [digs_app, h]
  have := b8_digit (checkN l)
  simp [digs, dig, this]
  omega
theorem all8_len {l : List UInt8} (h : l.length = 7) : (all8 l).length = 8 := by unfold all8; rw [List.length_append, h]; rfl
theorem dsOf_get {l : List UInt8} {k : Nat} (h : k < l.length) : dsOf l k = l[k].toNat - 48 := by
  unfold dsOf; rw [List.getD_eq_getElem?_getD, List.getElem?_eq_getElem h]; rfl
theorem dsOf_ten {l : List UInt8} (hd : digs l = true) (k : Nat) (hk : k < l.length) : dsOf l k < 10 := by
  rw [dsOf_get hk]
  have := digs_mem hd _ (List.getElem_mem hk)
  omega
theorem ext_mid (P m S : ByteArray) (i j : Nat) (hi : P.size = i) (hj : m.size + i = j) : (P ++ m ++ S).extract i j = m := by
  subst hi hj
  apply ba_ext
  rw [ByteArray.data_extract]
  have e1 : (P ++ m ++ S).data = P.data ++ m.data ++ S.data := by simp
  rw [e1]
  have hp : P.size = P.data.size := rfl
  have hm : m.size = m.data.size := rfl
  rw [hp, hm]
  congr 1
  apply Array.ext
  · simp
  · intro k h1 h2
    simp
theorem barsL_read {l : List UInt8} (hd : digs l = true) {k : Nat} (hk : k < l.length) (S : ByteArray) : barB (dsOf l k) = (barsL l ++ S).extract (1 + 5 * k) (6 + 5 * k) := by
  have hz := barsL_size k (l.take k) (digs_take hd k) (by rw [List.length_take]; omega)
  have h5 := barB_size _ (dsOf_ten hd k hk)
  obtain ⟨R, hR⟩ := barsL_app (l.drop (k + 1)) (l.take (k + 1))
  rw [List.take_append_drop, List.take_succ_eq_append_getElem hk, barsL_snoc, ← dsOf_get hk] at hR
  have e : barsL l ++ S = barsL (l.take k) ++ barB (dsOf l k) ++ (R ++ S) := by
    rw [hR]; apply ba_ext; simp only [ba_append, List.append_assoc]
  rw [e, ext_mid _ _ _ _ _ hz (by omega)]
theorem sumD_dig {l : List UInt8} : ∀ k, k ≤ 8 → k ≤ l.length → sumD (dsOf l) 8 k = digSum (l.take k)
  | 0, _, _ => rfl
  | k + 1, h, hl => by
    rw [sumD, if_neg (by omega), sumD_dig k (by omega) (by omega), List.take_succ_eq_append_getElem (by omega), digSum_snoc, dsOf_get (by omega)]
theorem bars_code {l : List UInt8} (hl : l.length = 7) (hd : digs l = true) : Bars (barsOf l) (dsOf (all8 l)) 8 := by
  have h8 := all8_len hl
  have hd8 := all8_digs hd
  refine ⟨?_, fun k hk => dsOf_ten hd8 k (by omega), fun k hk _ => ?_, fun h => absurd h (Nat.lt_irrefl _), ?_⟩
  · rw [barsOf_all8, ByteArray.size_append, barsL_size 8 _ hd8 h8]; rfl
  · rw [barsOf_all8]; exact barsL_read hd8 (by omega) _
  · rw [sumD_dig 8 (Nat.le_refl _) (by omega), List.take_of_length_le (by omega)]
    have e : digSum (all8 l) = digSum l + checkN l := by
      unfold all8; rw [digSum_snoc, all8_last]
    rw [e]
    unfold checkN
    omega
theorem digC_code {c : ByteArray} (h : isCode c = true) : digC (dsOf (all8 c.data.toList)) = c := by
  obtain ⟨h7, hm⟩ := code_mem h
  have hl : c.data.toList.length = 7 := by simpa using h7
  rw [← digC_of (l := all8 c.data.toList) (all8_len hl) fun j hj => ?_]
  · apply ba_ext
    show (List.take 7 (all8 c.data.toList)).toArray.toList = _
    unfold all8
    rw [List.take_append_of_le_length (by omega), List.take_of_length_le (by omega)]
  · have hj8 : j < (all8 c.data.toList).length := by rw [all8_len hl]; omega
    rw [List.getElem?_eq_getElem hj8, dsOf_get hj8]
    have e : (all8 c.data.toList)[j] = c.data.toList[j]'(by omega) := by
      unfold all8; exact List.getElem_append_left (by omega)
    rw [e]
    have hb := hm _ (List.getElem_mem (show j < c.data.toList.length by omega))
    generalize c.data.toList[j]'(by omega) = b at *
    congr 1
    apply UInt8.toNat_inj.1
    have := b8_nat (n := 48 + ((b.toNat - 48 : Nat) : Int)) (by omega) (by omega)
    omega

/-! ### A byte put -/
def putB (s : ByteArray) (k : Nat) (b : UInt8) : ByteArray := ⟨(s.data.toList.set k b).toArray⟩
theorem putB_size (s : ByteArray) (k : Nat) (b : UInt8) : (putB s k b).size = s.size := by
  show (s.data.toList.set k b).toArray.size = s.data.size
  simp
theorem ext_list (s : ByteArray) (i j : Nat) : (s.extract i j).data.toList = (s.data.toList.take j).drop i := by
  rw [ByteArray.data_extract]
  simp [List.drop_take]
theorem putB_ext {s : ByteArray} {k i j : Nat} {b : UInt8} (h : k < i ∨ j ≤ k) : (putB s k b).extract i j = s.extract i j := by
  apply ba_ext
  rw [ext_list, ext_list]
  show ((s.data.toList.set k b).take j).drop i = _
  apply List.ext_getElem?
  intro m
  rw [List.getElem?_drop, List.getElem?_drop, List.getElem?_take, List.getElem?_take]
  by_cases hm : i + m < j
  · rw [if_pos hm, if_pos hm, List.getElem?_set_ne (by omega)]
  · rw [if_neg hm, if_neg hm]
theorem barB_noq : ∀ j, j < 10 → (barB j).data.toList[0]? ≠ some 63 := by decide
def smudge (b : ByteArray) (g : Nat) : ByteArray := putB (putB b (1 + 5 * g) 63) (1 + 5 * g + 1) 63
theorem bars_smudge {b : ByteArray} {ds : Nat → Nat} (h : Bars b ds 8) {g : Nat} (hg : g < 8) : Bars (smudge b g) ds g := by
  refine ⟨?_, h.ten, fun k hk hkg => ?_, fun _ j hj he => ?_, h.sum⟩
  · unfold smudge; rw [putB_size, putB_size]; exact h.size
  · unfold smudge; rw [putB_ext (by omega), putB_ext (by omega)]; exact h.read k hk (by omega)
  · apply barB_noq j hj
    rw [he, ext_list, List.getElem?_drop, List.getElem?_take, if_pos (by omega)]
    show ((b.data.toList.set (1 + 5 * g) 63).set (1 + 5 * g + 1) 63)[1 + 5 * g + 0]? = _
    have hz : b.data.toList.length = 42 := by simpa using h.size
    rw [List.getElem?_set_ne (by omega), Nat.add_zero, List.getElem?_set_self (by omega)]
/-- The signs of bars. -/
def barCh (b : UInt8) : Prop := b = 124 ∨ b = 46 ∨ b = 63
theorem barB_ch : ∀ j, j < 10 → ∀ b ∈ (barB j).data.toList, b = 124 ∨ b = 46 := by decide
theorem barsL_ch : ∀ (k : Nat) (l : List UInt8), digs l = true → l.length = k → ∀ b ∈ (barsL l).data.toList, barCh b
  | 0, l, _, hl => by rw [List.eq_nil_of_length_eq_zero hl]; intro b m; exact .inl (by simpa [barsL] using m)
  | k + 1, l, h, hl => by
    have e : l = l.take k ++ [l[k]] := by
      conv => lhs; rw [← List.take_append_drop k l, List.drop_eq_getElem_cons (by omega)]
      rw [List.drop_eq_nil_of_le (by omega)]
    have ih := barsL_ch k (l.take k) (digs_take h k) (by rw [List.length_take]; omega)
    have hb := digs_mem h _ (List.getElem_mem (show k < l.length by omega))
    intro b m
    rw [e, barsL_snoc, ba_append, List.mem_append] at m
    rcases m with m | m
    · exact ih b m
    · rcases barB_ch _ (by omega) b m with h | h
      · exact .inl h
      · exact .inr (.inl h)
theorem barsOf_ch {l : List UInt8} (hd : digs l = true) : ∀ b ∈ (barsOf l).data.toList, barCh b := fun b m => by
  rw [barsOf_all8, ba_append, List.mem_append] at m
  rcases m with m | m
  · exact barsL_ch _ _ (all8_digs hd) rfl b m
  · exact .inl (by simpa using m)
theorem putB_ch {s : ByteArray} {k : Nat} (h : ∀ b ∈ s.data.toList, barCh b) : ∀ b ∈ (putB s k 63).data.toList, barCh b := fun b m => by
  have m : b ∈ s.data.toList.set k 63 := m
  rcases List.mem_or_eq_of_mem_set m with m | m
  · exact h b m
  · exact .inr (.inr m)
theorem smudge_ch {s : ByteArray} {g : Nat} (h : ∀ b ∈ s.data.toList, barCh b) : ∀ b ∈ (smudge s g).data.toList, barCh b := putB_ch (putB_ch h)

end Go.Proofs.YtpinkbodbedajaaGreatDoor

namespace Go.Proofs.YtpinkbodbedajaaGreatDoor
open Go.RowKit Go.Shelf

set_option maxHeartbeats 1000000 in
theorem split_any {P : Program} {ρ : Ren} (L : Go.Proofs.Lays.n146 P ρ) (hi9 : (P.info? (ρ.t 9)).map (fun i => (i.zero, i.size, i.bytes)) = some (some (.string ByteArray.empty), 1, 16)) (s : ByteArray) (c : UInt8) (w : World) (hs : s.size < 4294967281) :
    Calls P (ρ.f 146) #[.string s, .string ⟨#[c]⟩] w fun e w' =>
      e = .returned (.slice (some ⟨w.heap.size, 0, none⟩) (partsB c s).length (partsB c s).length) ∧ w' = w.alloc (.cells ((partsB c s).map Value.string).toArray (ρ.t 9)) := by
  have h1 : 1 ≤ (⟨#[c]⟩ : ByteArray).size := Nat.le_refl 1
  have hle := Lib.countB_le ⟨#[c]⟩ h1 s.size s (Nat.le_refl _)
  have hlen := Lib.splitB_all ⟨#[c]⟩ h1 0 _ s rfl
  have c0 := Any.strings_genSplit_core (P := P) (ρ := ρ) { L with } hi9 s ⟨#[c]⟩ 0 (-1) (Lib.countB s ⟨#[c]⟩ + 1) w hs h1 (Nat.zero_le _)
    (fun x cc _ => (Any.strings_Index_one { L with } x c _).mono fun e w' h => ⟨by rw [h.1, indexB_one], h.2⟩)
    ((Any.strings_Count_one { L with } s c w).mono fun e w' h => ⟨by
      rw [h.1]
      show _ = Ending.returned (Value.int .i64 ((Lib.count s.data.toList [c] : Nat) : Int))
      rw [Lib.count_one]
      rfl, h.2⟩) (by decide) (by decide) (by rw [if_pos (by decide)]; omega)
  rw [Nat.add_sub_cancel, hlen] at c0
  have e2 : Lib.cellsOf (Lib.splitB ⟨#[c]⟩ 0 (Lib.countB s ⟨#[c]⟩) s) (Lib.countB s ⟨#[c]⟩ + 1) = ((Lib.splitB ⟨#[c]⟩ 0 (Lib.countB s ⟨#[c]⟩) s).map Value.string).toArray := by rw [← hlen]; exact Lib.cellsOf_full _
  rw [e2, splitB_parts c _ s rfl, ← parts_count c s] at c0
  have t3 := L.t3; have t9 := L.t9; have t31 := L.t31
  have a3 := L.a3; have a9 := L.a9; have a31 := L.a31
  have z3 := L.z3; have v3 := L.v3; have z9 := L.z9; have v9 := L.v9; have z31 := L.z31; have v31 := L.v31
  have e221 : ∀ args w, (callFunc (ρ.f 221) args).run P w = .ok (.enter (ρ.f 221) args) w := enters_of L.f221 (by kernel_rfl) rfl
  clear hle hlen e2
  go_enter L.f146, Body.n146_ntmps ρ
  go_wp2_with (go_at_fn (ρ.f 221); refine c0.mono ?_; rintro e w' ⟨rfl, hw⟩; rw [hw])
  go_ret
  exact ⟨rfl, rfl⟩

theorem strings_Split1 (s : ByteArray) (c : UInt8) (w : World) (hs : s.size ≤ 1000000000) :
    Calls Tryz.prog 65 #[.string s, .string ⟨#[c]⟩] w fun e w' => e = .returned (.slice (some ⟨w.heap.size, 0, none⟩) (partsB c s).length (partsB c s).length) ∧ own 9 w.heap.size w' (.slice (some ⟨w.heap.size, 0, none⟩) (partsB c s).length (partsB c s).length) (partsB c s) ∧ Below w.heap.size w w' ∧ w'.heap.size = w.heap.size + 1 :=
  (split_any Tryz.lays146 (by kernel_rfl) s c w (by omega)).mono fun e w' h => by
    obtain ⟨h1, h2⟩ := h
    subst h2
    exact ⟨h1, list_str 9 w.heap.size w (partsB c s) (fun x hx => by have := parts_sizeZ hx; unfold maxLen; omega) (by have := parts_lenZ c s; unfold maxLen; omega) (Nat.le_refl _), (Below.refl _ _).alloc (Nat.le_refl _) _, by simp⟩

end Go.Proofs.YtpinkbodbedajaaGreatDoor

namespace Go.Proofs.YtpinkbodbedajaaGreatDoor
open Go.RowKit

theorem join_rd {A : Option Addr} {c : Nat} {w : World} {ps : List ByteArray} {sep : ByteArray} (h : rd w w.heap.size (.slice A ps.length c) ps) (h0 : ps.length ≠ 0) (hN : ps.length ≤ 1000000000) (hs : (joinT ps sep).size ≤ 140737488355328) :
    Calls Tryz.prog 57 #[.slice A ps.length c, .string sep] w fun e w' => e = .returned (.string (joinT ps sep)) ∧ Below w.heap.size w w' := by
  obtain ⟨A', n', c', hv, hn', hc, hm, hr⟩ := h
  injection hv with e1 e2 e3
  subst e1 e2 e3
  obtain ⟨b, o, rfl, hb, _, _⟩ := hr.str 0 (by omega)
  refine Tryz.strings_Join b o c ps sep w (fun j x hx => ?_) hb (by omega) hc (by rw [joinT_len]; exact hs)
  obtain ⟨hj, rfl⟩ := List.getElem?_eq_some_iff.1 hx
  obtain ⟨b', o', e, _, _, h1⟩ := hr.str j hj
  injection e with e
  injection e with e1 e2
  subst e1 e2
  exact h1

set_option maxHeartbeats 400000 in
theorem impl_listText (v : Value) (ps : List ByteArray) (w : World) (hv : rd w w.heap.size v ps) (hN : ps.length ≤ 1000000000) (hz : ∀ p ∈ ps, p.size ≤ 1000) :
    Calls Tryz.prog 195 #[v] w fun e w' => e = .returned (.string (listT ps)) ∧ Below w.heap.size w w' := by
  have HV := Lib.hid hv
  obtain ⟨A, n, c, rfl, hn, hc, hm, _⟩ := hv
  subst hn
  unfold maxLen at hm
  by_cases h0 : ps.length = 0
  · have HL : Hid (listT ps = ⟨#[45]⟩) := by show _ = _; unfold listT; rw [if_pos h0]
    have hl0 : ((ps.length : Int) == 0) = true := by rw [h0]; rfl
    clear h0
    go_enter Tryz.func195, Tryz.ntmps195
    go_wp2_with fail
    go_ret
    exact ⟨ret_str HL.out.symm, Below.refl _ _⟩
  · have HL : Hid (listT ps = joinT ps spT) := by show _ = _; unfold listT; rw [if_neg h0]
    have hl0 : ((ps.length : Int) == 0) = false := beq_eq_false_iff_ne.2 (by omega)
    have hj := joinT_size ps spT 1000 hz
    have hj2 : ps.length * (1000 + spT.size) ≤ 1000000000 * 1001 := Nat.mul_le_mul hN (Nat.le_refl _)
    have HJ := Lib.hid (join_rd (sep := spT) HV.out h0 hN (by omega))
    clear h0 hj hj2
    go_enter Tryz.func195, Tryz.ntmps195
    go_wp2_with fail
    refine HJ.out.mono ?_
    rintro e w1 ⟨rfl, b1⟩
    go_wp2_with fail
    go_ret
    exact ⟨ret_str HL.out.symm, b1⟩

/-- The desk's eight cells. -/
theorem dsk_cells {B d : Nat} {w : World} {s : Dsk} {vH : Value} (h : dskAt B w d s vH) : ∃ (vL vO vF vN : Value) (os : List OfV),
    (w.cell? ⟨d, 0, none⟩ = some vL ∧ w.cell? ⟨d, 1, none⟩ = some (.int .i64 s.day.plan.bins) ∧ w.cell? ⟨d, 2, none⟩ = some (.int .i64 s.day.plan.passes) ∧ w.cell? ⟨d, 3, none⟩ = some vO ∧ w.cell? ⟨d, 4, none⟩ = some vF ∧ w.cell? ⟨d, 5, none⟩ = some vH ∧ w.cell? ⟨d, 6, none⟩ = some (.int .i64 s.day.size) ∧ w.cell? ⟨d, 7, none⟩ = some vN) ∧
    (∀ i, w.frozen? ⟨d, i, none⟩ = false) ∧
    own 89 B w vL s.letters ∧ own 9 B w vO s.day.plan.order ∧ own 94 B w vF s.day.fwds ∧ own 9 B w vH s.day.held ∧ isN 102 174 B w vN s.net os ∧ apart vO vH := by
  obtain ⟨vL, vO, vF, vN, os, h0, h1⟩ := h
  refine ⟨vL, vO, vF, vN, os, ?_, fun i => frozen_of_row _ _ _ _ _ h0, h1⟩
  refine ⟨?_, ?_, ?_, ?_, ?_, ?_, ?_, ?_⟩ <;> (rw [cell_of_row _ _ _ _ _ _ h0]; rfl)
theorem own_d {α : Type} [Flat α] {T base d : Nat} {w : World} {v u : Value} {xs : List α} (h : own T base w v xs) (hd : ∃ cur : Array Value, w.heap[d]? = some (.cells cur 104 (0, 0))) (hT : T ≠ 104) (i : Nat) : own T base (w.setCell ⟨d, i, none⟩ u) v xs :=
  h.keepT fun k cur hc => Below.heap_setCell _ _ _ _ fun e => by
    obtain ⟨c2, h2⟩ := hd
    have e : k = d := e
    subst e
    rw [h2] at hc
    injection hc with hc
    injection hc with _ hc _
    exact hT hc.symm
theorem isN_d {T1 T2 base d : Nat} {w : World} {v u : Value} {net : List Ofc} {os : List OfV} (h : isN T1 T2 base w v net os) (hd : ∃ cur : Array Value, w.heap[d]? = some (.cells cur 104 (0, 0))) (h1 : T1 ≠ 104) (h2 : T2 ≠ 104) (i : Nat) : isN T1 T2 base (w.setCell ⟨d, i, none⟩ u) v net os :=
  ⟨own_d h.1 hd h1 i, h.2.1, fun k a b => ⟨(h.2.2.1 k a b).1, own_d (h.2.2.1 k a b).2 hd h2 i⟩, h.2.2.2.1, h.2.2.2.2⟩
theorem dskAt.setNet {B d : Nat} {w : World} {s : Dsk} {vH vN' : Value} {net' : List Ofc} {os' : List OfV} (h : dskAt B w d s vH) (hn : isN 102 174 B w vN' net' os') : dskAt B (w.setCell ⟨d, 7, none⟩ vN') d { s with net := net' } vH := by
  have ho := h.obj
  obtain ⟨vL, vO, vF, vN, os, h0, h1, h2, h3, h4, h5, h6⟩ := h
  refine ⟨vL, vO, vF, vN', os', ?_, own_d h1 ho (by decide) 7, own_d h2 ho (by decide) 7, own_d h3 ho (by decide) 7, own_d h4 ho (by decide) 7, isN_d hn ho (by decide) (by decide) 7, h6⟩
  have := heap_setCell_same w d 7 _ _ vN' h0
  rw [this]
  rfl

set_option maxRecDepth 100000 in
set_option maxHeartbeats 400000 in
theorem desk_setNet (B d : Nat) (s : Dsk) (vH : Value) (net : List Ofc) (w : World) (hD : dskAt B w d s vH) (hB : B ≤ w.heap.size) (hk : netOk net = true) :
    Calls Tryz.prog 136 #[.pointer (some ⟨d, 0, none⟩), .string (fmtN net)] w fun e w' => e = .returned (.string okW) ∧ dskAt B w' d { s with net := net } vH ∧ Kd d vH w w' := by
  have HD := Lib.hid hD; clear hD
  have HP : Hid (∀ W : World, Calls Tryz.prog 200 #[.string (fmtN net)] W fun e w' => ∃ v', e = .returned (.tuple #[v', .bool true]) ∧ ownN 102 174 W.heap.size w' v' net ∧ Below W.heap.size W w') := fun W => by
    have h := impl_ParseNetwork (fmtN net) W (by have := fmtN_size net; unfold maxLen; omega)
    rw [(pn_fmt hk).1, (pn_fmt hk).2] at h
    exact h
  go_enter Tryz.func136, Tryz.ntmps136
  go_wp2_with fail
  refine (HP.out _).mono ?_
  rintro e w1 ⟨v1, rfl, ⟨os1, o1⟩, b1⟩
  have HD1 := Lib.hid (HD.out.below b1)
  obtain ⟨A, n, c, rfl, -, -, -, -⟩ := o1.rd
  have HO1 := Lib.hid o1
  have HK1 := Lib.hid (Kd.of_below (d := d) (vH := vH) b1)
  obtain ⟨_, _, _, _, _, ⟨_, _, _, _, _, _, _, c7⟩, hf, _⟩ := dsk_cells HD1.out
  have f7 := hf 7
  clear o1 b1 hf
  go_wp2_with fail
  go_ret
  exact ⟨rfl, HD1.out.setNet (HO1.out.base_ hB), HK1.out.set 7 _⟩

end Go.Proofs.YtpinkbodbedajaaGreatDoor
