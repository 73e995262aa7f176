/- D2 DP DQ GR NU NH NI DR YA YB -/
import Derived.Test.YtpinkbodbedajaaGreatDoorQ13
import Derived.Test.YtpinkbodbedajaaGreatDoorQ1
import Derived.Test.YtpinkbodbedajaaGreatDoorQ11
import Derived.Test.YtpinkbodbedajaaGreatDoorQ7
import Derived.Test.YtpinkbodbedajaaGreatDoorQ5
import Derived.Deep.RegionHeld3
import Derived.Test.YtpinkbodbedajaaGreatDoorQ2
namespace Go.Proofs.YtpinkbodbedajaaGreatDoor
open Go.RowKit

theorem grown_trans {a b c : World} {row : Option Nat} (h : a.grownBy b row) (k : b.grownBy c row) : a.grownBy c row :=
  ⟨k.os.trans h.os, k.tape.trans h.tape, k.output.trans h.output, Nat.le_trans h.size k.size, fun i hi hne => (k.block i (Nat.lt_of_lt_of_le hi h.size) hne).trans (h.block i hi hne)⟩
theorem rdr.alloc {w : World} {g p : Nat} (h : rdr w g p) (o : Obj) : rdr (w.alloc o) g p := h.below ((Below.refl _ _).alloc (Nat.le_refl _) o)

/-- Below block b only block g has turned. -/
structure kept2 (g b : Nat) (w w' : World) : Prop where
  os : w'.os = w.os
  tape : w'.tape = w.tape
  output : w'.output = w.output
  size : w.heap.size ≤ w'.heap.size
  block : ∀ k, k < b → k ≠ g → w'.heap[k]? = w.heap[k]?
theorem kept2.refl (g b : Nat) (w : World) : kept2 g b w w := ⟨rfl, rfl, rfl, Nat.le_refl _, fun _ _ _ => rfl⟩
theorem kept2.trans {g b : Nat} {u v w : World} (h : kept2 g b u v) (k : kept2 g b v w) : kept2 g b u w :=
  ⟨k.os.trans h.os, k.tape.trans h.tape, k.output.trans h.output, Nat.le_trans h.size k.size, fun i hi hne => (k.block i hi hne).trans (h.block i hi hne)⟩
theorem kept2.grown {g b : Nat} {u w : World} (h : u.grownBy w (some g)) (hb : b ≤ u.heap.size) : kept2 g b u w :=
  ⟨h.os, h.tape, h.output, h.size, fun i hi hne => h.block i (by omega) (fun e => by injection e; omega)⟩
theorem kept2.below {g b : Nat} {u w : World} (h : Below b u w) : kept2 g b u w := ⟨h.os, h.tape, h.output, h.size, fun i hi _ => h.block i hi⟩
/-- Only blocks of S turned, and new ones. -/
structure keptS (S : Nat → Prop) (w w' : World) : Prop where
  os : w'.os = w.os
  tape : w'.tape = w.tape
  output : w'.output = w.output
  size : w.heap.size ≤ w'.heap.size
  block : ∀ k, k < w.heap.size → ¬ S k → w'.heap[k]? = w.heap[k]?
theorem keptS.refl (S : Nat → Prop) (w : World) : keptS S w w := ⟨rfl, rfl, rfl, Nat.le_refl _, fun _ _ _ => rfl⟩
theorem keptS.next {S : Nat → Prop} {u w w' : World} {row : Option Nat} (h : keptS S u w) (hg : w.grownBy w' row) (hS : ∀ r, row = some r → S r ∨ u.heap.size ≤ r) : keptS S u w' :=
  ⟨hg.os.trans h.os, hg.tape.trans h.tape, hg.output.trans h.output, Nat.le_trans h.size hg.size, fun k hk hn => (hg.block k (Nat.lt_of_lt_of_le hk h.size) fun e => by
    rcases hS k e.symm with h1 | h1
    · exact hn h1
    · omega).trans (h.block k hk hn)⟩
theorem keptS.below {S : Nat → Prop} {u w w' : World} (h : keptS S u w) (hB : Below u.heap.size w w') : keptS S u w' :=
  ⟨hB.os.trans h.os, hB.tape.trans h.tape, hB.output.trans h.output, Nat.le_trans h.size hB.size, fun k hk hn => (hB.block k hk).trans (h.block k hk hn)⟩
theorem keptS.alloc {S : Nat → Prop} {u w : World} (h : keptS S u w) (o : Obj) : keptS S u (w.alloc o) := h.below ((Below.refl _ _).alloc h.size o)
theorem keptS.set {S : Nat → Prop} {u w : World} (h : keptS S u w) (p : Addr) (hp : S p.block ∨ u.heap.size ≤ p.block) (v : Value) : keptS S u (w.setCell p v) :=
  h.next (row := some p.block) (grown_setCell (World.grownBy.refl _ _) (.inl rfl) v) fun r e => by injection e with e; subst e; exact hp
theorem kept2.back {g b : Nat} {u v w : World} (h : u.grownBy v (some g)) (k : kept2 g b v w) (hb : u.heap.size ≤ b) : u.grownBy w (some g) :=
  ⟨k.os.trans h.os, k.tape.trans h.tape, k.output.trans h.output, Nat.le_trans h.size k.size, fun i hi hne => (k.block i (by omega) (fun e => hne (by rw [e]))).trans (h.block i hi hne)⟩

theorem own_ltr {T base g n c : Nat} {w : World} {xs : List Ltr} (h : own T base w (.slice (some ⟨g, 0, none⟩) n c) xs) (k : Nat) (hk : k < xs.length) :
    (xs[k]).ok ∧ w.cell? ⟨g, k * 2, none⟩ = some (.int .i64 (xs[k]).id) ∧ w.cell? ⟨g, k * 2 + 1, none⟩ = some (.string (xs[k]).code) := by
  obtain ⟨A, n', c', hv, _, _, _, hrd⟩ := h.rd
  obtain ⟨b, o, hA, _, hok, c1, c2⟩ := hrd.ltr k hk
  injection hv with e1 _ _
  subst e1
  injection hA with hA
  injection hA with hA1 hA2
  subst hA1 hA2
  rw [Nat.zero_add] at c1 c2
  exact ⟨hok, c1, c2⟩
theorem own_ne {α : Type} [El α] {T base g : Nat} {w : World} {v : Value} {xs : List α} (h : own T base w v xs) (hg : g < base) : v.ownBlock = none ∨ v.ownBlock ≠ some g := by
  cases hb : v.ownBlock with
  | none => exact .inl rfl
  | some k => exact .inr fun e => by have := (h.blk k hb).1; injection e; omega
theorem rdr.append {α : Type} [El α] {T base g p : Nat} {w w' : World} {v : Value} {xs : List α} (h : rdr w g p) (ho : own T base w v xs) (hg : w.grownBy w' v.ownBlock) (hlt : g < base) : rdr w' g p := by
  cases hb : v.ownBlock with
  | none => rw [hb] at hg; exact h.below (below_of_grown hg (Nat.le_refl _) (fun k hk => by cases hk))
  | some k => rw [hb] at hg; exact h.grown hg (by have := (ho.blk k hb).1; omega)
theorem grown_of_below {a w w' : World} {row : Option Nat} (h : a.grownBy w row) (hb : Below a.heap.size w w') : a.grownBy w' row :=
  ⟨hb.os.trans h.os, hb.tape.trans h.tape, hb.output.trans h.output, Nat.le_trans h.size hb.size, fun i hi hne => (hb.block i hi).trans (h.block i hi hne)⟩

set_option maxHeartbeats 1000000 in
theorem rd_l1Some (g p : Nat) (w : World) (hr : rdr w g p) (hp : p ≤ 1000000000000) :
    Calls Tryz.prog 141 #[.pointer (some ⟨g, 0, none⟩)] w fun e w' => ∃ (s : ByteArray) (p' : Nat), e = .returned (.string s) ∧ s.size = 7 ∧ rdr w' g p' ∧ p' ≤ p + 10 ∧ w.grownBy w' (some g) := by
  have hlt := hr.lt
  go_enter Tryz.func141, Tryz.ntmps141
  go_wp2_with fail
  refine (rd_num 3 g p _ [120, 121, 7, 999] _ (hr.alloc _) (by omega) (list_own 3 (g + 1) w [120, 121, 7, 999] (by simp [isI64]) (by decide) (by omega)) (by decide)).mono ?_
  rintro e w1 ⟨x1, hx1, rfl, hr1, hg1⟩
  replace hg1 : w.grownBy w1 (some g) := grown_trans (World.grownBy_alloc w _ _) hg1
  have hlt1 := hr1.lt
  obtain ⟨N1, rfl⟩ := Int.eq_ofNat_of_zero_le (a := x1) (by simp at hx1; omega)
  have hN1 : N1 ≤ 999 := by simp at hx1; omega
  clear hx1
  go_wp2_with fail
  refine (rd_num 3 g (p + 1) _ [1, 2, 10, 99] _ (hr1.alloc _) (by omega) (list_own 3 (g + 1) w1 [1, 2, 10, 99] (by simp [isI64]) (by decide) (by omega)) (by decide)).mono ?_
  rintro e w2 ⟨x2, hx2, rfl, hr2, hg2⟩
  replace hg2 : w.grownBy w2 (some g) := grown_trans hg1 (grown_trans (World.grownBy_alloc w1 _ _) hg2)
  obtain ⟨N2, rfl⟩ := Int.eq_ofNat_of_zero_le (a := x2) (by simp at hx2; omega)
  have hN2 : N2 ≤ 999 := by simp at hx2; omega
  clear hx2
  go_wp2_with fail
  refine (spec_l1Show N1 3 _ (by omega) (by omega)).mono ?_
  rintro e w3 ⟨rfl, b3⟩
  have hs3 := showB_size N1 3
  generalize showB N1 3 = s3 at *
  go_wp2_with fail
  refine (spec_l1Show N2 2 _ (by omega) (by omega)).mono ?_
  rintro e w4 ⟨rfl, b4⟩
  have hs4 := showB_size N2 2
  generalize showB N2 2 = s4 at *
  have hr4 := (hr2.below b3).below b4
  have hg4 := grown_below (grown_below hg2 b3) b4
  go_wp2_with fail
  refine (rd_pick g (p + 1 + 1) 14 _ hr4 (by omega) (by unfold isI64; omega)).mono ?_
  rintro e w5 ⟨x5, rfl, hx5, hr5, hg5⟩
  obtain ⟨y0, y1⟩ := hx5.2 (by omega)
  obtain ⟨N5, rfl⟩ := Int.eq_ofNat_of_zero_le y0
  replace hg5 := grown_trans hg4 hg5
  clear hx5
  go_wp2_with fail
  refine (spec_l1Show N5 2 _ (by omega) (by omega)).mono ?_
  rintro e w6 ⟨rfl, b6⟩
  have hs6 := showB_size N5 2
  generalize showB N5 2 = s6 at *
  have hr6 := hr5.below b6
  have hg6 := grown_below hg5 b6
  go_wp2_with fail
  refine (rd_pick g (p + 1 + 1 + 1) 4 _ hr6 (by omega) (by unfold isI64; omega)).mono ?_
  rintro e w7 ⟨x7, rfl, hx7, hr7, hg7⟩
  replace hg7 := grown_trans hg6 hg7
  clear hx7
  by_cases h7 : x7 = 0
  · have h7' : (x7 == 0) = true := by simp [h7]
    clear h7
    go_wp2_with fail
    refine (rd_pick g (p + 1 + 1 + 1 + 1) 256 _ hr7 (by omega) (by unfold isI64; omega)).mono ?_
    rintro e w8 ⟨x8, rfl, hx8, hr8, hg8⟩
    obtain ⟨a8, b8⟩ := hx8.2 (by omega)
    obtain ⟨N8, rfl⟩ := Int.eq_ofNat_of_zero_le a8
    replace hg8 := grown_trans hg7 hg8
    clear hx8
    go_wp2_with fail
    refine (rd_pick g (p + 1 + 1 + 1 + 1 + 1) 256 _ hr8 (by omega) (by unfold isI64; omega)).mono ?_
    rintro e w9 ⟨x9, rfl, hx9, hr9, hg9⟩
    obtain ⟨a9, b9⟩ := hx9.2 (by omega)
    obtain ⟨N9, rfl⟩ := Int.eq_ofNat_of_zero_le a9
    replace hg9 := grown_trans hg8 hg9
    clear hx9
    have m1 : N8 * N9 ≤ 256 * 256 := Nat.mul_le_mul (by omega) (by omega)
    have m1' : (N8 : Int) * (N9 : Int) = ((N8 * N9 : Nat) : Int) := by rw [Int.natCast_mul]
    have M1 := Lib.hid m1'; clear m1'
    have i1 : (0 : Int) ≤ (N8 : Int) * (N9 : Int) := by rw [M1.out]; omega
    have i2 : (N8 : Int) * (N9 : Int) ≤ 65536 := by rw [M1.out]; omega
    go_wp2_with fail
    refine (rd_pick g (p + 1 + 1 + 1 + 1 + 1 + 1) 150 _ hr9 (by omega) (by unfold isI64; omega)).mono ?_
    rintro e w10 ⟨x10, rfl, hx10, hr10, hg10⟩
    obtain ⟨a10, b10⟩ := hx10.2 (by omega)
    obtain ⟨N10, rfl⟩ := Int.eq_ofNat_of_zero_le a10
    replace hg10 := grown_trans hg9 hg10
    clear hx10
    have m2 : N8 * N9 * N10 ≤ 256 * 256 * 256 := Nat.mul_le_mul m1 (by omega)
    have m2' : (N8 : Int) * (N9 : Int) * (N10 : Int) = ((N8 * N9 * N10 : Nat) : Int) := by rw [Int.natCast_mul, Int.natCast_mul]
    have M2 := Lib.hid m2'; clear m2'
    have j1 : (0 : Int) ≤ (N8 : Int) * (N9 : Int) * (N10 : Int) := by rw [M2.out]; omega
    have j2 : (N8 : Int) * (N9 : Int) * (N10 : Int) ≤ 16777216 := by rw [M2.out]; omega
    go_wp2_with fail
    refine (rd_pick g (p + 1 + 1 + 1 + 1 + 1 + 1 + 1) 256 _ hr10 (by omega) (by unfold isI64; omega)).mono ?_
    rintro e w11 ⟨x11, rfl, hx11, hr11, hg11⟩
    obtain ⟨a11, b11⟩ := hx11.2 (by omega)
    obtain ⟨N11, rfl⟩ := Int.eq_ofNat_of_zero_le a11
    replace hg11 := grown_trans hg10 hg11
    clear hx11
    go_wp2_with fail
    rw [M2.out]
    refine (spec_l1Show (N8 * N9 * N10 + N11) 7 _ (by omega) (by omega)).mono ?_
    rintro e w12 ⟨rfl, b12⟩
    have hs12 := showB_size (N8 * N9 * N10 + N11) 7
    generalize showB (N8 * N9 * N10 + N11) 7 = s12 at *
    have H12 := Lib.hid hs12; clear hs12
    go_wp2_with fail
    go_ret
    exact ⟨s12, _, rfl, H12.out, hr11.below b12, by omega, grown_below hg11 b12⟩
  · have h7' : (x7 == 0) = false := by simp [h7]
    clear h7
    have HS : Hid ((s3 ++ s4 ++ s6).size = 7) := by show _ = _; rw [ByteArray.size_append, ByteArray.size_append]; omega
    go_wp2_with fail
    go_ret
    exact ⟨_, _, rfl, HS.out, hr7, by omega, hg7⟩

set_option maxHeartbeats 400000 in
theorem rd_l1Bad (g p : Nat) (s : ByteArray) (w : World) (hr : rdr w g p) (hp : p ≤ 1000000000000) (h1 : 1 ≤ s.size) (h2 : s.size ≤ 1000) :
    Calls Tryz.prog 81 #[.pointer (some ⟨g, 0, none⟩), .string s] w fun e w' => ∃ (t : ByteArray), e = .returned (.string t) ∧ t.size ≤ s.size + 1 ∧ rdr w' g (p + 1) ∧ w.grownBy w' (some g) := by
  go_enter Tryz.func81, Tryz.ntmps81
  go_wp2_with fail
  refine (rd_pick g p 40 _ hr (by omega) (by unfold isI64; omega)).mono ?_
  rintro e w1 ⟨x, rfl, hx, hr1, hg1⟩
  clear hx
  by_cases c0 : x = 0
  · have d0 : (x == 0) = true := by simp [c0]
    clear c0
    go_wp2_with fail
    go_ret
    exact ⟨_, rfl, by rw [ByteArray.size_append]; exact Nat.le_refl _, hr1, hg1⟩
  have d0 : (x == 0) = false := by simp [c0]
  by_cases c1 : x = 1
  · have d1 : (x == 1) = true := by simp [c1]
    clear c1 c0
    go_wp2_with fail
    go_ret
    refine ⟨_, rfl, ?_, hr1, hg1⟩
    rw [ByteArray.size_append, ByteArray.size_extract]
    show _ + 1 ≤ _
    omega
  have d1 : (x == 1) = false := by simp [c1]
  by_cases c2 : x = 2
  · have d2 : (x == 2) = true := by simp [c2]
    clear c2 c1 c0
    go_wp2_with fail
    go_ret
    exact ⟨_, rfl, Nat.zero_le _, hr1, hg1⟩
  have d2 : (x == 2) = false := by simp [c2]
  clear c0 c1 c2
  go_wp2_with fail
  go_ret
  exact ⟨_, rfl, by omega, hr1, hg1⟩

/-- The letters that are drawn. -/
def drawn (xs : List Ltr) : Prop := ∀ x ∈ xs, 1 ≤ x.code.size ∧ x.code.size ≤ 8

set_option maxHeartbeats 1000000 in
theorem rd_l2Some (g p : Nat) (f : Int) (w : World) (hr : rdr w g p) (hp : p ≤ 100000000000) (hf1 : 0 ≤ f) (hf2 : f ≤ 1000) :
    Calls Tryz.prog 108 #[.pointer (some ⟨g, 0, none⟩), .int .i64 f] w fun e w' => ∃ (v : Value) (xs : List Ltr) (p' : Nat), e = .returned v ∧ own 89 w.heap.size w' v xs ∧ xs.length ≤ 14 ∧ (∀ x ∈ xs, x.code.size = 7) ∧ rdr w' g p' ∧ p' ≤ p + 200 ∧ w.grownBy w' (some g) := by
  have hlt := hr.lt
  obtain ⟨i0, hi, hz0, hz1, hz2⟩ := info_parts Tryz.infoLtr
  go_enter Tryz.func108, Tryz.ntmps108
  go_wp2_with fail
  have hA := hr.alloc (Obj.cells #[] 89)
  have hoA : own (α := Ltr) 89 w.heap.size (w.alloc (Obj.cells #[] 89)) (.slice (some ⟨w.heap.size, 0, none⟩) 0 0) [] := own.made0 w _ (Nat.le_refl _)
  have hgA := World.grownBy_alloc w (Obj.cells #[] 89) (some g)
  have hzA : w.heap.size + 1 = (w.alloc (Obj.cells #[] 89)).heap.size := by simp
  generalize w.alloc (Obj.cells #[] 89) = wA at *
  rw [hzA]
  have HZA := Lib.hid hzA; clear hzA
  have hltA := hA.lt
  refine (rd_num 3 g p _ [6, 4, 9, 2, 14, 0, 1] _ (hA.alloc _) (by omega) (list_own 3 (g + 1) wA [6, 4, 9, 2, 14, 0, 1] (by simp [isI64]) (by decide) (by omega)) (by decide)).mono ?_
  rintro e w1 ⟨n, hn, rfl, hr1, hg1⟩
  replace hg1 : wA.grownBy w1 (some g) := grown_trans (World.grownBy_alloc wA _ _) hg1
  have ho1 := hoA.grown hg1 (own_ne hoA hlt)
  have hg1' := grown_trans hgA hg1
  have hn2 : 0 ≤ n ∧ n ≤ 14 := by simp at hn; omega
  obtain ⟨hn0, hn1⟩ := hn2
  obtain ⟨N, rfl⟩ := Int.eq_ofNat_of_zero_le hn0
  clear hn hoA hA hgA hg1
  go_wp2_with fail
  go_loopw [5, 6] (fun t i wr => ∃ (k : Nat) (xs : List Ltr) (q : Nat), k ≤ N ∧ i = .int .i64 k ∧ xs.length + k = N ∧ own 89 w.heap.size wr t xs ∧ Hid (∀ x ∈ xs, x.code.size = 7) ∧ rdr wr g q ∧ q + 10 * k ≤ p + 1 + 10 * N ∧ w.grownBy wr (some g)) (fun _ i _ => (intOf i).toNat)
  case atStart => exact ⟨N, [], p + 1, Nat.le_refl _, rfl, by simp, ho1, fun x hx => by simp at hx, hr1, by omega, hg1'⟩
  case round =>
    obtain ⟨k, xs, q, hk, rfl, hxk, ho, HX, hrq, hqb, hgq⟩ := hrel
    obtain ⟨w2, rfl⟩ : ∃ w2 : World, w2 = wr := ⟨_, rfl⟩
    clear ho1 hr1 hg1'
    have HXK := Lib.hid hxk
    have hxl : xs.length ≤ 14 := by omega
    clear hxk
    obtain ⟨A, m, c, hv, hm, _, _, _⟩ := ho.rd
    subst hm hv
    by_cases hk0 : 0 < k
    · go_wp2_with fail
      refine (rd_l1Some g q _ hrq (by omega)).mono ?_
      rintro e w3 ⟨s, q', rfl, hs7, hr3, hq3, hg3⟩
      have HS7 := Lib.hid hs7
      have hne := own_ne ho hlt
      have ho3 := ho.grown hg3 hne
      have hgq3 := grown_trans hgq hg3
      have hz3 := hgq3.size
      have hsl : s.size ≤ maxLen := by rw [hs7]; decide
      clear hs7
      go_wp2_with (at_builtin; refine wpList_append1 (α := Ltr) rfl (.tmp 15) (.tmp 24) _ rfl w.heap.size 89 i0 _ 24 Tryz.underlying29 hi hz0 hz1 hz2 rfl (by decide) (.slice A xs.length c) xs ⟨f + xs.length * 7, s⟩ rfl (ho3.alloc _) ⟨w3.heap.size, 0, none⟩ 1 (Ltr.cells ⟨f + xs.length * 7, s⟩) rfl ⟨⟨⟨by show _ ≤ f + _; omega, by show f + _ ≤ _; omega⟩, hsl⟩, rfl⟩ (news_at w3 _ (Ltr.cells ⟨f + xs.length * 7, s⟩)) (by unfold maxLen; omega) (by omega) (by simp; omega) ?_; intro v' w4 ho4 hg4 _)
      have hb4 : Below w.heap.size w3 w4 := ((Below.refl _ _).alloc hz3 _).trans (below_append (ho3.alloc _) hg4 (by simp; omega))
      have hr4 : rdr w4 g q' := (hr3.alloc _).append (ho3.alloc _) hg4 hlt
      have hgq4 : w.grownBy w4 (some g) := grown_of_below hgq3 hb4
      clear hg4 hb4 hg3 hr3
      go_wp2_with fail
      go_roundw
      case rel =>
        refine ⟨k - 1, _, q', by omega, by go_num, by have := HXK.out; simp; omega, ho4, fun x hx => ?_, hr4, by omega, hgq4⟩
        rcases List.mem_append.1 hx with h | h
        · exact HX.out x h
        · simp at h
          subst h
          exact HS7.out
      case measure => simp [intOf]; omega
    · go_wp2_with fail
      go_ret
      exact ⟨_, xs, q, rfl, ho, hxl, HX.out, hrq, by omega, hgq⟩


end Go.Proofs.YtpinkbodbedajaaGreatDoor

namespace Go.Proofs.YtpinkbodbedajaaGreatDoor
open Go.RowKit

set_option maxHeartbeats 400000 in
theorem rd_LeastPasses (n b : Int) (w : World) :
    Calls Tryz.prog 169 #[.int .i64 n, .int .i64 b] w fun e w' => ∃ x : Int, e = .returned (.int .i64 x) ∧ -1 ≤ x ∧ x ≤ 4 ∧ w = w' := by
  go_enter Tryz.func169, Tryz.ntmps169
  by_cases hn : 0 ≤ n
  · go_wp2
    go_loop [5] (fun i => ∃ k : Nat, 1 ≤ k ∧ k ≤ 5 ∧ i = .int .i64 k) (fun i => 5 - (intOf i).toNat)
    case atStart => exact ⟨1, Nat.le_refl _, by omega, rfl⟩
    case round =>
      obtain ⟨k, hk1, hk5, rfl⟩ := hrel
      go_wp2_with fail
      refine (spec_l3Shape b k _).mono ?_
      rintro e _ ⟨rfl, rfl⟩
      cases hs : shapeOk b k
      · go_wp2_with fail
        go_ret
        exact ⟨_, rfl, by omega, by omega, rfl⟩
      · have hs2 : (2 ≤ b ∧ b ≤ 16) ∧ 1 ≤ (k : Int) ∧ (k : Int) ≤ 4 := by simpa [shapeOk] using hs
        have HS := Lib.hid hs; clear hs
        obtain ⟨⟨b1, b2⟩, k1, k2⟩ := hs2
        go_wp2_with fail
        refine (spec_l3Power b k _ b1 b2 (by omega)).mono ?_
        rintro e _ ⟨rfl, rfl⟩
        generalize powI b k = q
        by_cases hq : n ≤ q
        · go_wp2_with fail
          go_ret
          exact ⟨_, rfl, by omega, by omega, rfl⟩
        · go_wp2_with fail
          go_round
          case rel => exact ⟨k + 1, by omega, by omega, by go_num⟩
          case measure => simp [intOf]; omega
  · go_wp2
    go_loop [5] (fun i => i = .int .i64 1) (fun i => 0)
    case atStart => exact rfl
    case round =>
      subst hrel
      go_wp2
      go_ret
      exact ⟨_, rfl, by omega, by omega, rfl⟩

/-- The codes that are drawn. -/
def drawnC (xs : List ByteArray) : Prop := ∀ x ∈ xs, x.size = 7

set_option maxRecDepth 100000 in
set_option maxHeartbeats 1000000 in
theorem rd_l3Order (g p : Nat) (most : Int) (w : World) (hr : rdr w g p) (hp : p ≤ 100000000000) (hm1 : 1 ≤ most) (hm2 : most ≤ 100) :
    Calls Tryz.prog 168 #[.pointer (some ⟨g, 0, none⟩), .int .i64 most] w fun e w' => ∃ (v : Value) (xs : List ByteArray) (p' : Nat), e = .returned v ∧ own 9 w.heap.size w' v xs ∧ 1 ≤ xs.length ∧ xs.length ≤ 100 ∧ drawnC xs ∧ rdr w' g p' ∧ p' ≤ p + 1001 ∧ w.grownBy w' (some g) := by
  have hlt := hr.lt
  obtain ⟨i0, hi, hz0, hz1, hz2⟩ := info_parts Tryz.infoStr
  go_enter Tryz.func168, Tryz.ntmps168
  go_wp2_with fail
  have hA := hr.alloc (Obj.cells #[] 9)
  have hoA : own (α := ByteArray) 9 w.heap.size (w.alloc (Obj.cells #[] 9)) (.slice (some ⟨w.heap.size, 0, none⟩) 0 0) [] := own.made0 w _ (Nat.le_refl _)
  have hgA := World.grownBy_alloc w (Obj.cells #[] 9) (some g)
  generalize w.alloc (Obj.cells #[] 9) = wA at *
  refine (rd_pick g p most _ hA (by omega) (by unfold isI64; omega)).mono ?_
  rintro e w1 ⟨x, rfl, hx, hr1, hg1⟩
  obtain ⟨x0, x1⟩ := hx.2 (by omega)
  obtain ⟨N, rfl⟩ := Int.eq_ofNat_of_zero_le x0
  have ho1 := hoA.grown hg1 (own_ne hoA hlt)
  have hg1' := grown_trans hgA hg1
  clear hx hoA hA hgA hg1
  go_wp2_with fail
  go_loopw [5, 6] (fun t i wr => ∃ (k : Nat) (xs : List ByteArray) (q : Nat), k ≤ N + 1 ∧ i = .int .i64 k ∧ xs.length + k ≤ N + 1 ∧ Hid (k = N + 1 ∨ 1 ≤ xs.length) ∧ own 9 w.heap.size wr t xs ∧ Hid (drawnC xs) ∧ rdr wr g q ∧ q + 10 * k ≤ p + 1 + 10 * (N + 1) ∧ w.grownBy wr (some g)) (fun _ i _ => (intOf i).toNat)
  case atStart => exact ⟨N + 1, [], p + 1, Nat.le_refl _, by go_num, by simp, .inl rfl, ho1, fun x hx => by simp at hx, hr1, by omega, hg1'⟩
  case round =>
    obtain ⟨k, xs, q, hk, rfl, hxk, HK, ho, HX, hrq, hqb, hgq⟩ := hrel
    obtain ⟨w2, rfl⟩ : ∃ w2 : World, w2 = wr := ⟨_, rfl⟩
    clear ho1 hr1 hg1'
    have HXK := Lib.hid hxk
    have hxl : xs.length ≤ 100 := by omega
    clear hxk
    by_cases hk0 : 0 < k
    · go_wp2_with fail
      refine (rd_l1Some g q _ hrq (by omega)).mono ?_
      rintro e w3 ⟨s, q', rfl, hs7, hr3, hq3, hg3⟩
      have HS7 := Lib.hid hs7
      have hne := own_ne ho hlt
      have ho3 := ho.grown hg3 hne
      have hgq3 := grown_trans hgq hg3
      have hz3 := hgq3.size
      have hsl : s.size ≤ maxLen := by rw [hs7]; decide
      clear hs7 hg3 hne ho
      have HO3 := Lib.hid ho3
      obtain ⟨A, m, c, rfl, hm, _, _, _⟩ := ho3.rd
      subst hm
      clear ho3
      go_wp2_with fail
      refine (spec_l3Rank _ xs s _ HO3.out.rd).mono ?_
      rintro e _ ⟨rfl, rfl⟩
      have hrk := rkI_range xs s
      have HRK : Hid (rkI xs s < 0 ∨ 1 ≤ xs.length) := by show _ ∨ _; omega
      generalize rkI xs s = z at *
      by_cases hz : z < 0
      · go_wp2_with (at_builtin; refine wpList_append1 (α := ByteArray) rfl (.tmp 23) (.tmp 25) _ rfl w.heap.size 9 i0 _ 16 Tryz.underlying23 hi hz0 hz1 hz2 rfl (by decide) (.slice A xs.length c) xs s rfl (HO3.out.alloc _) ⟨w3.heap.size, 0, none⟩ 1 [.string s] rfl ⟨hsl, rfl⟩ (news_at w3 _ [.string s]) (by unfold maxLen; omega) (by omega) (by simp; omega) ?_; intro v' w4 ho4 hg4 _)
        have hb4 : Below w.heap.size w3 w4 := ((Below.refl _ _).alloc hz3 _).trans (below_append (HO3.out.alloc _) hg4 (by simp; omega))
        have hr4 : rdr w4 g q' := (hr3.alloc _).append (HO3.out.alloc _) hg4 hlt
        have hgq4 : w.grownBy w4 (some g) := grown_of_below hgq3 hb4
        clear hg4 hb4 hr3
        go_wp2_with fail
        go_roundw
        case rel =>
          refine ⟨k - 1, _, q', by omega, by go_num, by have := HXK.out; simp; omega, .inr (by simp), ho4, fun x hx => ?_, hr4, by omega, hgq4⟩
          rcases List.mem_append.1 hx with h | h
          · exact HX.out x h
          · simp at h
            subst h
            exact HS7.out
        case measure => simp [intOf]; omega
      · have HZ := Lib.hid hz; clear hz
        have hz' : 0 ≤ z := by have := HZ.out; omega
        go_wp2_with fail
        go_roundw
        case rel => exact ⟨k - 1, xs, q', by omega, by go_num, by have := HXK.out; omega, .inr (by have := HRK.out; have := HZ.out; omega), HO3.out, HX.out, hr3, by omega, hgq3⟩
        case measure => simp [intOf]; omega
    · have HO := Lib.hid ho
      obtain ⟨A, m, c, rfl, hm, _, _, _⟩ := ho.rd
      clear hm ho
      go_wp2_with fail
      go_ret
      exact ⟨_, xs, q, rfl, HO.out, by have := HK.out; omega, hxl, HX.out, hrq, by omega, hgq⟩

end Go.Proofs.YtpinkbodbedajaaGreatDoor

namespace Go.Proofs.YtpinkbodbedajaaGreatDoor
open Go.RowKit

theorem ownP.grown {T base : Nat} {w w' : World} {v : Value} {p : Pln} {row : Option Nat} (h : ownP T base w v p) (hg : w.grownBy w' row) (hr : ∀ k, row = some k → k < base) : ownP T base w' v p := by
  obtain ⟨vo, h1, h2, h3, h4⟩ := h
  refine ⟨vo, h1, h2, h3, h4.grown hg ?_⟩
  cases hb : vo.ownBlock with
  | none => exact .inl rfl
  | some k => exact .inr fun e => by have h1 := (h4.blk k hb).1; have h2 := hr k e.symm; omega
theorem ownP.base_ {T base base' : Nat} {w : World} {v : Value} {p : Pln} (h : ownP T base w v p) (hb : base' ≤ base) : ownP T base' w v p := by
  obtain ⟨vo, h1, h2, h3, h4⟩ := h
  exact ⟨vo, h1, h2, h3, h4.base_ hb⟩

theorem Tryz.sizePln : (Tryz.prog.info? 25).map (·.size) = some 3 := by kernel_rfl
theorem three_set {w : World} {g : Nat} {T : TypeId} {u0 u1 u2 a b d : Value} (h : w.heap[g]? = some (.cells #[u0, u1, u2] T (0, 0))) :
    (((w.setCell ⟨g, 0, none⟩ a).setCell ⟨g, 1, none⟩ b).setCell ⟨g, 2, none⟩ d).heap[g]? = some (.cells #[a, b, d] T (0, 0)) :=
  heap_setCell_same _ _ _ _ _ _ (heap_setCell_same _ _ _ _ _ _ (heap_setCell_same _ _ _ _ _ _ h))
section
variable {P : Program} {fn : Func} {R : Ending → World → Prop} {a : Act} {w : World} {p u v r : Tmp} {ty : TypeId} {g : Nat} {t : TypeId} {cs : Array Value} {d : TypeDesc}
theorem loadBox (hg : w.heap[g]? = some (.cells cs t (0, 0))) (hu : P.underlying ty = some d) (hd : (match d with | .struct _ | .array _ _ => true | _ => false) = true) (hi : (P.info? ty).map (·.size) = some cs.size) :
    (loadVar ty ⟨g, 0, none⟩).run P w = .ok (.agg cs) w := run_loadVar_row w g t ty cs (0, 0) d hg hu hd hi
theorem ret_box (h : fn.results = #[.cell p ty]) (hp : a.tmps.getD p undef = .pointer (some ⟨g, 0, none⟩)) (hg : w.heap[g]? = some (.cells cs t (0, 0)))
    (hu : P.underlying ty = some d) (hd : (match d with | .struct _ | .array _ _ => true | _ => false) = true) (hi : (P.info? ty).map (·.size) = some cs.size) (hf : a.defers = [])
    (hR : R (.returned (.agg cs)) w) : bodyPost P fn R .ret a w :=
  bodyPost_ret (results_cell_row h a.tmps w g t cs (0, 0) d hp hg hu hd hi) hf hR
theorem ret_box1 (h : fn.results = #[.cell p ty, .tmp u]) (hp : a.tmps.getD p undef = .pointer (some ⟨g, 0, none⟩)) (hg : w.heap[g]? = some (.cells cs t (0, 0)))
    (hu : P.underlying ty = some d) (hd : (match d with | .struct _ | .array _ _ => true | _ => false) = true) (hi : (P.info? ty).map (·.size) = some cs.size) (hf : a.defers = [])
    (hR : R (.returned (.tuple #[.agg cs, a.tmps.getD u undef])) w) : bodyPost P fn R .ret a w := by
  refine bodyPost_ret ?_ hf hR
  have hp' : a.tmps[p]?.getD undef = .pointer (some ⟨g, 0, none⟩) := by simpa using hp
  simp [results, h, hp', asAddr, loadBox hg hu hd hi, Sem.run_bind, Result.andThen]
theorem ret_box2 (h : fn.results = #[.cell p ty, .tmp u, .tmp v]) (hp : a.tmps.getD p undef = .pointer (some ⟨g, 0, none⟩)) (hg : w.heap[g]? = some (.cells cs t (0, 0)))
    (hu : P.underlying ty = some d) (hd : (match d with | .struct _ | .array _ _ => true | _ => false) = true) (hi : (P.info? ty).map (·.size) = some cs.size) (hf : a.defers = [])
    (hR : R (.returned (.tuple #[.agg cs, a.tmps.getD u undef, a.tmps.getD v undef])) w) : bodyPost P fn R .ret a w := by
  refine bodyPost_ret ?_ hf hR
  have hp' : a.tmps[p]?.getD undef = .pointer (some ⟨g, 0, none⟩) := by simpa using hp
  simp [results, h, hp', asAddr, loadBox hg hu hd hi, Sem.run_bind, Result.andThen]
end
/-- A plan that is drawn. -/
def drawnP (p : Pln) : Prop := 2 ≤ p.bins ∧ p.bins ≤ 10 ∧ 1 ≤ p.passes ∧ p.passes ≤ 4 ∧ 1 ≤ p.order.length ∧ p.order.length ≤ 100 ∧ drawnC p.order

def l3SomePost (T : TypeId) (g p : Nat) (w : World) (e : Ending) (w' : World) : Prop :=
  ∃ (v : Value) (x : Pln) (p' : Nat), e = .returned v ∧ ownP T w.heap.size w' v x ∧ drawnP x ∧ rdr w' g p' ∧ p' ≤ p + 1002 ∧ w.grownBy w' (some g)
theorem l3SomePost_of {T g p q b A n c : _} {w w2 : World} {xs : List ByteArray} {y : Int} {V : Value} (hV : own T b w2 V xs) (hb : w.heap.size < b) (hr : rdr w2 g q) (hg : w.grownBy w2 (some g)) (hlt : g < w.heap.size) (hq : q ≤ p + 1 + 1001)
    (n0 : 2 ≤ n) (n1 : n ≤ 10) (y1 : 1 ≤ y) (y2 : y ≤ 4) (l1 : 1 ≤ xs.length) (l2 : xs.length ≤ 100) (hd : drawnC xs) (hVe : V = .slice A xs.length c) :
    l3SomePost T g p w (.returned (.agg #[.int .i64 n, .int .i64 y, .slice A xs.length c])) (((w2.setCell ⟨w.heap.size, 0, none⟩ (.int .i64 n)).setCell ⟨w.heap.size, 1, none⟩ (.int .i64 y)).setCell ⟨w.heap.size, 2, none⟩ (.slice A xs.length c)) := by
  subst hVe
  have HG := grown_setCell (p := ⟨w.heap.size, 2, none⟩) (grown_setCell (p := ⟨w.heap.size, 1, none⟩) (grown_setCell (p := ⟨w.heap.size, 0, none⟩) (World.grownBy.refl w2 (some w.heap.size)) (.inl rfl) (.int .i64 n)) (.inl rfl) (.int .i64 y)) (.inl rfl) (.slice A xs.length c)
  have HS := (((Below.refl w.heap.size w2).setCell (p := ⟨w.heap.size, 0, none⟩) (Nat.le_refl _) (.int .i64 n)).setCell (p := ⟨w.heap.size, 1, none⟩) (Nat.le_refl _) (.int .i64 y)).setCell (p := ⟨w.heap.size, 2, none⟩) (Nat.le_refl _) (.slice A xs.length c)
  exact ⟨_, ⟨n, y, xs⟩, q, rfl, ⟨_, rfl, ⟨by show _ ≤ n; omega, by show n ≤ _; omega⟩, ⟨by show _ ≤ y; omega, by show y ≤ _; omega⟩, (hV.grown HG (own_ne hV hb)).base_ (Nat.le_of_lt hb)⟩, ⟨n0, n1, y1, y2, l1, l2, hd⟩, hr.grown HG hlt, by omega, grown_of_below hg HS⟩

set_option maxRecDepth 100000 in
set_option maxHeartbeats 1000000 in
theorem rd_l3Some (g p : Nat) (w : World) (hr : rdr w g p) (hp : p ≤ 10000000000) :
    Calls Tryz.prog 104 #[.pointer (some ⟨g, 0, none⟩)] w (l3SomePost 9 g p w) := by
  have hlt := hr.lt
  go_enter Tryz.func104, Tryz.ntmps104
  go_wp2_with fail
  have hrA := hr.alloc (Obj.cells #[.int .i64 0, .int .i64 0, .slice none 0 0] 25)
  have hgA := World.grownBy_alloc w (Obj.cells #[.int .i64 0, .int .i64 0, .slice none 0 0] 25) (some g)
  have hzA : w.heap.size + 1 = (w.alloc (Obj.cells #[.int .i64 0, .int .i64 0, .slice none 0 0] 25)).heap.size := by simp
  have hbA := heap_alloc_new w (Obj.cells #[.int .i64 0, .int .i64 0, .slice none 0 0] 25)
  generalize w.alloc (Obj.cells #[.int .i64 0, .int .i64 0, .slice none 0 0] 25) = wA at *
  rw [hzA]
  have hltA := hrA.lt
  refine (rd_num 3 g p _ [4, 3, 5, 2, 10] _ (hrA.alloc _) (by omega) (list_own 3 (g + 1) wA [4, 3, 5, 2, 10] (by simp [isI64]) (by decide) (by omega)) (by decide)).mono ?_
  rintro e w1 ⟨n, hn, rfl, hr1, hg1⟩
  replace hg1 : wA.grownBy w1 (some g) := grown_trans (World.grownBy_alloc wA _ _) hg1
  have hb1 := (hg1.block w.heap.size (by omega) (fun e => by injection e; omega)).trans hbA
  replace hg1 := grown_trans hgA hg1
  have hn2 : 2 ≤ n ∧ n ≤ 10 := by simp at hn; omega
  obtain ⟨hn0, hn1⟩ := hn2
  have hz1 := hg1.size
  clear hn hrA hgA hbA
  have hlt1 : w.heap.size < w1.heap.size := (Array.getElem?_eq_some_iff.1 hb1).1
  have HB1 := Lib.hid hb1; clear hb1
  clear hzA hltA
  go_wp2_with fail
  refine (rd_l3Order g (p + 1) 12 _ hr1 (by omega) (by omega) (by omega)).mono ?_
  rintro e w2 ⟨v, xs, q, rfl, ho2, hl1, hl2, hd, hr2, hq, hg2⟩
  have hb2 := (hg2.block w.heap.size hlt1 (fun e => by injection e; omega)).trans HB1.out
  have HO2 := Lib.hid ho2
  have HZ1 := Lib.hid hz1; have HLT1 := Lib.hid hlt1
  replace hg2 := grown_trans hg1 hg2
  obtain ⟨A, m, c, rfl, hm, _, _, _⟩ := ho2.rd
  subst hm
  clear ho2 HB1 hg1 hr1
  have HD := Lib.hid hd; clear hd
  have HB2 := Lib.hid hb2; clear hb2
  go_wp2_with fail
  refine (rd_LeastPasses xs.length n _).mono ?_
  rintro e _ ⟨x, rfl, hx1, hx2, rfl⟩
  have h2 := HB2.out
  have g0 : w2.cell? ⟨w.heap.size, 0, none⟩ = some (.int .i64 0) := by rw [cell_of_row _ _ _ _ _ _ h2]; rfl
  have g1 : w2.cell? ⟨w.heap.size, 1, none⟩ = some (.int .i64 0) := by rw [cell_of_row _ _ _ _ _ _ h2]; rfl
  have g2 : w2.cell? ⟨w.heap.size, 2, none⟩ = some (.slice none 0 0) := by rw [cell_of_row _ _ _ _ _ _ h2]; rfl
  have f0 : w2.frozen? ⟨w.heap.size, 0, none⟩ = false := by simp [World.frozen?, h2]
  have f1 : w2.frozen? ⟨w.heap.size, 1, none⟩ = false := by simp [World.frozen?, h2]
  have f2 : w2.frozen? ⟨w.heap.size, 2, none⟩ = false := by simp [World.frozen?, h2]
  clear h2
  have HR2 := Lib.hid hr2; have HG2 := Lib.hid hg2
  clear hr2 hg2
  by_cases hx : x < 1
  · go_wp2_with fail
    refine ret_box rfl rfl (three_set HB2.out) Tryz.underlying25 rfl Tryz.sizePln rfl ?_
    exact l3SomePost_of HO2.out HLT1.out HR2.out HG2.out hlt hq hn0 hn1 (by omega) (by omega) hl1 hl2 HD.out rfl
  · go_wp2_with fail
    refine ret_box rfl rfl (three_set HB2.out) Tryz.underlying25 rfl Tryz.sizePln rfl ?_
    exact l3SomePost_of HO2.out HLT1.out HR2.out HG2.out hlt hq hn0 hn1 (by omega) hx2 hl1 hl2 HD.out rfl

end Go.Proofs.YtpinkbodbedajaaGreatDoor

namespace Go.Proofs.YtpinkbodbedajaaGreatDoor
open Go.RowKit







end Go.Proofs.YtpinkbodbedajaaGreatDoor

namespace Go.Proofs.YtpinkbodbedajaaGreatDoor
open Go.RowKit



end Go.Proofs.YtpinkbodbedajaaGreatDoor

namespace Go.Proofs.YtpinkbodbedajaaGreatDoor
open Go.RowKit





end Go.Proofs.YtpinkbodbedajaaGreatDoor

namespace Go.Proofs.YtpinkbodbedajaaGreatDoor
open Go.RowKit




end Go.Proofs.YtpinkbodbedajaaGreatDoor

namespace Go.Proofs.YtpinkbodbedajaaGreatDoor
open Go.RowKit

theorem own_cellStr {T base g n c : Nat} {w : World} {xs : List ByteArray} (h : own T base w (.slice (some ⟨g, 0, none⟩) n c) xs) (k : Nat) (hk : k < xs.length) : (xs[k]).size ≤ maxLen ∧ w.cell? ⟨g, k, none⟩ = some (.string xs[k]) := by
  obtain ⟨A, n', c', hv, _, _, _, hrd⟩ := h.rd
  obtain ⟨b, o, hA, _, hok, c1⟩ := hrd.str k hk
  injection hv with e1 _ _
  subst e1
  injection hA with hA
  injection hA with hA1 hA2
  subst hA1 hA2
  rw [Nat.zero_add] at c1
  exact ⟨hok, c1⟩

theorem kept2.cell {g b : Nat} {w w' : World} (h : kept2 g b w w') (p : Addr) (hp : p.block < b) (hne : p.block ≠ g) : w'.cell? p = w.cell? p :=
  World.cell?_of_block (h.block p.block hp hne)
theorem kept2.step {g b : Nat} {u w w' : World} (h : kept2 g b u w) (hg : w.grownBy w' (some g)) (hb : b ≤ u.heap.size) : kept2 g b u w' :=
  h.trans (kept2.grown hg (Nat.le_trans hb h.size))

theorem kept2.set {g b : Nat} {u w : World} (h : kept2 g b u w) (p : Addr) (hp : b ≤ p.block) (v : Value) : kept2 g b u (w.setCell p v) := h.trans (kept2.below ((Below.refl _ _).setCell (p := p) hp v))

set_option maxRecDepth 100000 in
set_option maxHeartbeats 2000000 in
theorem rd_l3Mail (g p b0 : Nat) (v : Value) (x : Pln) (w : World) (hr : rdr w g p) (hp : p ≤ 10000000000) (hv : ownP 9 b0 w v x) (hb0 : g < b0) (hd : drawnP x) :
    Calls Tryz.prog 159 #[.pointer (some ⟨g, 0, none⟩), v] w fun e w' => ∃ (v' : Value) (xs : List Ltr) (p' : Nat), e = .returned v' ∧ own 89 w.heap.size w' v' xs ∧ xs.length ≤ 14 ∧ (∀ y ∈ xs, y.code.size = 7) ∧ rdr w' g p' ∧ p' ≤ p + 300 ∧ w.grownBy w' (some g) := by
  have hlt := hr.lt
  obtain ⟨vo, rfl, i1, i2, ho⟩ := hv
  obtain ⟨_, _, _, _, hl1, hl2, hdc⟩ := hd
  rcases ho.form with ⟨_, h0⟩ | ⟨go, c0, rfl, hgo, hgl, hc0, hm0⟩
  · rw [h0] at hl1; simp at hl1
  unfold maxLen at hm0
  have HDC := Lib.hid hdc; clear hdc
  have hgo' : go ≠ g := by omega
  have hra := hr.alloc (Obj.cells #[.int .i64 x.bins, .int .i64 x.passes, .slice (some ⟨go, 0, none⟩) x.order.length c0] 25)
  obtain ⟨wb, hwb⟩ : ∃ u, u = w.alloc (Obj.cells #[.int .i64 x.bins, .int .i64 x.passes, .slice (some ⟨go, 0, none⟩) x.order.length c0] 25) := ⟨_, rfl⟩
  have hzb : wb.heap.size = w.heap.size + 1 := by rw [hwb]; simp
  have hbb : wb.heap[w.heap.size]? = some (.cells #[.int .i64 x.bins, .int .i64 x.passes, .slice (some ⟨go, 0, none⟩) x.order.length c0] 25 (0, 0)) := by rw [hwb]; exact heap_alloc_new w _
  have hgb : w.grownBy wb (some g) := by rw [hwb]; exact World.grownBy_alloc w _ _
  have hob : own 9 b0 wb (.slice (some ⟨go, 0, none⟩) x.order.length c0) x.order := by
    rw [hwb]; exact ho.below ((Below.refl _ _).alloc (Nat.le_refl _) _)
  have U2 : ∀ W, kept2 g wb.heap.size wb W → W.cell? ⟨w.heap.size, 2, none⟩ = some (.slice (some ⟨go, 0, none⟩) x.order.length c0) := fun W h => (h.cell ⟨w.heap.size, 2, none⟩ (by simp; omega) (by simp; omega)).trans (by rw [cell_of_row _ _ _ _ _ _ hbb]; rfl)
  have UO : Hid (∀ W, kept2 g wb.heap.size wb W → ∀ k (hk : k < x.order.length), W.cell? ⟨go, k, none⟩ = some (.string x.order[k])) := fun W h k hk => (h.cell ⟨go, k, none⟩ (by simp; omega) hgo').trans (own_cellStr hob k hk).2
  have HWB := Lib.hid hwb; have HBB := Lib.hid hbb; have HOB := Lib.hid hob
  rw [← hwb] at hra
  clear hwb hbb hob ho
  have hxo : (0 : Int) < (x.order.length : Int) := by omega
  go_enter Tryz.func159, Tryz.ntmps159
  go_wp2_with fail
  rw [← HWB.out]
  refine (rd_pick g p 4 _ hra (by omega) (by unfold isI64; omega)).mono ?_
  rintro e w1 ⟨y, rfl, hy, hr1, hg1⟩
  obtain ⟨y0, y1⟩ := hy.2 (by omega)
  obtain ⟨N, rfl⟩ := Int.eq_ofNat_of_zero_le y0
  have k1 : kept2 g wb.heap.size wb w1 := kept2.grown hg1 (Nat.le_refl _)
  replace hg1 := grown_trans hgb hg1
  clear hy hra hgb
  have hz1 := k1.size
  go_wp2_with fail
  refine (rd_l2Some g (p + 1) (1 + N) _ hr1 (by omega) (by omega) (by omega)).mono ?_
  rintro e w2 ⟨v2, xs0, q0, rfl, ho2, hx0, hx7, hr2, hq2, hg2⟩
  have k2 : kept2 g wb.heap.size wb w2 := k1.step hg2 (Nat.le_refl _)
  replace hg2 := grown_trans hg1 hg2
  have ho2' := ho2.base_ (base' := wb.heap.size) hz1
  have HO2 := Lib.hid ho2'
  have HX0 := Lib.hid hx7
  have HG2 := Lib.hid hg2
  clear ho2 hx7 hg1 hr1 k1 hg2
  rcases ho2'.form with ⟨rfl, rfl⟩ | ⟨gl, cl, rfl, hgl1, hgl2, hcl, hml⟩
  · clear ho2'
    go_wp2_with fail
    go_loopw [6] (fun i wr => i = .int .i64 0 ∧ wr = w2) (fun _ _ => 0)
    case atStart => exact ⟨rfl, rfl⟩
    case round =>
      obtain ⟨rfl, rfl⟩ := hrel
      go_wp2_with fail
      go_ret
      exact ⟨_, [], q0, rfl, own.nil_ _ _ _, by simp, fun y hy => by simp at hy, hr2, by omega, HG2.out⟩
  clear ho2'
  unfold maxLen at hml
  have hglg : gl ≠ g := by omega
  go_wp2_with fail
  go_loopw [6] (fun i wr => ∃ (k : Nat) (xs : List Ltr) (q : Nat), k ≤ xs0.length ∧ i = .int .i64 k ∧ Hid (xs.length = xs0.length) ∧ Hid (own 89 wb.heap.size wr (.slice (some ⟨gl, 0, none⟩) xs0.length cl) xs) ∧ Hid (∀ y ∈ xs, y.code.size = 7) ∧ rdr wr g q ∧ q ≤ q0 + 2 * k ∧ kept2 g wb.heap.size wb wr) (fun i _ => xs0.length - (intOf i).toNat)
  case atStart => exact ⟨0, xs0, q0, Nat.zero_le _, rfl, rfl, HO2.out, HX0.out, hr2, by omega, k2⟩
  case round =>
    obtain ⟨k, xs, q, hk, rfl, HL, HO, HX, hrq, hqb, kr⟩ := hrel
    obtain ⟨w3, rfl⟩ : ∃ w3 : World, w3 = wr := ⟨_, rfl⟩
    clear hr2 k2
    by_cases hkl : k < xs0.length
    · have hki : (k : Int) < (xs0.length : Int) := by omega
      go_wp2_with fail
      refine (rd_pick g q 6 _ hrq (by omega) (by unfold isI64; omega)).mono ?_
      rintro e w4 ⟨y, rfl, hy, hr4, hg4⟩
      have k4 : kept2 g wb.heap.size wb w4 := kr.step hg4 (Nat.le_refl _)
      have HO4 : Hid (own 89 wb.heap.size w4 (.slice (some ⟨gl, 0, none⟩) xs0.length cl) xs) := HO.out.grown hg4 (.inr (fun e => hglg (by injection e)))
      clear hg4 kr hrq
      by_cases hy0 : 0 < y
      · clear hy
        have c2 := U2 _ k4
        go_wp2_with fail
        clear c2
        have kd : kept2 g wb.heap.size wb w4.drew := ⟨k4.os, k4.tape, k4.output, k4.size, k4.block⟩
        have HR4 : Hid (rdr w4.drew g (q + 1)) := hr4.below ((Below.refl _ _).drew)
        have HOD : Hid (own 89 wb.heap.size w4.drew (.slice (some ⟨gl, 0, none⟩) xs0.length cl) xs) := HO4.out.below ((Below.refl _ _).drew)
        have hkx : k < xs.length := by have := HL.out; omega
        have hid := (own_ltr HO4.out k hkx).1.1
        have HSET := Lib.hid (fun (W : World) (s : ByteArray) (hs : s.size ≤ maxLen) (ho : own 89 wb.heap.size W (.slice (some ⟨gl, 0, none⟩) xs0.length cl) xs) => ho.setCell (k := k) (j := 1) hkx (by decide) (.string s) ⟨xs[k].id, s⟩ (fun ecs he => by
          obtain ⟨_, rfl⟩ := he
          exact ⟨⟨hid, hs⟩, rfl⟩))
        clear hid k4 hr4 HO4
        have cD := U2 _ kd
        have UD := Lib.hid U2; clear U2
        have cE := UO.out _ kd
        go_region_held3 (fun W => W.cell? ⟨w.heap.size, 2, none⟩ = some (.slice (some ⟨go, 0, none⟩) x.order.length c0) ∧ ∀ j (hj : j < x.order.length), W.cell? ⟨go, j, none⟩ = some (.string x.order[j])) (first | exact ⟨cD, cE⟩ | exact ⟨c5, cO⟩ | exact ⟨UD.out _ (k5.set ⟨gl, k * 2 + 1, none⟩ hgl1 _), UO.out _ (k5.set ⟨gl, k * 2 + 1, none⟩ hgl1 _)⟩) (first | (go_at_call 100; refine (rd_pick g (q + 1) x.order.length _ HR4.out (by omega) (by unfold isI64; omega)).mono ?_; rintro e w5 ⟨z, rfl, hz, hr5, hg5⟩; obtain ⟨z0, z1⟩ := hz.2 (by omega); obtain ⟨m, rfl⟩ := Int.eq_ofNat_of_zero_le z0; have k5 := kd.step hg5 (Nat.le_refl _); have c5 := UD.out _ k5; have hmo : m < x.order.length := (by omega); have cO := UO.out _ k5; have hs7 := HDC.out x.order[m] (List.getElem_mem _); have ho5 : own 89 wb.heap.size w5 (.slice (some ⟨gl, 0, none⟩) xs0.length cl) xs := HOD.out.grown hg5 (.inr (fun e => hglg (by injection e))); obtain ⟨u1, g1⟩ := ho5.cellAt (j := k * 2 + 1) (by show _ < _ * 2; omega); have f1 := ho5.freeAt (k * 2 + 1); have HO5 := Lib.hid ho5; have HS7 := Lib.hid hs7; have HR5 := Lib.hid hr5; clear hz hg5 ho5 hs7 hr5))
        clear cD cE c5 cO g1 f1
        have k6 := k5.set ⟨gl, k * 2 + 1, none⟩ hgl1 (.string x.order[m])
        have HO6 : Hid (own 89 wb.heap.size (w5.setCell ⟨gl, k * 2 + 1, none⟩ (.string x.order[m])) (.slice (some ⟨gl, 0, none⟩) xs0.length cl) (xs.set k ⟨xs[k].id, x.order[m]⟩)) := HSET.out w5 _ (by rw [HS7.out]; decide) HO5.out
        have HR6 := Lib.hid (HR5.out.grown (g' := gl) (grown_setCell (p := ⟨gl, k * 2 + 1, none⟩) (World.grownBy.refl w5 (some gl)) (.inl rfl) (.string x.order[m])) (by omega))
        go_wp2_with fail
        go_roundw
        case rel =>
          refine ⟨k + 1, _, q + 1 + 1, by omega, by go_num, ?_, HO6, ?_, HR6.out, by omega, k6⟩
          · show _ = _
            have := HL.out
            simpa using this
          · intro z hz
            rcases List.mem_or_eq_of_mem_set hz with h | h
            · exact HX.out z h
            · rw [h]; exact HS7.out
        case measure => simp [intOf]; omega
      · go_wp2_with fail
        go_roundw
        case rel => exact ⟨k + 1, xs, q + 1, by omega, by go_num, HL, HO4, HX, hr4, by omega, k4⟩
        case measure => simp [intOf]; omega
    · go_wp2_with fail
      go_ret
      refine ⟨_, xs, q, rfl, HO.out.base_ (by omega), by have := HL.out; omega, HX.out, hrq, by omega, ?_⟩
      exact ⟨kr.os.trans (by rw [HWB.out]; rfl), kr.tape.trans (by rw [HWB.out]; rfl), kr.output.trans (by rw [HWB.out]; rfl), by have := kr.size; omega, fun i hi hne => (kr.block i (by omega) (fun e => hne (by rw [e]))).trans (by rw [HWB.out]; exact heap_alloc_old w _ hi)⟩

end Go.Proofs.YtpinkbodbedajaaGreatDoor

namespace Go.Proofs.YtpinkbodbedajaaGreatDoor
open Go.RowKit

end Go.Proofs.YtpinkbodbedajaaGreatDoor

namespace Go.Proofs.YtpinkbodbedajaaGreatDoor
open Go.RowKit

end Go.Proofs.YtpinkbodbedajaaGreatDoor
