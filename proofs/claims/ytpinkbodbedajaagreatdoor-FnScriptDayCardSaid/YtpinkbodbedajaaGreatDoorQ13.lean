/- D2 DP DQ DR YA YB -/
import Derived.Test.YtpinkbodbedajaaGreatDoorQ12
import Derived.Test.YtpinkbodbedajaaGreatDoorQ1
import Derived.Test.YtpinkbodbedajaaGreatDoorQ8
import Derived.Test.YtpinkbodbedajaaGreatDoorQ5
import Derived.Deep.RegionHeld3
namespace Go.Proofs.YtpinkbodbedajaaGreatDoor
open Go.RowKit

theorem grown_trans {a b c : World} {row : Option Nat} (h : a.grownBy b row) (k : b.grownBy c row) : a.grownBy c row :=
  ⟨k.os.trans h.os, k.tape.trans h.tape, k.output.trans h.output, Nat.le_trans h.size k.size, fun i hi hne => (k.block i (Nat.lt_of_lt_of_le hi h.size) hne).trans (h.block i hi hne)⟩
theorem rdr.alloc {w : World} {g p : Nat} (h : rdr w g p) (o : Obj) : rdr (w.alloc o) g p := h.below ((Below.refl _ _).alloc (Nat.le_refl _) o)

/-- Below block b only block g has turned. -/
structure kept2 (g b : Nat) (w w' : World) : Prop where
  os : w'.os = w.os
  tape : w'.tape = w.tape
  output : w'.output = w.output
  size : w.heap.size ≤ w'.heap.size
  block : ∀ k, k < b → k ≠ g → w'.heap[k]? = w.heap[k]?
theorem kept2.refl (g b : Nat) (w : World) : kept2 g b w w := ⟨rfl, rfl, rfl, Nat.le_refl _, fun _ _ _ => rfl⟩
theorem kept2.trans {g b : Nat} {u v w : World} (h : kept2 g b u v) (k : kept2 g b v w) : kept2 g b u w :=
  ⟨k.os.trans h.os, k.tape.trans h.tape, k.output.trans h.output, Nat.le_trans h.size k.size, fun i hi hne => (k.block i hi hne).trans (h.block i hi hne)⟩
theorem kept2.grown {g b : Nat} {u w : World} (h : u.grownBy w (some g)) (hb : b ≤ u.heap.size) : kept2 g b u w :=
  ⟨h.os, h.tape, h.output, h.size, fun i hi hne => h.block i (by omega) (fun e => by injection e; omega)⟩
theorem kept2.below {g b : Nat} {u w : World} (h : Below b u w) : kept2 g b u w := ⟨h.os, h.tape, h.output, h.size, fun i hi _ => h.block i hi⟩
/-- Only blocks of S turned, and new ones. -/
structure keptS (S : Nat → Prop) (w w' : World) : Prop where
  os : w'.os = w.os
  tape : w'.tape = w.tape
  output : w'.output = w.output
  size : w.heap.size ≤ w'.heap.size
  block : ∀ k, k < w.heap.size → ¬ S k → w'.heap[k]? = w.heap[k]?
theorem keptS.refl (S : Nat → Prop) (w : World) : keptS S w w := ⟨rfl, rfl, rfl, Nat.le_refl _, fun _ _ _ => rfl⟩
theorem keptS.next {S : Nat → Prop} {u w w' : World} {row : Option Nat} (h : keptS S u w) (hg : w.grownBy w' row) (hS : ∀ r, row = some r → S r ∨ u.heap.size ≤ r) : keptS S u w' :=
  ⟨hg.os.trans h.os, hg.tape.trans h.tape, hg.output.trans h.output, Nat.le_trans h.size hg.size, fun k hk hn => (hg.block k (Nat.lt_of_lt_of_le hk h.size) fun e => by
    rcases hS k e.symm with h1 | h1
    · exact hn h1
    · omega).trans (h.block k hk hn)⟩
theorem keptS.below {S : Nat → Prop} {u w w' : World} (h : keptS S u w) (hB : Below u.heap.size w w') : keptS S u w' :=
  ⟨hB.os.trans h.os, hB.tape.trans h.tape, hB.output.trans h.output, Nat.le_trans h.size hB.size, fun k hk hn => (hB.block k hk).trans (h.block k hk hn)⟩
theorem keptS.alloc {S : Nat → Prop} {u w : World} (h : keptS S u w) (o : Obj) : keptS S u (w.alloc o) := h.below ((Below.refl _ _).alloc h.size o)
theorem keptS.set {S : Nat → Prop} {u w : World} (h : keptS S u w) (p : Addr) (hp : S p.block ∨ u.heap.size ≤ p.block) (v : Value) : keptS S u (w.setCell p v) :=
  h.next (row := some p.block) (grown_setCell (World.grownBy.refl _ _) (.inl rfl) v) fun r e => by injection e with e; subst e; exact hp
theorem kept2.back {g b : Nat} {u v w : World} (h : u.grownBy v (some g)) (k : kept2 g b v w) (hb : u.heap.size ≤ b) : u.grownBy w (some g) :=
  ⟨k.os.trans h.os, k.tape.trans h.tape, k.output.trans h.output, Nat.le_trans h.size k.size, fun i hi hne => (k.block i (by omega) (fun e => hne (by rw [e]))).trans (h.block i hi hne)⟩

theorem own_ltr {T base g n c : Nat} {w : World} {xs : List Ltr} (h : own T base w (.slice (some ⟨g, 0, none⟩) n c) xs) (k : Nat) (hk : k < xs.length) :
    (xs[k]).ok ∧ w.cell? ⟨g, k * 2, none⟩ = some (.int .i64 (xs[k]).id) ∧ w.cell? ⟨g, k * 2 + 1, none⟩ = some (.string (xs[k]).code) := by
  obtain ⟨A, n', c', hv, _, _, _, hrd⟩ := h.rd
  obtain ⟨b, o, hA, _, hok, c1, c2⟩ := hrd.ltr k hk
  injection hv with e1 _ _
  subst e1
  injection hA with hA
  injection hA with hA1 hA2
  subst hA1 hA2
  rw [Nat.zero_add] at c1 c2
  exact ⟨hok, c1, c2⟩
theorem own_ne {α : Type} [El α] {T base g : Nat} {w : World} {v : Value} {xs : List α} (h : own T base w v xs) (hg : g < base) : v.ownBlock = none ∨ v.ownBlock ≠ some g := by
  cases hb : v.ownBlock with
  | none => exact .inl rfl
  | some k => exact .inr fun e => by have := (h.blk k hb).1; injection e; omega
theorem rdr.append {α : Type} [El α] {T base g p : Nat} {w w' : World} {v : Value} {xs : List α} (h : rdr w g p) (ho : own T base w v xs) (hg : w.grownBy w' v.ownBlock) (hlt : g < base) : rdr w' g p := by
  cases hb : v.ownBlock with
  | none => rw [hb] at hg; exact h.below (below_of_grown hg (Nat.le_refl _) (fun k hk => by cases hk))
  | some k => rw [hb] at hg; exact h.grown hg (by have := (ho.blk k hb).1; omega)
theorem grown_of_below {a w w' : World} {row : Option Nat} (h : a.grownBy w row) (hb : Below a.heap.size w w') : a.grownBy w' row :=
  ⟨hb.os.trans h.os, hb.tape.trans h.tape, hb.output.trans h.output, Nat.le_trans h.size hb.size, fun i hi hne => (hb.block i hi).trans (h.block i hi hne)⟩

set_option maxHeartbeats 1000000 in
theorem rd_l1Some (g p : Nat) (w : World) (hr : rdr w g p) (hp : p ≤ 1000000000000) :
    Calls Tryz.prog 141 #[.pointer (some ⟨g, 0, none⟩)] w fun e w' => ∃ (s : ByteArray) (p' : Nat), e = .returned (.string s) ∧ s.size = 7 ∧ rdr w' g p' ∧ p' ≤ p + 10 ∧ w.grownBy w' (some g) := by
  have hlt := hr.lt
  go_enter Tryz.func141, Tryz.ntmps141
  go_wp2_with fail
  refine (rd_num 3 g p _ [120, 121, 7, 999] _ (hr.alloc _) (by omega) (list_own 3 (g + 1) w [120, 121, 7, 999] (by simp [isI64]) (by decide) (by omega)) (by decide)).mono ?_
  rintro e w1 ⟨x1, hx1, rfl, hr1, hg1⟩
  replace hg1 : w.grownBy w1 (some g) := grown_trans (World.grownBy_alloc w _ _) hg1
  have hlt1 := hr1.lt
  obtain ⟨N1, rfl⟩ := Int.eq_ofNat_of_zero_le (a := x1) (by simp at hx1; omega)
  have hN1 : N1 ≤ 999 := by simp at hx1; omega
  clear hx1
  go_wp2_with fail
  refine (rd_num 3 g (p + 1) _ [1, 2, 10, 99] _ (hr1.alloc _) (by omega) (list_own 3 (g + 1) w1 [1, 2, 10, 99] (by simp [isI64]) (by decide) (by omega)) (by decide)).mono ?_
  rintro e w2 ⟨x2, hx2, rfl, hr2, hg2⟩
  replace hg2 : w.grownBy w2 (some g) := grown_trans hg1 (grown_trans (World.grownBy_alloc w1 _ _) hg2)
  obtain ⟨N2, rfl⟩ := Int.eq_ofNat_of_zero_le (a := x2) (by simp at hx2; omega)
  have hN2 : N2 ≤ 999 := by simp at hx2; omega
  clear hx2
  go_wp2_with fail
  refine (spec_l1Show N1 3 _ (by omega) (by omega)).mono ?_
  rintro e w3 ⟨rfl, b3⟩
  have hs3 := showB_size N1 3
  generalize showB N1 3 = s3 at *
  go_wp2_with fail
  refine (spec_l1Show N2 2 _ (by omega) (by omega)).mono ?_
  rintro e w4 ⟨rfl, b4⟩
  have hs4 := showB_size N2 2
  generalize showB N2 2 = s4 at *
  have hr4 := (hr2.below b3).below b4
  have hg4 := grown_below (grown_below hg2 b3) b4
  go_wp2_with fail
  refine (rd_pick g (p + 1 + 1) 14 _ hr4 (by omega) (by unfold isI64; omega)).mono ?_
  rintro e w5 ⟨x5, rfl, hx5, hr5, hg5⟩
  obtain ⟨y0, y1⟩ := hx5.2 (by omega)
  obtain ⟨N5, rfl⟩ := Int.eq_ofNat_of_zero_le y0
  replace hg5 := grown_trans hg4 hg5
  clear hx5
  go_wp2_with fail
  refine (spec_l1Show N5 2 _ (by omega) (by omega)).mono ?_
  rintro e w6 ⟨rfl, b6⟩
  have hs6 := showB_size N5 2
  generalize showB N5 2 = s6 at *
  have hr6 := hr5.below b6
  have hg6 := grown_below hg5 b6
  go_wp2_with fail
  refine (rd_pick g (p + 1 + 1 + 1) 4 _ hr6 (by omega) (by unfold isI64; omega)).mono ?_
  rintro e w7 ⟨x7, rfl, hx7, hr7, hg7⟩
  replace hg7 := grown_trans hg6 hg7
  clear hx7
  by_cases h7 : x7 = 0
  · have h7' : (x7 == 0) = true := by simp [h7]
    clear h7
    go_wp2_with fail
    refine (rd_pick g (p + 1 + 1 + 1 + 1) 256 _ hr7 (by omega) (by unfold isI64; omega)).mono ?_
    rintro e w8 ⟨x8, rfl, hx8, hr8, hg8⟩
    obtain ⟨a8, b8⟩ := hx8.2 (by omega)
    obtain ⟨N8, rfl⟩ := Int.eq_ofNat_of_zero_le a8
    replace hg8 := grown_trans hg7 hg8
    clear hx8
    go_wp2_with fail
    refine (rd_pick g (p + 1 + 1 + 1 + 1 + 1) 256 _ hr8 (by omega) (by unfold isI64; omega)).mono ?_
    rintro e w9 ⟨x9, rfl, hx9, hr9, hg9⟩
    obtain ⟨a9, b9⟩ := hx9.2 (by omega)
    obtain ⟨N9, rfl⟩ := Int.eq_ofNat_of_zero_le a9
    replace hg9 := grown_trans hg8 hg9
    clear hx9
    have m1 : N8 * N9 ≤ 256 * 256 := Nat.mul_le_mul (by omega) (by omega)
    have m1' : (N8 : Int) * (N9 : Int) = ((N8 * N9 : Nat) : Int) := by rw [Int.natCast_mul]
    have M1 := Lib.hid m1'; clear m1'
    have i1 : (0 : Int) ≤ (N8 : Int) * (N9 : Int) := by rw [M1.out]; omega
    have i2 : (N8 : Int) * (N9 : Int) ≤ 65536 := by rw [M1.out]; omega
    go_wp2_with fail
    refine (rd_pick g (p + 1 + 1 + 1 + 1 + 1 + 1) 150 _ hr9 (by omega) (by unfold isI64; omega)).mono ?_
    rintro e w10 ⟨x10, rfl, hx10, hr10, hg10⟩
    obtain ⟨a10, b10⟩ := hx10.2 (by omega)
    obtain ⟨N10, rfl⟩ := Int.eq_ofNat_of_zero_le a10
    replace hg10 := grown_trans hg9 hg10
    clear hx10
    have m2 : N8 * N9 * N10 ≤ 256 * 256 * 256 := Nat.mul_le_mul m1 (by omega)
    have m2' : (N8 : Int) * (N9 : Int) * (N10 : Int) = ((N8 * N9 * N10 : Nat) : Int) := by rw [Int.natCast_mul, Int.natCast_mul]
    have M2 := Lib.hid m2'; clear m2'
    have j1 : (0 : Int) ≤ (N8 : Int) * (N9 : Int) * (N10 : Int) := by rw [M2.out]; omega
    have j2 : (N8 : Int) * (N9 : Int) * (N10 : Int) ≤ 16777216 := by rw [M2.out]; omega
    go_wp2_with fail
    refine (rd_pick g (p + 1 + 1 + 1 + 1 + 1 + 1 + 1) 256 _ hr10 (by omega) (by unfold isI64; omega)).mono ?_
    rintro e w11 ⟨x11, rfl, hx11, hr11, hg11⟩
    obtain ⟨a11, b11⟩ := hx11.2 (by omega)
    obtain ⟨N11, rfl⟩ := Int.eq_ofNat_of_zero_le a11
    replace hg11 := grown_trans hg10 hg11
    clear hx11
    go_wp2_with fail
    rw [M2.out]
    refine (spec_l1Show (N8 * N9 * N10 + N11) 7 _ (by omega) (by omega)).mono ?_
    rintro e w12 ⟨rfl, b12⟩
    have hs12 := showB_size (N8 * N9 * N10 + N11) 7
    generalize showB (N8 * N9 * N10 + N11) 7 = s12 at *
    have H12 := Lib.hid hs12; clear hs12
    go_wp2_with fail
    go_ret
    exact ⟨s12, _, rfl, H12.out, hr11.below b12, by omega, grown_below hg11 b12⟩
  · have h7' : (x7 == 0) = false := by simp [h7]
    clear h7
    have HS : Hid ((s3 ++ s4 ++ s6).size = 7) := by show _ = _; rw [ByteArray.size_append, ByteArray.size_append]; omega
    go_wp2_with fail
    go_ret
    exact ⟨_, _, rfl, HS.out, hr7, by omega, hg7⟩

set_option maxHeartbeats 400000 in
theorem rd_l1Bad (g p : Nat) (s : ByteArray) (w : World) (hr : rdr w g p) (hp : p ≤ 1000000000000) (h1 : 1 ≤ s.size) (h2 : s.size ≤ 1000) :
    Calls Tryz.prog 81 #[.pointer (some ⟨g, 0, none⟩), .string s] w fun e w' => ∃ (t : ByteArray), e = .returned (.string t) ∧ t.size ≤ s.size + 1 ∧ rdr w' g (p + 1) ∧ w.grownBy w' (some g) := by
  go_enter Tryz.func81, Tryz.ntmps81
  go_wp2_with fail
  refine (rd_pick g p 40 _ hr (by omega) (by unfold isI64; omega)).mono ?_
  rintro e w1 ⟨x, rfl, hx, hr1, hg1⟩
  clear hx
  by_cases c0 : x = 0
  · have d0 : (x == 0) = true := by simp [c0]
    clear c0
    go_wp2_with fail
    go_ret
    exact ⟨_, rfl, by rw [ByteArray.size_append]; exact Nat.le_refl _, hr1, hg1⟩
  have d0 : (x == 0) = false := by simp [c0]
  by_cases c1 : x = 1
  · have d1 : (x == 1) = true := by simp [c1]
    clear c1 c0
    go_wp2_with fail
    go_ret
    refine ⟨_, rfl, ?_, hr1, hg1⟩
    rw [ByteArray.size_append, ByteArray.size_extract]
    show _ + 1 ≤ _
    omega
  have d1 : (x == 1) = false := by simp [c1]
  by_cases c2 : x = 2
  · have d2 : (x == 2) = true := by simp [c2]
    clear c2 c1 c0
    go_wp2_with fail
    go_ret
    exact ⟨_, rfl, Nat.zero_le _, hr1, hg1⟩
  have d2 : (x == 2) = false := by simp [c2]
  clear c0 c1 c2
  go_wp2_with fail
  go_ret
  exact ⟨_, rfl, by omega, hr1, hg1⟩

/-- The letters that are drawn. -/
def drawn (xs : List Ltr) : Prop := ∀ x ∈ xs, 1 ≤ x.code.size ∧ x.code.size ≤ 8

set_option maxHeartbeats 1000000 in
theorem rd_l2Some (g p : Nat) (f : Int) (w : World) (hr : rdr w g p) (hp : p ≤ 100000000000) (hf1 : 0 ≤ f) (hf2 : f ≤ 1000) :
    Calls Tryz.prog 108 #[.pointer (some ⟨g, 0, none⟩), .int .i64 f] w fun e w' => ∃ (v : Value) (xs : List Ltr) (p' : Nat), e = .returned v ∧ own 89 w.heap.size w' v xs ∧ xs.length ≤ 14 ∧ (∀ x ∈ xs, x.code.size = 7) ∧ rdr w' g p' ∧ p' ≤ p + 200 ∧ w.grownBy w' (some g) := by
  have hlt := hr.lt
  obtain ⟨i0, hi, hz0, hz1, hz2⟩ := info_parts Tryz.infoLtr
  go_enter Tryz.func108, Tryz.ntmps108
  go_wp2_with fail
  have hA := hr.alloc (Obj.cells #[] 89)
  have hoA : own (α := Ltr) 89 w.heap.size (w.alloc (Obj.cells #[] 89)) (.slice (some ⟨w.heap.size, 0, none⟩) 0 0) [] := own.made0 w _ (Nat.le_refl _)
  have hgA := World.grownBy_alloc w (Obj.cells #[] 89) (some g)
  have hzA : w.heap.size + 1 = (w.alloc (Obj.cells #[] 89)).heap.size := by simp
  generalize w.alloc (Obj.cells #[] 89) = wA at *
  rw [hzA]
  have HZA := Lib.hid hzA; clear hzA
  have hltA := hA.lt
  refine (rd_num 3 g p _ [6, 4, 9, 2, 14, 0, 1] _ (hA.alloc _) (by omega) (list_own 3 (g + 1) wA [6, 4, 9, 2, 14, 0, 1] (by simp [isI64]) (by decide) (by omega)) (by decide)).mono ?_
  rintro e w1 ⟨n, hn, rfl, hr1, hg1⟩
  replace hg1 : wA.grownBy w1 (some g) := grown_trans (World.grownBy_alloc wA _ _) hg1
  have ho1 := hoA.grown hg1 (own_ne hoA hlt)
  have hg1' := grown_trans hgA hg1
  have hn2 : 0 ≤ n ∧ n ≤ 14 := by simp at hn; omega
  obtain ⟨hn0, hn1⟩ := hn2
  obtain ⟨N, rfl⟩ := Int.eq_ofNat_of_zero_le hn0
  clear hn hoA hA hgA hg1
  go_wp2_with fail
  go_loopw [5, 6] (fun t i wr => ∃ (k : Nat) (xs : List Ltr) (q : Nat), k ≤ N ∧ i = .int .i64 k ∧ xs.length + k = N ∧ own 89 w.heap.size wr t xs ∧ Hid (∀ x ∈ xs, x.code.size = 7) ∧ rdr wr g q ∧ q + 10 * k ≤ p + 1 + 10 * N ∧ w.grownBy wr (some g)) (fun _ i _ => (intOf i).toNat)
  case atStart => exact ⟨N, [], p + 1, Nat.le_refl _, rfl, by simp, ho1, fun x hx => by simp at hx, hr1, by omega, hg1'⟩
  case round =>
    obtain ⟨k, xs, q, hk, rfl, hxk, ho, HX, hrq, hqb, hgq⟩ := hrel
    obtain ⟨w2, rfl⟩ : ∃ w2 : World, w2 = wr := ⟨_, rfl⟩
    clear ho1 hr1 hg1'
    have HXK := Lib.hid hxk
    have hxl : xs.length ≤ 14 := by omega
    clear hxk
    obtain ⟨A, m, c, hv, hm, _, _, _⟩ := ho.rd
    subst hm hv
    by_cases hk0 : 0 < k
    · go_wp2_with fail
      refine (rd_l1Some g q _ hrq (by omega)).mono ?_
      rintro e w3 ⟨s, q', rfl, hs7, hr3, hq3, hg3⟩
      have HS7 := Lib.hid hs7
      have hne := own_ne ho hlt
      have ho3 := ho.grown hg3 hne
      have hgq3 := grown_trans hgq hg3
      have hz3 := hgq3.size
      have hsl : s.size ≤ maxLen := by rw [hs7]; decide
      clear hs7
      go_wp2_with (at_builtin; refine wpList_append1 (α := Ltr) rfl (.tmp 15) (.tmp 24) _ rfl w.heap.size 89 i0 _ 24 Tryz.underlying29 hi hz0 hz1 hz2 rfl (by decide) (.slice A xs.length c) xs ⟨f + xs.length * 7, s⟩ rfl (ho3.alloc _) ⟨w3.heap.size, 0, none⟩ 1 (Ltr.cells ⟨f + xs.length * 7, s⟩) rfl ⟨⟨⟨by show _ ≤ f + _; omega, by show f + _ ≤ _; omega⟩, hsl⟩, rfl⟩ (news_at w3 _ (Ltr.cells ⟨f + xs.length * 7, s⟩)) (by unfold maxLen; omega) (by omega) (by simp; omega) ?_; intro v' w4 ho4 hg4 _)
      have hb4 : Below w.heap.size w3 w4 := ((Below.refl _ _).alloc hz3 _).trans (below_append (ho3.alloc _) hg4 (by simp; omega))
      have hr4 : rdr w4 g q' := (hr3.alloc _).append (ho3.alloc _) hg4 hlt
      have hgq4 : w.grownBy w4 (some g) := grown_of_below hgq3 hb4
      clear hg4 hb4 hg3 hr3
      go_wp2_with fail
      go_roundw
      case rel =>
        refine ⟨k - 1, _, q', by omega, by go_num, by have := HXK.out; simp; omega, ho4, fun x hx => ?_, hr4, by omega, hgq4⟩
        rcases List.mem_append.1 hx with h | h
        · exact HX.out x h
        · simp at h
          subst h
          exact HS7.out
      case measure => simp [intOf]; omega
    · go_wp2_with fail
      go_ret
      exact ⟨_, xs, q, rfl, ho, hxl, HX.out, hrq, by omega, hgq⟩

set_option maxRecDepth 100000 in
set_option maxHeartbeats 1000000 in
theorem rd_l2Bad (g p b0 : Nat) (v : Value) (xs : List Ltr) (w : World) (hr : rdr w g p) (hp : p ≤ 100000000000) (hv : own 89 b0 w v xs) (hb0 : g < b0) (hx1 : xs.length ≤ 20) (hx2 : ∀ x ∈ xs, x.code.size = 7) :
    Calls Tryz.prog 45 #[.pointer (some ⟨g, 0, none⟩), v] w fun e w' => ∃ (v' : Value) (ys : List Ltr) (p' : Nat), e = .returned v' ∧ own 89 b0 w' v' ys ∧ ys.length ≤ 61 ∧ rdr w' g p' ∧ p' ≤ p + 5 ∧ kept2 g b0 w w' ∧ keptS (fun k => k = g ∨ v.ownBlock = some k) w w' := by
  have hlt := hr.lt
  obtain ⟨i0, hi, hz0, hz1, hz2⟩ := info_parts Tryz.infoLtr
  rcases hv.form with ⟨rfl, rfl⟩ | ⟨gg, c, rfl, hg, hgl, hc, hm⟩
  · go_enter Tryz.func45, Tryz.ntmps45
    go_wp2
    go_ret
    exact ⟨_, [], p, rfl, hv, by simp, hr, by omega, kept2.refl _ _ _, keptS.refl _ _⟩
  · by_cases h0 : xs.length = 0
    · have hl0 : ((xs.length : Int) == 0) = true := by rw [h0]; rfl
      clear h0
      go_enter Tryz.func45, Tryz.ntmps45
      go_wp2
      go_ret
      exact ⟨_, xs, p, rfl, hv, by omega, hr, by omega, kept2.refl _ _ _, keptS.refl _ _⟩
    have hl0 : ((xs.length : Int) == 0) = false := beq_eq_false_iff_ne.2 (by omega)
    have hpos : 0 < xs.length := by omega
    unfold maxLen at hm
    go_enter Tryz.func45, Tryz.ntmps45
    go_wp2_with fail
    refine (rd_pick g p xs.length _ hr (by omega) ⟨by omega, by omega⟩).mono ?_
    rintro e w1 ⟨x, rfl, hx, hr1, hg1⟩
    obtain ⟨y0, y1⟩ := hx.2 (by omega)
    obtain ⟨k, rfl⟩ := Int.eq_ofNat_of_zero_le y0
    have ho1 := hv.grown hg1 (own_ne hv hb0)
    clear hx
    go_wp2_with fail
    refine (rd_pick g (p + 1) 40 _ hr1 (by omega) (by unfold isI64; omega)).mono ?_
    rintro e w2 ⟨x, rfl, hx, hr2, hg2⟩
    have ho2 := ho1.grown hg2 (own_ne ho1 hb0)
    replace hg2 := grown_trans hg1 hg2
    clear hx hg1
    have hbw : b0 ≤ w.heap.size := by omega
    have hzw := hg2.size
    have hB2 : kept2 g b0 w w2 := kept2.grown hg2 hbw
    have hz2' := hr2.lt
    have HS2 : keptS (fun k => k = g ∨ (Value.slice (some ⟨gg, 0, none⟩) xs.length c).ownBlock = some k) w w2 := (keptS.refl _ _).next hg2 fun r e => .inl (.inl (by injection e with e; exact e.symm))
    by_cases c0 : x = 0
    · have d0 : (x == 0) = true := by simp [c0]
      clear c0
      obtain ⟨⟨hi1, hi2⟩, c1, c2⟩ := own_ltr ho2 k (by omega)
      have hcs := hx2 xs[k] (List.getElem_mem _)
      have hcs' : xs[k].code.size ≤ 7 := by omega
      have HCS := Lib.hid hcs; clear hcs
      generalize hxk : xs[k] = z at *
      have HXK := Lib.hid hxk; clear hxk
      go_wp2_with fail
      refine (rd_l1Bad g (p + 1 + 1) _ _ hr2 (by omega) (by rw [ByteArray.size_append]; show 1 ≤ _ + 1; omega) (by rw [ByteArray.size_append]; show _ + 1 ≤ _; omega)).mono ?_
      rintro e w3 ⟨t, rfl, ht, hr3, hg3⟩
      have ht' : t.size ≤ maxLen := by
        rw [ByteArray.size_append] at ht
        have : t.size ≤ z.code.size + 1 + 1 := ht
        unfold maxLen; omega
      have ho3 := ho2.grown hg3 (own_ne ho2 hb0)
      obtain ⟨u1, g1⟩ := ho3.cellAt (j := k * 2 + 1) (by show _ < _ * 2; omega)
      have f1 := ho3.freeAt (k * 2 + 1)
      have HO := Lib.hid (ho3.setCell (k := k) (j := 1) (by omega) (by decide) (.string t) ⟨z.id, t⟩ (fun ecs he => by
        obtain ⟨_, rfl⟩ := he
        refine ⟨⟨hi1, ht'⟩, ?_⟩
        rw [HXK.out]
        rfl))
      have HR : Hid (rdr (w3.setCell ⟨gg, k * 2 + 1, none⟩ (.string t)) g (p + 1 + 1 + 1)) := hr3.grown (g' := gg) (grown_setCell (World.grownBy.refl _ _) (.inl rfl) _) (Nat.lt_of_lt_of_le hb0 hg)
      have HB : Hid (kept2 g b0 w (w3.setCell ⟨gg, k * 2 + 1, none⟩ (.string t))) := (hB2.trans (kept2.grown hg3 (by omega))).trans (kept2.below ((Below.refl _ _).setCell (p := ⟨gg, k * 2 + 1, none⟩) hg _))
      have HS3 := (HS2.next hg3 fun r e => .inl (.inl (by injection e with e; exact e.symm))).set ⟨gg, k * 2 + 1, none⟩ (.inl (.inr rfl)) (.string t)
      clear ho3 ht HS2
      go_wp2_with fail
      go_ret
      exact ⟨_, _, _, rfl, HO.out, by simp; omega, HR.out, by omega, HB.out, HS3⟩
    have d0 : (x == 0) = false := by simp [c0]
    by_cases c1 : x = 1
    · have d1 : (x == 1) = true := by simp [c1]
      clear c1 c0
      obtain ⟨⟨hi1, hi2⟩, c1, _⟩ := own_ltr ho2 0 hpos
      rw [Nat.zero_mul] at c1
      generalize xs[0].id = i at *
      go_wp2_with fail
      have hB3 := hB2
      refine (rd_num 3 g (p + 1 + 1) _ [0, 10000, 9999, -1, i] _ (hr2.alloc _) (by omega) (list_own 3 (g + 1) w2 [0, 10000, 9999, -1, i] (by
        intro y hy
        simp at hy
        rcases hy with rfl | rfl | rfl | rfl | rfl
        · simp [isI64]
        · simp [isI64]
        · simp [isI64]
        · simp [isI64]
        · exact hi1) (by show 5 ≤ maxLen; decide) (by omega)) (by show 0 < 5; decide)).mono ?_
      rintro e w3 ⟨y, hy, rfl, hr3, hg3⟩
      have hyi : isI64 y := by
        simp at hy
        rcases hy with rfl | rfl | rfl | rfl | rfl
        · simp [isI64]
        · simp [isI64]
        · simp [isI64]
        · simp [isI64]
        · exact hi1
      clear hy
      have ho2' := ho2.alloc (Obj.cells ([0, 10000, 9999, -1, i].map (Value.int IntKind.i64)).toArray 3)
      have ho3 := ho2'.grown hg3 (own_ne ho2' hb0)
      obtain ⟨u1, g1⟩ := ho3.cellAt (j := k * 2) (by show _ < _ * 2; omega)
      have f1 := ho3.freeAt (k * 2)
      have HO := Lib.hid (ho3.setCell (k := k) (j := 0) (by omega) (by decide) (.int .i64 y) ⟨y, xs[k].code⟩ (fun ecs he => by
        obtain ⟨⟨_, hh⟩, rfl⟩ := he
        exact ⟨⟨hyi, hh⟩, rfl⟩))
      have HR : Hid (rdr (w3.setCell ⟨gg, k * 2, none⟩ (.int .i64 y)) g (p + 1 + 1 + 1)) := hr3.grown (g' := gg) (grown_setCell (World.grownBy.refl _ _) (.inl rfl) _) (Nat.lt_of_lt_of_le hb0 hg)
      have HB : Hid (kept2 g b0 w (w3.setCell ⟨gg, k * 2, none⟩ (.int .i64 y))) := ((hB2.trans (kept2.below ((Below.refl _ _).alloc (by omega) _))).trans (kept2.grown hg3 (by simp; omega))).trans (kept2.below ((Below.refl _ _).setCell (p := ⟨gg, k * 2, none⟩) hg _))
      have HS3 := ((HS2.alloc _).next hg3 fun r e => .inl (.inl (by injection e with e; exact e.symm))).set ⟨gg, k * 2, none⟩ (.inl (.inr rfl)) (.int .i64 y)
      clear ho3 ho2' hg3 HS2
      go_wp2_with fail
      go_ret
      exact ⟨_, _, _, rfl, HO.out, by simp; omega, HR.out, by omega, HB.out, HS3⟩
    have d1 : (x == 1) = false := by simp [c1]
    by_cases c2 : x = 2
    · have d2 : (x == 2) = true := by simp [c2]
      clear c2 c1 c0
      go_wp2_with fail
      have HO2 := Lib.hid ho2; clear ho2
      go_loopw [1] (fun t wr => ∃ (ys : List Ltr), own 89 b0 wr t ys ∧ ys.length ≤ 61 ∧ rdr wr g (p + 1 + 1) ∧ kept2 g b0 w wr ∧ keptS (fun k => k = g ∨ (Value.slice (some ⟨gg, 0, none⟩) xs.length c).ownBlock = some k) w wr ∧ Hid (∀ r, t.ownBlock = some r → r = gg ∨ w.heap.size ≤ r)) (fun t wr => match t with | .slice _ n _ => 61 - n | _ => 0)
      case atStart => exact ⟨xs, HO2.out, by omega, hr2, hB2, HS2, fun r e => .inl (by injection e with e; exact e.symm)⟩
      case round =>
        obtain ⟨ys, ho, hy, hrr, hB, hS, HT⟩ := hrel
        obtain ⟨w3, rfl⟩ : ∃ w3 : World, w3 = wr := ⟨_, rfl⟩
        clear hr2 hB2 HS2
        obtain ⟨A, m, c', hv', hm', _, _, _⟩ := ho.rd
        subst hm' hv'
        have hlt3 := hrr.lt
        by_cases h61 : ys.length < 61
        · have hb3 : b0 ≤ w3.heap.size := by have := hB.size; omega
          go_wp2_with (at_builtin; refine wpList_append1 (α := Ltr) rfl (.tmp 48) (.tmp 53) _ rfl b0 89 i0 _ 24 Tryz.underlying29 hi hz0 hz1 hz2 rfl (by decide) (.slice A ys.length c') ys ⟨1000 + ys.length, ⟨#[49, 50, 48, 48, 49, 48, 49]⟩⟩ rfl (ho.alloc _) ⟨w3.heap.size, 0, none⟩ 1 (Ltr.cells ⟨1000 + ys.length, ⟨#[49, 50, 48, 48, 49, 48, 49]⟩⟩) rfl ⟨⟨⟨by show _ ≤ 1000 + (ys.length : Int); omega, by show 1000 + (ys.length : Int) ≤ _; omega⟩, by show 7 ≤ maxLen; decide⟩, rfl⟩ (news_at w3 _ (Ltr.cells ⟨1000 + ys.length, ⟨#[49, 50, 48, 48, 49, 48, 49]⟩⟩)) (by unfold maxLen; omega) (by omega) (by simp; omega) ?_; intro v' w4 ho4 hg4 ha4)
          have hr4 : rdr w4 g (p + 1 + 1) := (hrr.alloc _).append (ho.alloc _) hg4 hb0
          have hB4 : kept2 g b0 w w4 := (hB.trans (kept2.below ((Below.refl _ _).alloc hb3 _))).trans (kept2.below (below_append (ho.alloc _) hg4 (by simp; omega)))
          have hS4 := (hS.alloc (Obj.cells (Ltr.cells ⟨1000 + ys.length, ⟨#[49, 50, 48, 48, 49, 48, 49]⟩⟩).toArray 89)).next hg4 fun r e => by
            rcases HT.out r e with h | h
            · exact .inl (.inr (by rw [h]; rfl))
            · exact .inr h
          have HT4 : Hid (∀ r, v'.ownBlock = some r → r = gg ∨ w.heap.size ≤ r) := fun r e => by
            rcases ha4 with h | h
            · exact HT.out r (h.symm.trans e)
            · right
              rw [h] at e
              injection e with e
              have hzz := hB.size
              simp at e
              omega
          clear hg4 ha4
          obtain ⟨A4, m4, c4, hv4, hm4, _, _, _⟩ := ho4.rd
          subst hm4 hv4
          go_wp2_with fail
          go_roundw
          case rel => exact ⟨_, ho4, by simp; omega, hr4, hB4, hS4, HT4⟩
          case measure => simp; omega
        · go_wp2_with fail
          go_ret
          exact ⟨_, ys, _, rfl, ho, hy, hrr, by omega, hB, hS⟩
    have d2 : (x == 2) = false := by simp [c2]
    clear c0 c1 c2
    go_wp2_with fail
    go_ret
    exact ⟨_, xs, _, rfl, ho2, by omega, hr2, by omega, hB2, HS2⟩


end Go.Proofs.YtpinkbodbedajaaGreatDoor

namespace Go.Proofs.YtpinkbodbedajaaGreatDoor
open Go.RowKit

set_option maxHeartbeats 400000 in
theorem rd_LeastPasses (n b : Int) (w : World) :
    Calls Tryz.prog 169 #[.int .i64 n, .int .i64 b] w fun e w' => ∃ x : Int, e = .returned (.int .i64 x) ∧ -1 ≤ x ∧ x ≤ 4 ∧ w = w' := by
  go_enter Tryz.func169, Tryz.ntmps169
  by_cases hn : 0 ≤ n
  · go_wp2
    go_loop [5] (fun i => ∃ k : Nat, 1 ≤ k ∧ k ≤ 5 ∧ i = .int .i64 k) (fun i => 5 - (intOf i).toNat)
    case atStart => exact ⟨1, Nat.le_refl _, by omega, rfl⟩
    case round =>
      obtain ⟨k, hk1, hk5, rfl⟩ := hrel
      go_wp2_with fail
      refine (spec_l3Shape b k _).mono ?_
      rintro e _ ⟨rfl, rfl⟩
      cases hs : shapeOk b k
      · go_wp2_with fail
        go_ret
        exact ⟨_, rfl, by omega, by omega, rfl⟩
      · have hs2 : (2 ≤ b ∧ b ≤ 16) ∧ 1 ≤ (k : Int) ∧ (k : Int) ≤ 4 := by simpa [shapeOk] using hs
        have HS := Lib.hid hs; clear hs
        obtain ⟨⟨b1, b2⟩, k1, k2⟩ := hs2
        go_wp2_with fail
        refine (spec_l3Power b k _ b1 b2 (by omega)).mono ?_
        rintro e _ ⟨rfl, rfl⟩
        generalize powI b k = q
        by_cases hq : n ≤ q
        · go_wp2_with fail
          go_ret
          exact ⟨_, rfl, by omega, by omega, rfl⟩
        · go_wp2_with fail
          go_round
          case rel => exact ⟨k + 1, by omega, by omega, by go_num⟩
          case measure => simp [intOf]; omega
  · go_wp2
    go_loop [5] (fun i => i = .int .i64 1) (fun i => 0)
    case atStart => exact rfl
    case round =>
      subst hrel
      go_wp2
      go_ret
      exact ⟨_, rfl, by omega, by omega, rfl⟩

/-- The codes that are drawn. -/
def drawnC (xs : List ByteArray) : Prop := ∀ x ∈ xs, x.size = 7

set_option maxRecDepth 100000 in
set_option maxHeartbeats 1000000 in
theorem rd_l3Order (g p : Nat) (most : Int) (w : World) (hr : rdr w g p) (hp : p ≤ 100000000000) (hm1 : 1 ≤ most) (hm2 : most ≤ 100) :
    Calls Tryz.prog 168 #[.pointer (some ⟨g, 0, none⟩), .int .i64 most] w fun e w' => ∃ (v : Value) (xs : List ByteArray) (p' : Nat), e = .returned v ∧ own 9 w.heap.size w' v xs ∧ 1 ≤ xs.length ∧ xs.length ≤ 100 ∧ drawnC xs ∧ rdr w' g p' ∧ p' ≤ p + 1001 ∧ w.grownBy w' (some g) := by
  have hlt := hr.lt
  obtain ⟨i0, hi, hz0, hz1, hz2⟩ := info_parts Tryz.infoStr
  go_enter Tryz.func168, Tryz.ntmps168
  go_wp2_with fail
  have hA := hr.alloc (Obj.cells #[] 9)
  have hoA : own (α := ByteArray) 9 w.heap.size (w.alloc (Obj.cells #[] 9)) (.slice (some ⟨w.heap.size, 0, none⟩) 0 0) [] := own.made0 w _ (Nat.le_refl _)
  have hgA := World.grownBy_alloc w (Obj.cells #[] 9) (some g)
  generalize w.alloc (Obj.cells #[] 9) = wA at *
  refine (rd_pick g p most _ hA (by omega) (by unfold isI64; omega)).mono ?_
  rintro e w1 ⟨x, rfl, hx, hr1, hg1⟩
  obtain ⟨x0, x1⟩ := hx.2 (by omega)
  obtain ⟨N, rfl⟩ := Int.eq_ofNat_of_zero_le x0
  have ho1 := hoA.grown hg1 (own_ne hoA hlt)
  have hg1' := grown_trans hgA hg1
  clear hx hoA hA hgA hg1
  go_wp2_with fail
  go_loopw [5, 6] (fun t i wr => ∃ (k : Nat) (xs : List ByteArray) (q : Nat), k ≤ N + 1 ∧ i = .int .i64 k ∧ xs.length + k ≤ N + 1 ∧ Hid (k = N + 1 ∨ 1 ≤ xs.length) ∧ own 9 w.heap.size wr t xs ∧ Hid (drawnC xs) ∧ rdr wr g q ∧ q + 10 * k ≤ p + 1 + 10 * (N + 1) ∧ w.grownBy wr (some g)) (fun _ i _ => (intOf i).toNat)
  case atStart => exact ⟨N + 1, [], p + 1, Nat.le_refl _, by go_num, by simp, .inl rfl, ho1, fun x hx => by simp at hx, hr1, by omega, hg1'⟩
  case round =>
    obtain ⟨k, xs, q, hk, rfl, hxk, HK, ho, HX, hrq, hqb, hgq⟩ := hrel
    obtain ⟨w2, rfl⟩ : ∃ w2 : World, w2 = wr := ⟨_, rfl⟩
    clear ho1 hr1 hg1'
    have HXK := Lib.hid hxk
    have hxl : xs.length ≤ 100 := by omega
    clear hxk
    by_cases hk0 : 0 < k
    · go_wp2_with fail
      refine (rd_l1Some g q _ hrq (by omega)).mono ?_
      rintro e w3 ⟨s, q', rfl, hs7, hr3, hq3, hg3⟩
      have HS7 := Lib.hid hs7
      have hne := own_ne ho hlt
      have ho3 := ho.grown hg3 hne
      have hgq3 := grown_trans hgq hg3
      have hz3 := hgq3.size
      have hsl : s.size ≤ maxLen := by rw [hs7]; decide
      clear hs7 hg3 hne ho
      have HO3 := Lib.hid ho3
      obtain ⟨A, m, c, rfl, hm, _, _, _⟩ := ho3.rd
      subst hm
      clear ho3
      go_wp2_with fail
      refine (spec_l3Rank _ xs s _ HO3.out.rd).mono ?_
      rintro e _ ⟨rfl, rfl⟩
      have hrk := rkI_range xs s
      have HRK : Hid (rkI xs s < 0 ∨ 1 ≤ xs.length) := by show _ ∨ _; omega
      generalize rkI xs s = z at *
      by_cases hz : z < 0
      · go_wp2_with (at_builtin; refine wpList_append1 (α := ByteArray) rfl (.tmp 23) (.tmp 25) _ rfl w.heap.size 9 i0 _ 16 Tryz.underlying23 hi hz0 hz1 hz2 rfl (by decide) (.slice A xs.length c) xs s rfl (HO3.out.alloc _) ⟨w3.heap.size, 0, none⟩ 1 [.string s] rfl ⟨hsl, rfl⟩ (news_at w3 _ [.string s]) (by unfold maxLen; omega) (by omega) (by simp; omega) ?_; intro v' w4 ho4 hg4 _)
        have hb4 : Below w.heap.size w3 w4 := ((Below.refl _ _).alloc hz3 _).trans (below_append (HO3.out.alloc _) hg4 (by simp; omega))
        have hr4 : rdr w4 g q' := (hr3.alloc _).append (HO3.out.alloc _) hg4 hlt
        have hgq4 : w.grownBy w4 (some g) := grown_of_below hgq3 hb4
        clear hg4 hb4 hr3
        go_wp2_with fail
        go_roundw
        case rel =>
          refine ⟨k - 1, _, q', by omega, by go_num, by have := HXK.out; simp; omega, .inr (by simp), ho4, fun x hx => ?_, hr4, by omega, hgq4⟩
          rcases List.mem_append.1 hx with h | h
          · exact HX.out x h
          · simp at h
            subst h
            exact HS7.out
        case measure => simp [intOf]; omega
      · have HZ := Lib.hid hz; clear hz
        have hz' : 0 ≤ z := by have := HZ.out; omega
        go_wp2_with fail
        go_roundw
        case rel => exact ⟨k - 1, xs, q', by omega, by go_num, by have := HXK.out; omega, .inr (by have := HRK.out; have := HZ.out; omega), HO3.out, HX.out, hr3, by omega, hgq3⟩
        case measure => simp [intOf]; omega
    · have HO := Lib.hid ho
      obtain ⟨A, m, c, rfl, hm, _, _, _⟩ := ho.rd
      clear hm ho
      go_wp2_with fail
      go_ret
      exact ⟨_, xs, q, rfl, HO.out, by have := HK.out; omega, hxl, HX.out, hrq, by omega, hgq⟩

end Go.Proofs.YtpinkbodbedajaaGreatDoor

namespace Go.Proofs.YtpinkbodbedajaaGreatDoor
open Go.RowKit

theorem ownP.grown {T base : Nat} {w w' : World} {v : Value} {p : Pln} {row : Option Nat} (h : ownP T base w v p) (hg : w.grownBy w' row) (hr : ∀ k, row = some k → k < base) : ownP T base w' v p := by
  obtain ⟨vo, h1, h2, h3, h4⟩ := h
  refine ⟨vo, h1, h2, h3, h4.grown hg ?_⟩
  cases hb : vo.ownBlock with
  | none => exact .inl rfl
  | some k => exact .inr fun e => by have h1 := (h4.blk k hb).1; have h2 := hr k e.symm; omega
theorem ownP.base_ {T base base' : Nat} {w : World} {v : Value} {p : Pln} (h : ownP T base w v p) (hb : base' ≤ base) : ownP T base' w v p := by
  obtain ⟨vo, h1, h2, h3, h4⟩ := h
  exact ⟨vo, h1, h2, h3, h4.base_ hb⟩

theorem Tryz.sizePln : (Tryz.prog.info? 25).map (·.size) = some 3 := by kernel_rfl
theorem three_set {w : World} {g : Nat} {T : TypeId} {u0 u1 u2 a b d : Value} (h : w.heap[g]? = some (.cells #[u0, u1, u2] T (0, 0))) :
    (((w.setCell ⟨g, 0, none⟩ a).setCell ⟨g, 1, none⟩ b).setCell ⟨g, 2, none⟩ d).heap[g]? = some (.cells #[a, b, d] T (0, 0)) :=
  heap_setCell_same _ _ _ _ _ _ (heap_setCell_same _ _ _ _ _ _ (heap_setCell_same _ _ _ _ _ _ h))
section
variable {P : Program} {fn : Func} {R : Ending → World → Prop} {a : Act} {w : World} {p u v r : Tmp} {ty : TypeId} {g : Nat} {t : TypeId} {cs : Array Value} {d : TypeDesc}
theorem loadBox (hg : w.heap[g]? = some (.cells cs t (0, 0))) (hu : P.underlying ty = some d) (hd : (match d with | .struct _ | .array _ _ => true | _ => false) = true) (hi : (P.info? ty).map (·.size) = some cs.size) :
    (loadVar ty ⟨g, 0, none⟩).run P w = .ok (.agg cs) w := run_loadVar_row w g t ty cs (0, 0) d hg hu hd hi
theorem ret_box (h : fn.results = #[.cell p ty]) (hp : a.tmps.getD p undef = .pointer (some ⟨g, 0, none⟩)) (hg : w.heap[g]? = some (.cells cs t (0, 0)))
    (hu : P.underlying ty = some d) (hd : (match d with | .struct _ | .array _ _ => true | _ => false) = true) (hi : (P.info? ty).map (·.size) = some cs.size) (hf : a.defers = [])
    (hR : R (.returned (.agg cs)) w) : bodyPost P fn R .ret a w :=
  bodyPost_ret (results_cell_row h a.tmps w g t cs (0, 0) d hp hg hu hd hi) hf hR
theorem ret_box1 (h : fn.results = #[.cell p ty, .tmp u]) (hp : a.tmps.getD p undef = .pointer (some ⟨g, 0, none⟩)) (hg : w.heap[g]? = some (.cells cs t (0, 0)))
    (hu : P.underlying ty = some d) (hd : (match d with | .struct _ | .array _ _ => true | _ => false) = true) (hi : (P.info? ty).map (·.size) = some cs.size) (hf : a.defers = [])
    (hR : R (.returned (.tuple #[.agg cs, a.tmps.getD u undef])) w) : bodyPost P fn R .ret a w := by
  refine bodyPost_ret ?_ hf hR
  have hp' : a.tmps[p]?.getD undef = .pointer (some ⟨g, 0, none⟩) := by simpa using hp
  simp [results, h, hp', asAddr, loadBox hg hu hd hi, Sem.run_bind, Result.andThen]
end
/-- A plan that is drawn. -/
def drawnP (p : Pln) : Prop := 2 ≤ p.bins ∧ p.bins ≤ 10 ∧ 1 ≤ p.passes ∧ p.passes ≤ 4 ∧ 1 ≤ p.order.length ∧ p.order.length ≤ 100 ∧ drawnC p.order

def l3SomePost (T : TypeId) (g p : Nat) (w : World) (e : Ending) (w' : World) : Prop :=
  ∃ (v : Value) (x : Pln) (p' : Nat), e = .returned v ∧ ownP T w.heap.size w' v x ∧ drawnP x ∧ rdr w' g p' ∧ p' ≤ p + 1002 ∧ w.grownBy w' (some g)
theorem l3SomePost_of {T g p q b A n c : _} {w w2 : World} {xs : List ByteArray} {y : Int} {V : Value} (hV : own T b w2 V xs) (hb : w.heap.size < b) (hr : rdr w2 g q) (hg : w.grownBy w2 (some g)) (hlt : g < w.heap.size) (hq : q ≤ p + 1 + 1001)
    (n0 : 2 ≤ n) (n1 : n ≤ 10) (y1 : 1 ≤ y) (y2 : y ≤ 4) (l1 : 1 ≤ xs.length) (l2 : xs.length ≤ 100) (hd : drawnC xs) (hVe : V = .slice A xs.length c) :
    l3SomePost T g p w (.returned (.agg #[.int .i64 n, .int .i64 y, .slice A xs.length c])) (((w2.setCell ⟨w.heap.size, 0, none⟩ (.int .i64 n)).setCell ⟨w.heap.size, 1, none⟩ (.int .i64 y)).setCell ⟨w.heap.size, 2, none⟩ (.slice A xs.length c)) := by
  subst hVe
  have HG := grown_setCell (p := ⟨w.heap.size, 2, none⟩) (grown_setCell (p := ⟨w.heap.size, 1, none⟩) (grown_setCell (p := ⟨w.heap.size, 0, none⟩) (World.grownBy.refl w2 (some w.heap.size)) (.inl rfl) (.int .i64 n)) (.inl rfl) (.int .i64 y)) (.inl rfl) (.slice A xs.length c)
  have HS := (((Below.refl w.heap.size w2).setCell (p := ⟨w.heap.size, 0, none⟩) (Nat.le_refl _) (.int .i64 n)).setCell (p := ⟨w.heap.size, 1, none⟩) (Nat.le_refl _) (.int .i64 y)).setCell (p := ⟨w.heap.size, 2, none⟩) (Nat.le_refl _) (.slice A xs.length c)
  exact ⟨_, ⟨n, y, xs⟩, q, rfl, ⟨_, rfl, ⟨by show _ ≤ n; omega, by show n ≤ _; omega⟩, ⟨by show _ ≤ y; omega, by show y ≤ _; omega⟩, (hV.grown HG (own_ne hV hb)).base_ (Nat.le_of_lt hb)⟩, ⟨n0, n1, y1, y2, l1, l2, hd⟩, hr.grown HG hlt, by omega, grown_of_below hg HS⟩

set_option maxRecDepth 100000 in
set_option maxHeartbeats 1000000 in
theorem rd_l3Some (g p : Nat) (w : World) (hr : rdr w g p) (hp : p ≤ 10000000000) :
    Calls Tryz.prog 104 #[.pointer (some ⟨g, 0, none⟩)] w (l3SomePost 9 g p w) := by
  have hlt := hr.lt
  go_enter Tryz.func104, Tryz.ntmps104
  go_wp2_with fail
  have hrA := hr.alloc (Obj.cells #[.int .i64 0, .int .i64 0, .slice none 0 0] 25)
  have hgA := World.grownBy_alloc w (Obj.cells #[.int .i64 0, .int .i64 0, .slice none 0 0] 25) (some g)
  have hzA : w.heap.size + 1 = (w.alloc (Obj.cells #[.int .i64 0, .int .i64 0, .slice none 0 0] 25)).heap.size := by simp
  have hbA := heap_alloc_new w (Obj.cells #[.int .i64 0, .int .i64 0, .slice none 0 0] 25)
  generalize w.alloc (Obj.cells #[.int .i64 0, .int .i64 0, .slice none 0 0] 25) = wA at *
  rw [hzA]
  have hltA := hrA.lt
  refine (rd_num 3 g p _ [4, 3, 5, 2, 10] _ (hrA.alloc _) (by omega) (list_own 3 (g + 1) wA [4, 3, 5, 2, 10] (by simp [isI64]) (by decide) (by omega)) (by decide)).mono ?_
  rintro e w1 ⟨n, hn, rfl, hr1, hg1⟩
  replace hg1 : wA.grownBy w1 (some g) := grown_trans (World.grownBy_alloc wA _ _) hg1
  have hb1 := (hg1.block w.heap.size (by omega) (fun e => by injection e; omega)).trans hbA
  replace hg1 := grown_trans hgA hg1
  have hn2 : 2 ≤ n ∧ n ≤ 10 := by simp at hn; omega
  obtain ⟨hn0, hn1⟩ := hn2
  have hz1 := hg1.size
  clear hn hrA hgA hbA
  have hlt1 : w.heap.size < w1.heap.size := (Array.getElem?_eq_some_iff.1 hb1).1
  have HB1 := Lib.hid hb1; clear hb1
  clear hzA hltA
  go_wp2_with fail
  refine (rd_l3Order g (p + 1) 12 _ hr1 (by omega) (by omega) (by omega)).mono ?_
  rintro e w2 ⟨v, xs, q, rfl, ho2, hl1, hl2, hd, hr2, hq, hg2⟩
  have hb2 := (hg2.block w.heap.size hlt1 (fun e => by injection e; omega)).trans HB1.out
  have HO2 := Lib.hid ho2
  have HZ1 := Lib.hid hz1; have HLT1 := Lib.hid hlt1
  replace hg2 := grown_trans hg1 hg2
  obtain ⟨A, m, c, rfl, hm, _, _, _⟩ := ho2.rd
  subst hm
  clear ho2 HB1 hg1 hr1
  have HD := Lib.hid hd; clear hd
  have HB2 := Lib.hid hb2; clear hb2
  go_wp2_with fail
  refine (rd_LeastPasses xs.length n _).mono ?_
  rintro e _ ⟨x, rfl, hx1, hx2, rfl⟩
  have h2 := HB2.out
  have g0 : w2.cell? ⟨w.heap.size, 0, none⟩ = some (.int .i64 0) := by rw [cell_of_row _ _ _ _ _ _ h2]; rfl
  have g1 : w2.cell? ⟨w.heap.size, 1, none⟩ = some (.int .i64 0) := by rw [cell_of_row _ _ _ _ _ _ h2]; rfl
  have g2 : w2.cell? ⟨w.heap.size, 2, none⟩ = some (.slice none 0 0) := by rw [cell_of_row _ _ _ _ _ _ h2]; rfl
  have f0 : w2.frozen? ⟨w.heap.size, 0, none⟩ = false := by simp [World.frozen?, h2]
  have f1 : w2.frozen? ⟨w.heap.size, 1, none⟩ = false := by simp [World.frozen?, h2]
  have f2 : w2.frozen? ⟨w.heap.size, 2, none⟩ = false := by simp [World.frozen?, h2]
  clear h2
  have HR2 := Lib.hid hr2; have HG2 := Lib.hid hg2
  clear hr2 hg2
  by_cases hx : x < 1
  · go_wp2_with fail
    refine ret_box rfl rfl (three_set HB2.out) Tryz.underlying25 rfl Tryz.sizePln rfl ?_
    exact l3SomePost_of HO2.out HLT1.out HR2.out HG2.out hlt hq hn0 hn1 (by omega) (by omega) hl1 hl2 HD.out rfl
  · go_wp2_with fail
    refine ret_box rfl rfl (three_set HB2.out) Tryz.underlying25 rfl Tryz.sizePln rfl ?_
    exact l3SomePost_of HO2.out HLT1.out HR2.out HG2.out hlt hq hn0 hn1 (by omega) hx2 hl1 hl2 HD.out rfl

end Go.Proofs.YtpinkbodbedajaaGreatDoor

namespace Go.Proofs.YtpinkbodbedajaaGreatDoor
open Go.RowKit

theorem own_cellStr {T base g n c : Nat} {w : World} {xs : List ByteArray} (h : own T base w (.slice (some ⟨g, 0, none⟩) n c) xs) (k : Nat) (hk : k < xs.length) : (xs[k]).size ≤ maxLen ∧ w.cell? ⟨g, k, none⟩ = some (.string xs[k]) := by
  obtain ⟨A, n', c', hv, _, _, _, hrd⟩ := h.rd
  obtain ⟨b, o, hA, _, hok, c1⟩ := hrd.str k hk
  injection hv with e1 _ _
  subst e1
  injection hA with hA
  injection hA with hA1 hA2
  subst hA1 hA2
  rw [Nat.zero_add] at c1
  exact ⟨hok, c1⟩

theorem kept2.cell {g b : Nat} {w w' : World} (h : kept2 g b w w') (p : Addr) (hp : p.block < b) (hne : p.block ≠ g) : w'.cell? p = w.cell? p :=
  World.cell?_of_block (h.block p.block hp hne)
theorem kept2.step {g b : Nat} {u w w' : World} (h : kept2 g b u w) (hg : w.grownBy w' (some g)) (hb : b ≤ u.heap.size) : kept2 g b u w' :=
  h.trans (kept2.grown hg (Nat.le_trans hb h.size))

theorem kept2.set {g b : Nat} {u w : World} (h : kept2 g b u w) (p : Addr) (hp : b ≤ p.block) (v : Value) : kept2 g b u (w.setCell p v) := h.trans (kept2.below ((Below.refl _ _).setCell (p := p) hp v))


end Go.Proofs.YtpinkbodbedajaaGreatDoor

namespace Go.Proofs.YtpinkbodbedajaaGreatDoor
open Go.RowKit

theorem Tryz.infoFwdI : (Tryz.prog.info? 94).map (fun i => (i.zero, i.size, i.bytes)) = some (some (.agg #[.string ⟨#[]⟩, .string ⟨#[]⟩]), 2, 32) := by kernel_rfl
theorem kept2.allocO {g : Nat} {u w : World} (h : kept2 g u.heap.size u w) (o : Obj) : kept2 g u.heap.size u (w.alloc o) := h.trans (kept2.below ((Below.refl _ _).alloc h.size o))
/-- Behind an append to a row of one's own. -/
theorem appendedA {α : Type} [Flat α] {T g q : Nat} {w0 W w4 : World} {v : Value} {ms : List α} {o : Obj} (hr : rdr W g q) (k : kept2 g w0.heap.size w0 W) (ho : own T w0.heap.size (W.alloc o) v ms) (hg : (W.alloc o).grownBy w4 v.ownBlock) (hlt : g < w0.heap.size) :
    rdr w4 g q ∧ kept2 g w0.heap.size w0 w4 :=
  ⟨(hr.alloc o).append ho hg hlt, k.trans (kept2.below (((Below.refl _ _).alloc k.size _).trans (below_append ho hg (by simp; have := k.size; omega))))⟩

set_option maxRecDepth 100000 in
set_option maxHeartbeats 400000 in
theorem rd_l4Code (g p : Nat) (w : World) (hr : rdr w g p) (hp : p ≤ 1000000000000) :
    Calls Tryz.prog 106 #[.pointer (some ⟨g, 0, none⟩)] w fun e w' => ∃ s : ByteArray, e = .returned (.string s) ∧ s.size = 7 ∧ rdr w' g (p + 1) ∧ w.grownBy w' (some g) := by
  have hlt := hr.lt
  go_enter Tryz.func106, Tryz.ntmps106
  go_wp2_with fail
  refine (rd_pick g p 9 _ hr (by omega) (by unfold isI64; omega)).mono ?_
  rintro e w1 ⟨y, rfl, hy, hr1, hg1⟩
  obtain ⟨y0, y1⟩ := hy.2 (by omega)
  obtain ⟨N, rfl⟩ := Int.eq_ofNat_of_zero_le y0
  clear hy
  go_wp2_with fail
  refine (spec_l1Show N 2 _ (by omega) (by omega)).mono ?_
  rintro e w2 ⟨rfl, b2⟩
  have hs := showB_size N 2
  generalize showB N 2 = s at *
  have hr2 := hr1.below b2
  have hg2 := grown_below hg1 b2
  have HS : Hid (((⟨#[49, 50, 48, 48, 49]⟩ : ByteArray) ++ s).size = 7) := by show _ = _; rw [ByteArray.size_append, hs]; rfl
  go_wp2_with fail
  go_ret
  exact ⟨_, rfl, HS.out, hr2, hg2⟩

def drawnF (fs : List Fwd) : Prop := ∀ x ∈ fs, x.src.size = 7 ∧ x.dst.size = 7
set_option maxRecDepth 100000 in
set_option maxHeartbeats 1000000 in
theorem rd_l4Some (g p : Nat) (w : World) (hr : rdr w g p) (hp : p ≤ 100000000000) :
    Calls Tryz.prog 105 #[.pointer (some ⟨g, 0, none⟩)] w fun e w' => ∃ (v : Value) (fs : List Fwd) (p' : Nat), e = .returned v ∧ own 94 w.heap.size w' v fs ∧ fs.length ≤ 8 ∧ drawnF fs ∧ rdr w' g p' ∧ p' ≤ p + 20 ∧ w.grownBy w' (some g) := by
  have hlt := hr.lt
  obtain ⟨i0, hi, hz0, hzz1, hzz2⟩ := info_parts Tryz.infoFwdI
  go_enter Tryz.func105, Tryz.ntmps105
  go_wp2_with fail
  have oE := own.made0 (α := Fwd) w 94 (Nat.le_refl _)
  have hrE := hr.alloc (Obj.cells #[] 94)
  have kE : kept2 g w.heap.size w (w.alloc (Obj.cells #[] 94)) := kept2.below ((Below.refl _ _).alloc (Nat.le_refl _) _)
  have hzA : w.heap.size + 1 = (w.alloc (Obj.cells #[] 94)).heap.size := by simp
  generalize w.alloc (Obj.cells #[] 94) = wA at *
  rw [hzA]
  have HZA := Lib.hid hzA; clear hzA
  have hltA := hrE.lt
  refine (rd_num 3 g p _ [4, 3, 6, 2, 8, 0] _ (hrE.alloc _) (by omega) (list_own 3 (g + 1) wA [4, 3, 6, 2, 8, 0] (by simp [isI64]) (by decide) (by omega)) (by decide)).mono ?_
  rintro e w1 ⟨n, hn, rfl, hr1, hg1⟩
  replace hg1 : wA.grownBy w1 (some g) := grown_trans (World.grownBy_alloc wA _ _) hg1
  have k1 := kE.step hg1 (Nat.le_refl _)
  have o1 := oE.grown hg1 (own_ne oE hlt)
  have hn2 : 0 ≤ n ∧ n ≤ 8 := by simp at hn; omega
  obtain ⟨hn0, hn1⟩ := hn2
  obtain ⟨N, rfl⟩ := Int.eq_ofNat_of_zero_le hn0
  clear hn oE hrE kE hg1
  go_wp2_with fail
  go_loopw [3, 4] (fun t i wr => ∃ (k : Nat) (fs : List Fwd) (q : Nat), k ≤ N ∧ i = .int .i64 k ∧ Hid (fs.length + k ≤ N) ∧ own 94 w.heap.size wr t fs ∧ Hid (drawnF fs) ∧ rdr wr g q ∧ q + 2 * k ≤ p + 1 + 2 * N ∧ kept2 g w.heap.size w wr) (fun _ i _ => (intOf i).toNat)
  case atStart => exact ⟨N, [], p + 1, Nat.le_refl _, rfl, by show _ ≤ _; simp, o1, fun x hx => by simp at hx, hr1, by omega, k1⟩
  case round =>
    obtain ⟨k, fs, q, hk, rfl, HXK, ho, HX, hrq, hqb, kr⟩ := hrel
    obtain ⟨w2, rfl⟩ : ∃ w2 : World, w2 = wr := ⟨_, rfl⟩
    clear o1 hr1 k1
    have hxl : fs.length ≤ 8 := by have := HXK.out; omega
    obtain ⟨A, m, c, hv, hm, _, _, _⟩ := ho.rd
    subst hm hv
    by_cases hk0 : 0 < k
    · go_wp2_with fail
      refine (rd_l4Code g q _ hrq (by omega)).mono ?_
      rintro e w3 ⟨s, rfl, hs7, hr3, hg3⟩
      have o3 := ho.grown hg3 (own_ne ho hlt)
      have k3 := kr.step hg3 (Nat.le_refl _)
      clear ho hg3 kr hrq
      go_wp2_with fail
      refine (rd_l4Code g (q + 1) _ hr3 (by omega)).mono ?_
      rintro e w4 ⟨t, rfl, ht7, hr4, hg4⟩
      have o4 := o3.grown hg4 (own_ne o3 hlt)
      have k4 := k3.step hg4 (Nat.le_refl _)
      have HS7 := Lib.hid hs7; have HT7 := Lib.hid ht7
      have hsl : s.size ≤ maxLen := by rw [hs7]; decide
      have htl : t.size ≤ maxLen := by rw [ht7]; decide
      have HOK : Hid (Fwd.ok ⟨s, t⟩) := ⟨hsl, htl⟩
      clear o3 hg4 k3 hr3 hs7 ht7
      obtain ⟨wb, hwb⟩ : ∃ u, u = w4.alloc (Obj.cells #[.string s, .string t] 94) := ⟨_, rfl⟩
      have hBb : Below w4.heap.size w4 wb := by rw [hwb]; exact (Below.refl _ _).alloc (Nat.le_refl _) _
      have o5 := o4.below hBb
      have r5 : rdr wb g (q + 1 + 1) := by rw [hwb]; exact hr4.alloc _
      have k5 : kept2 g w.heap.size w wb := by rw [hwb]; exact k4.allocO _
      have hbb : wb.heap[w4.heap.size]? = some (.cells #[.string s, .string t] 94 (0, 0)) := by rw [hwb]; exact heap_alloc_new w4 _
      have e0 : wb.cell? ⟨w4.heap.size, 0, none⟩ = some (.string s) := by rw [cell_of_row _ _ _ _ _ _ hbb]; rfl
      have e1 : wb.cell? ⟨w4.heap.size, 1, none⟩ = some (.string t) := by rw [cell_of_row _ _ _ _ _ _ hbb]; rfl
      have e0' := e0
      rw [hwb] at e0'
      have HWB := Lib.hid hwb
      clear hwb hbb hBb o4 hr4 k4
      go_wp2_with fail
      rw [← HWB.out]
      clear e0'
      refine (spec_l4Index _ fs s _ o5.rd).mono ?_
      obtain ⟨r, HRR⟩ : ∃ r, Hid (fwdI fs s = r) := ⟨_, rfl⟩
      rw [HRR.out]
      rintro e _ ⟨rfl, rfl⟩
      have hz5 := k5.size
      by_cases hr0 : r < 0
      · go_wp2_with (at_builtin; refine wpList_append1 (α := Fwd) rfl (.tmp 24) (.tmp 26) _ rfl w.heap.size 94 i0 _ 32 Tryz.underlying26 hi hz0 hzz1 hzz2 rfl (by decide) (.slice A fs.length c) fs ⟨s, t⟩ rfl (o5.alloc _) ⟨wb.heap.size, 0, none⟩ 1 (Fwd.cells ⟨s, t⟩) rfl ⟨HOK.out, rfl⟩ (news_at wb _ (Fwd.cells ⟨s, t⟩)) (by unfold maxLen; omega) (by omega) (by simp; omega) ?_; intro v' w6 o6 hg6 _)
        obtain ⟨hr6, k6⟩ := appendedA r5 k5 (o5.alloc _) hg6 hlt
        clear hg6
        go_wp2_with fail
        go_roundw
        case rel =>
          refine ⟨k - 1, _, q + 1 + 1, by omega, by go_num, by show _ ≤ _; have := HXK.out; simp; omega, o6, fun x hx => ?_, hr6, by omega, k6⟩
          rcases List.mem_append.1 hx with h | h
          · exact HX.out x h
          · rw [List.mem_singleton.1 h]; exact ⟨HS7.out, HT7.out⟩
        case measure => simp [intOf]; omega
      · go_wp2_with fail
        go_roundw
        case rel => exact ⟨k - 1, fs, q + 1 + 1, by omega, by go_num, by show _ ≤ _; have := HXK.out; omega, o5, HX.out, r5, by omega, k5⟩
        case measure => simp [intOf]; omega
    · go_wp2_with fail
      go_ret
      exact ⟨_, fs, q, rfl, ho, hxl, HX.out, hrq, by omega, kept2.back (World.grownBy.refl w (some g)) kr (Nat.le_refl _)⟩

end Go.Proofs.YtpinkbodbedajaaGreatDoor

namespace Go.Proofs.YtpinkbodbedajaaGreatDoor
open Go.RowKit

theorem own_fwd {T base g n c : Nat} {w : World} {xs : List Fwd} (h : own T base w (.slice (some ⟨g, 0, none⟩) n c) xs) (k : Nat) (hk : k < xs.length) :
    (xs[k]).ok ∧ w.cell? ⟨g, k * 2, none⟩ = some (.string (xs[k]).src) ∧ w.cell? ⟨g, k * 2 + 1, none⟩ = some (.string (xs[k]).dst) := by
  obtain ⟨A, n', c', hv, _, _, _, hrd⟩ := h.rd
  obtain ⟨b, o, hA, _, hok, c1, c2⟩ := hrd.fwdU k hk
  injection hv with e1 _ _
  subst e1
  injection hA with hA
  injection hA with hA1 hA2
  subst hA1 hA2
  have c1 := c1 w (Below.refl _ _)
  have c2 := c2 w (Below.refl _ _)
  rw [Nat.zero_add] at c1 c2
  exact ⟨hok, c1, c2⟩

/-- What l4Bad gives. -/
def l4BadPost (T g p b0 : Nat) (v : Value) (w : World) (e : Ending) (w' : World) : Prop :=
  ∃ (v' : Value) (ys : List Fwd) (p' : Nat), e = .returned v' ∧ own T b0 w' v' ys ∧ ys.length ≤ 31 ∧ rdr w' g p' ∧ p' ≤ p + 5 ∧ kept2 g b0 w w' ∧ keptS (fun k => k = g ∨ v.ownBlock = some k) w w' ∧ (∀ r, v'.ownBlock = some r → v.ownBlock = some r ∨ w.heap.size ≤ r)

set_option maxRecDepth 100000 in
set_option maxHeartbeats 1000000 in
theorem rd_l4Bad (g p b0 : Nat) (v : Value) (xs : List Fwd) (w : World) (hr : rdr w g p) (hp : p ≤ 100000000000) (hv : own 94 b0 w v xs) (hb0 : g < b0) (hx1 : xs.length ≤ 8) (hx2 : drawnF xs) :
    Calls Tryz.prog 102 #[.pointer (some ⟨g, 0, none⟩), v] w (l4BadPost 94 g p b0 v w) := by
  have hlt := hr.lt
  obtain ⟨i0, hi, hz0, hz1, hz2⟩ := info_parts Tryz.infoFwdI
  rcases hv.form with ⟨rfl, rfl⟩ | ⟨gg, c, rfl, hg, hgl, hc, hm⟩
  · go_enter Tryz.func102, Tryz.ntmps102
    go_wp2
    go_ret
    exact ⟨_, [], p, rfl, hv, by simp, hr, by omega, kept2.refl _ _ _, keptS.refl _ _, fun r e => .inl e⟩
  · by_cases h0 : xs.length = 0
    · have hl0 : ((xs.length : Int) == 0) = true := by rw [h0]; rfl
      clear h0
      go_enter Tryz.func102, Tryz.ntmps102
      go_wp2
      go_ret
      exact ⟨_, xs, p, rfl, hv, by omega, hr, by omega, kept2.refl _ _ _, keptS.refl _ _, fun r e => .inl e⟩
    have hl0 : ((xs.length : Int) == 0) = false := beq_eq_false_iff_ne.2 (by omega)
    have hpos : 0 < xs.length := by omega
    have hposi : (0 : Int) < (xs.length : Int) := by omega
    unfold maxLen at hm
    go_enter Tryz.func102, Tryz.ntmps102
    go_wp2_with fail
    refine (rd_pick g p 40 _ hr (by omega) (by unfold isI64; omega)).mono ?_
    rintro e w2 ⟨x, rfl, hx, hr2, hg2⟩
    have ho2 := hv.grown hg2 (own_ne hv hb0)
    clear hx
    have hbw : b0 ≤ w.heap.size := by omega
    have hzw := hg2.size
    have hB2 : kept2 g b0 w w2 := kept2.grown hg2 hbw
    have HS2 : keptS (fun k => k = g ∨ (Value.slice (some ⟨gg, 0, none⟩) xs.length c).ownBlock = some k) w w2 := (keptS.refl _ _).next hg2 fun r e => .inl (.inl (by injection e with e; exact e.symm))
    have hz2' := hr2.lt
    by_cases c0 : x = 0
    · have d0 : (x == 0) = true := by simp [c0]
      clear c0
      obtain ⟨⟨hi1, hi2⟩, c1, c2⟩ := own_fwd ho2 0 hpos
      rw [Nat.zero_mul] at c1 c2
      rw [Nat.zero_add] at c2
      have hcs := (hx2 xs[0] (List.getElem_mem _)).2
      have HCS := Lib.hid hcs; clear hcs
      obtain ⟨S0, hS0⟩ : ∃ S0, S0 = xs[0] := ⟨_, rfl⟩
      have HS0 := Lib.hid hS0
      rw [← hS0] at hi1 hi2 c1 c2
      have HCS2 : Hid (S0.dst.size = 7) := by show _ = _; rw [hS0]; exact HCS.out
      clear hS0
      have hcs7 : S0.dst.size ≤ 7 := by rw [HCS2.out]; omega
      have HQ8 : Hid ((S0.dst ++ (⟨#[49]⟩ : ByteArray)).size = 8) := by show _ = _; rw [ByteArray.size_append, HCS2.out]; rfl
      go_wp2_with fail
      refine (rd_l1Bad g (p + 1) _ _ hr2 (by omega) (by rw [HQ8.out]; omega) (by rw [HQ8.out]; omega)).mono ?_
      rintro e w3 ⟨t, rfl, ht, hr3, hg3⟩
      have ht' : t.size ≤ maxLen := by
        rw [HQ8.out] at ht
        unfold maxLen; omega
      have ho3 := ho2.grown hg3 (own_ne ho2 hb0)
      obtain ⟨u1, g1⟩ := ho3.cellAt (j := 1) (by show _ < _ * 2; omega)
      have f1 := ho3.freeAt 1
      have HO := Lib.hid (ho3.setCell (k := 0) (j := 1) hpos (by decide) (.string t) ⟨S0.src, t⟩ (fun ecs he => by
        obtain ⟨_, rfl⟩ := he
        refine ⟨⟨hi1, ht'⟩, ?_⟩
        rw [← HS0.out]
        rfl))
      have HR : Hid (rdr (w3.setCell ⟨gg, 1, none⟩ (.string t)) g (p + 1 + 1)) := hr3.grown (g' := gg) (grown_setCell (World.grownBy.refl _ _) (.inl rfl) _) (Nat.lt_of_lt_of_le hb0 hg)
      have HB : Hid (kept2 g b0 w (w3.setCell ⟨gg, 1, none⟩ (.string t))) := (hB2.trans (kept2.grown hg3 (by omega))).trans (kept2.below ((Below.refl _ _).setCell (p := ⟨gg, 1, none⟩) hg _))
      have HS3 := (HS2.next hg3 fun r e => .inl (.inl (by injection e with e; exact e.symm))).set ⟨gg, 1, none⟩ (.inl (.inr rfl)) (.string t)
      clear ho3 ht HS2
      go_wp2_with fail
      go_ret
      exact ⟨_, _, _, rfl, by simpa [El.size] using HO.out, by simp; omega, HR.out, by omega, HB.out, HS3, fun r e => .inl e⟩
    have d0 : (x == 0) = false := by simp [c0]
    by_cases c1 : x = 1
    · have d1 : (x == 1) = true := by simp [c1]
      clear c1 c0
      obtain ⟨hok, c1, c2⟩ := own_fwd ho2 0 hpos
      rw [Nat.zero_mul] at c1 c2
      rw [Nat.zero_add] at c2
      have HOK := Lib.hid hok; clear hok
      generalize xs[0] = y at *
      go_wp2_with (at_builtin; refine wpList_append1 (α := Fwd) rfl (.tmp 25) (.tmp 29) _ rfl b0 94 i0 _ 32 Tryz.underlying26 hi hz0 hz1 hz2 rfl (by decide) (.slice (some ⟨gg, 0, none⟩) xs.length c) xs y rfl (ho2.alloc _) ⟨w2.heap.size, 0, none⟩ 1 (Fwd.cells y) rfl ⟨HOK.out, rfl⟩ (news_at w2 _ (Fwd.cells y)) (by unfold maxLen; omega) (by omega) (by simp; omega) ?_; intro v' w4 ho4 hg4 ha4)
      have hr4 : rdr w4 g (p + 1) := (hr2.alloc _).append (ho2.alloc _) hg4 hb0
      have hB4 : kept2 g b0 w w4 := (hB2.trans (kept2.below ((Below.refl _ _).alloc (by omega) _))).trans (kept2.below (below_append (ho2.alloc _) hg4 (by simp; omega)))
      have hS4 := (HS2.alloc (Obj.cells (Fwd.cells y).toArray 94)).next hg4 fun r e => .inl (.inr e)
      have hT4 : Hid (∀ r, v'.ownBlock = some r → (Value.slice (some ⟨gg, 0, none⟩) xs.length c).ownBlock = some r ∨ w.heap.size ≤ r) := fun r e => by
        rcases ha4 with h | h
        · exact .inl (h.symm.trans e)
        · right
          rw [h] at e
          injection e with e
          simp at e
          omega
      clear hg4 ha4
      go_wp2_with fail
      go_ret
      exact ⟨_, _, _, rfl, ho4, by simp; omega, hr4, by omega, hB4, hS4, hT4.out⟩
    have d1 : (x == 1) = false := by simp [c1]
    by_cases c2 : x = 2
    · have d2 : (x == 2) = true := by simp [c2]
      clear c2 c1 c0
      go_wp2_with fail
      have HO2 := Lib.hid ho2; clear ho2
      go_loopw [1] (fun t wr => ∃ (ys : List Fwd), own 94 b0 wr t ys ∧ ys.length ≤ 31 ∧ rdr wr g (p + 1) ∧ kept2 g b0 w wr ∧ keptS (fun k => k = g ∨ (Value.slice (some ⟨gg, 0, none⟩) xs.length c).ownBlock = some k) w wr ∧ Hid (∀ r, t.ownBlock = some r → r = gg ∨ w.heap.size ≤ r)) (fun t wr => match t with | .slice _ n _ => 31 - n | _ => 0)
      case atStart => exact ⟨xs, HO2.out, by omega, hr2, hB2, HS2, fun r e => .inl (by injection e with e; exact e.symm)⟩
      case round =>
        obtain ⟨ys, ho, hy, hrr, hB, hS, HT⟩ := hrel
        obtain ⟨w3, rfl⟩ : ∃ w3 : World, w3 = wr := ⟨_, rfl⟩
        clear hr2 hB2 HS2
        obtain ⟨A, m, c', hv', hm', _, _, _⟩ := ho.rd
        subst hm' hv'
        have hlt3 := hrr.lt
        by_cases h61 : ys.length < 31
        · obtain ⟨N5, hN5⟩ : ∃ N5 : Nat, N5 = 5000 + ys.length := ⟨_, rfl⟩
          have hN6 : N5 ≤ 5031 := by omega
          have hws : IntKind.i64.wrap ((5000 : Int) + (ys.length : Int)) = (N5 : Int) := by rw [IntWalk.i64_in _ (by omega)]; omega
          clear hN5
          go_wp2_with fail
          refine (spec_l1Show N5 7 _ (by omega) (by omega)).mono ?_
          rintro e w5 ⟨rfl, b5⟩
          have hs := showB_size N5 7
          generalize showB N5 7 = s at *
          have ho5 := ho.below b5
          have hr5 := hrr.below b5
          have hB5 := hB.trans (kept2.below (b5.mono (by have := hB.size; omega) : Below b0 w3 w5))
          have hS5 := hS.below (b5.mono hS.size)
          have hb3 : b0 ≤ w5.heap.size := by have := hB5.size; omega
          have HOK : Hid (Fwd.ok ⟨s, ⟨#[49, 50, 48, 48, 49, 48, 48]⟩⟩) := ⟨by show s.size ≤ maxLen; rw [hs]; decide, by show 7 ≤ maxLen; decide⟩
          clear hs b5 ho hrr hB hS
          go_wp2_with (at_builtin; refine wpList_append1 (α := Fwd) rfl (.tmp 36) (.tmp 42) _ rfl b0 94 i0 _ 32 Tryz.underlying26 hi hz0 hz1 hz2 rfl (by decide) (.slice A ys.length c') ys ⟨s, ⟨#[49, 50, 48, 48, 49, 48, 48]⟩⟩ rfl (ho5.alloc _) ⟨w5.heap.size, 0, none⟩ 1 (Fwd.cells ⟨s, ⟨#[49, 50, 48, 48, 49, 48, 48]⟩⟩) rfl ⟨HOK.out, rfl⟩ (news_at w5 _ (Fwd.cells ⟨s, ⟨#[49, 50, 48, 48, 49, 48, 48]⟩⟩)) (by unfold maxLen; omega) (by omega) (by simp; omega) ?_; intro v' w4 ho4 hg4 ha4)
          have hr4 : rdr w4 g (p + 1) := (hr5.alloc _).append (ho5.alloc _) hg4 hb0
          have hB4 : kept2 g b0 w w4 := (hB5.trans (kept2.below ((Below.refl _ _).alloc hb3 _))).trans (kept2.below (below_append (ho5.alloc _) hg4 (by simp; omega)))
          have hS4 := (hS5.alloc (Obj.cells (Fwd.cells ⟨s, ⟨#[49, 50, 48, 48, 49, 48, 48]⟩⟩).toArray 94)).next hg4 fun r e => by
            rcases HT.out r e with h | h
            · exact .inl (.inr (by rw [h]; rfl))
            · exact .inr h
          have HT4 : Hid (∀ r, v'.ownBlock = some r → r = gg ∨ w.heap.size ≤ r) := fun r e => by
            rcases ha4 with h | h
            · exact HT.out r (h.symm.trans e)
            · right
              rw [h] at e
              injection e with e
              have hzz := hB5.size
              simp at e
              omega
          clear hg4 ha4
          obtain ⟨A4, m4, c4, hv4, hm4, _, _, _⟩ := ho4.rd
          subst hm4 hv4
          go_wp2_with fail
          go_roundw
          case rel => exact ⟨_, ho4, by simp; omega, hr4, hB4, hS4, HT4⟩
          case measure => simp; omega
        · go_wp2_with fail
          go_ret
          exact ⟨_, ys, _, rfl, ho, hy, hrr, by omega, hB, hS, fun r e => (HT.out r e).imp (fun h => by rw [h]; rfl) id⟩
    have d2 : (x == 2) = false := by simp [c2]
    clear c0 c1 c2
    go_wp2_with fail
    go_ret
    exact ⟨_, xs, _, rfl, ho2, by omega, hr2, by omega, hB2, HS2, fun r e => .inl e⟩

end Go.Proofs.YtpinkbodbedajaaGreatDoor
