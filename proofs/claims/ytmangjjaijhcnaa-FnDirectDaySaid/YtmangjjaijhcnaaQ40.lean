/- SE SI STU -/
import Derived.Test.YtmangjjaijhcnaaQ37
import Derived.Test.YtmangjjaijhcnaaQ36
import Derived.Test.YtmangjjaijhcnaaQ39
import Derived.Shelf.SlLaysF0
import Derived.Shelf.SlSortCmp.InsertionK
import Derived.Shelf.Small.Strs
import Derived.Ground.SlsfProg
import Derived.Ground.NamesProg
import Derived.Sort.LotA
import Derived.Test.YtmangjjaijhcnaaProg
import Derived.Test.YtmangjjaijhcnaaQ7
import Derived.Test.YtmangjjaijhcnaaQ5
namespace Go.Proofs.Ytmangjjaijhcnaa
open Go.RowKit

set_option maxRecDepth 100000 in
set_option maxHeartbeats 1000000 in
theorem rd_l2BadC (g p b0 : Nat) (v : Value) (xs : List Ltr) (w : World) (hr : rdr w g p) (hp : p ≤ 100000000000) (hv : own 55 b0 w v xs) (hb0 : g < b0) (hx1 : xs.length ≤ 14) (hx2 : ∀ x ∈ xs, x.code.size = 7) :
    Calls Try.prog 46 #[.pointer (some ⟨g, 0, none⟩), v] w fun e w' => ∃ (v' : Value) (ys : List Ltr) (p' : Nat), e = .returned v' ∧ own 55 b0 w' v' ys ∧ (ys.length ≤ 14 ∨ ys.length = 61) ∧ rdr w' g p' ∧ p' ≤ p + 5 ∧ kept2 g b0 w w' ∧ keptS (fun k => k = g ∨ v.ownBlock = some k) w w' := by
  have hlt := hr.lt
  obtain ⟨i0, hi, hz0, hz1, hz2⟩ := info_parts Try.infoLtr
  rcases hv.form with ⟨rfl, rfl⟩ | ⟨gg, c, rfl, hg, hgl, hc, hm⟩
  · go_enter Try.func46, Try.ntmps46
    go_wp2
    go_ret
    exact ⟨_, [], p, rfl, hv, .inl (by simp), hr, by omega, kept2.refl _ _ _, keptS.refl _ _⟩
  · by_cases h0 : xs.length = 0
    · have hl0 : ((xs.length : Int) == 0) = true := by rw [h0]; rfl
      clear h0
      go_enter Try.func46, Try.ntmps46
      go_wp2
      go_ret
      exact ⟨_, xs, p, rfl, hv, .inl (by omega), hr, by omega, kept2.refl _ _ _, keptS.refl _ _⟩
    have hl0 : ((xs.length : Int) == 0) = false := beq_eq_false_iff_ne.2 (by omega)
    have hpos : 0 < xs.length := by omega
    unfold maxLen at hm
    go_enter Try.func46, Try.ntmps46
    go_wp2_with fail
    refine (rd_pick g p xs.length _ hr (by omega) ⟨by omega, by omega⟩).mono ?_
    rintro e w1 ⟨x, rfl, hx, hr1, hg1⟩
    obtain ⟨y0, y1⟩ := hx.2 (by omega)
    obtain ⟨k, rfl⟩ := Int.eq_ofNat_of_zero_le y0
    have ho1 := hv.grown hg1 (own_ne hv hb0)
    clear hx
    go_wp2_with fail
    refine (rd_pick g (p + 1) 40 _ hr1 (by omega) (by unfold isI64; omega)).mono ?_
    rintro e w2 ⟨x, rfl, hx, hr2, hg2⟩
    have ho2 := ho1.grown hg2 (own_ne ho1 hb0)
    replace hg2 := grown_trans hg1 hg2
    clear hx hg1
    have hbw : b0 ≤ w.heap.size := by omega
    have hzw := hg2.size
    have hB2 : kept2 g b0 w w2 := kept2.grown hg2 hbw
    have hz2' := hr2.lt
    have HS2 : keptS (fun k => k = g ∨ (Value.slice (some ⟨gg, 0, none⟩) xs.length c).ownBlock = some k) w w2 := (keptS.refl _ _).next hg2 fun r e => .inl (.inl (by injection e with e; exact e.symm))
    by_cases c0 : x = 0
    · have d0 : (x == 0) = true := by simp [c0]
      clear c0
      obtain ⟨⟨hi1, hi2⟩, c1, c2⟩ := own_ltr ho2 k (by omega)
      have hcs := hx2 xs[k] (List.getElem_mem _)
      have hcs' : xs[k].code.size ≤ 7 := by omega
      have HCS := Lib.hid hcs; clear hcs
      generalize hxk : xs[k] = z at *
      have HXK := Lib.hid hxk; clear hxk
      go_wp2_with fail
      refine (rd_l1Bad g (p + 1 + 1) _ _ hr2 (by omega) (by rw [ByteArray.size_append]; show 1 ≤ _ + 1; omega) (by rw [ByteArray.size_append]; show _ + 1 ≤ _; omega)).mono ?_
      rintro e w3 ⟨t, rfl, ht, hr3, hg3⟩
      have ht' : t.size ≤ maxLen := by
        rw [ByteArray.size_append] at ht
        have : t.size ≤ z.code.size + 1 + 1 := ht
        unfold maxLen; omega
      have ho3 := ho2.grown hg3 (own_ne ho2 hb0)
      obtain ⟨u1, g1⟩ := ho3.cellAt (j := k * 2 + 1) (by show _ < _ * 2; omega)
      have f1 := ho3.freeAt (k * 2 + 1)
      have HO := Lib.hid (ho3.setCell (k := k) (j := 1) (by omega) (by decide) (.string t) ⟨z.id, t⟩ (fun ecs he => by
        obtain ⟨_, rfl⟩ := he
        refine ⟨⟨hi1, ht'⟩, ?_⟩
        rw [HXK.out]
        rfl))
      have HR : Hid (rdr (w3.setCell ⟨gg, k * 2 + 1, none⟩ (.string t)) g (p + 1 + 1 + 1)) := hr3.grown (g' := gg) (grown_setCell (World.grownBy.refl _ _) (.inl rfl) _) (Nat.lt_of_lt_of_le hb0 hg)
      have HB : Hid (kept2 g b0 w (w3.setCell ⟨gg, k * 2 + 1, none⟩ (.string t))) := (hB2.trans (kept2.grown hg3 (by omega))).trans (kept2.below ((Below.refl _ _).setCell (p := ⟨gg, k * 2 + 1, none⟩) hg _))
      have HS3 := (HS2.next hg3 fun r e => .inl (.inl (by injection e with e; exact e.symm))).set ⟨gg, k * 2 + 1, none⟩ (.inl (.inr rfl)) (.string t)
      clear ho3 ht HS2
      go_wp2_with fail
      go_ret
      exact ⟨_, _, _, rfl, HO.out, .inl (by simp; omega), HR.out, by omega, HB.out, HS3⟩
    have d0 : (x == 0) = false := by simp [c0]
    by_cases c1 : x = 1
    · have d1 : (x == 1) = true := by simp [c1]
      clear c1 c0
      obtain ⟨⟨hi1, hi2⟩, c1, _⟩ := own_ltr ho2 0 hpos
      rw [Nat.zero_mul] at c1
      generalize xs[0].id = i at *
      go_wp2_with fail
      have hB3 := hB2
      refine (rd_num 3 g (p + 1 + 1) _ [0, 10000, 9999, -1, i] _ (hr2.alloc _) (by omega) (list_own 3 (g + 1) w2 [0, 10000, 9999, -1, i] (by
        intro y hy
        simp at hy
        rcases hy with rfl | rfl | rfl | rfl | rfl
        · simp [isI64]
        · simp [isI64]
        · simp [isI64]
        · simp [isI64]
        · exact hi1) (by show 5 ≤ maxLen; decide) (by omega)) (by show 0 < 5; decide)).mono ?_
      rintro e w3 ⟨y, hy, rfl, hr3, hg3⟩
      have hyi : isI64 y := by
        simp at hy
        rcases hy with rfl | rfl | rfl | rfl | rfl
        · simp [isI64]
        · simp [isI64]
        · simp [isI64]
        · simp [isI64]
        · exact hi1
      clear hy
      have ho2' := ho2.alloc (Obj.cells ([0, 10000, 9999, -1, i].map (Value.int IntKind.i64)).toArray 3)
      have ho3 := ho2'.grown hg3 (own_ne ho2' hb0)
      obtain ⟨u1, g1⟩ := ho3.cellAt (j := k * 2) (by show _ < _ * 2; omega)
      have f1 := ho3.freeAt (k * 2)
      have HO := Lib.hid (ho3.setCell (k := k) (j := 0) (by omega) (by decide) (.int .i64 y) ⟨y, xs[k].code⟩ (fun ecs he => by
        obtain ⟨⟨_, hh⟩, rfl⟩ := he
        exact ⟨⟨hyi, hh⟩, rfl⟩))
      have HR : Hid (rdr (w3.setCell ⟨gg, k * 2, none⟩ (.int .i64 y)) g (p + 1 + 1 + 1)) := hr3.grown (g' := gg) (grown_setCell (World.grownBy.refl _ _) (.inl rfl) _) (Nat.lt_of_lt_of_le hb0 hg)
      have HB : Hid (kept2 g b0 w (w3.setCell ⟨gg, k * 2, none⟩ (.int .i64 y))) := ((hB2.trans (kept2.below ((Below.refl _ _).alloc (by omega) _))).trans (kept2.grown hg3 (by simp; omega))).trans (kept2.below ((Below.refl _ _).setCell (p := ⟨gg, k * 2, none⟩) hg _))
      have HS3 := ((HS2.alloc _).next hg3 fun r e => .inl (.inl (by injection e with e; exact e.symm))).set ⟨gg, k * 2, none⟩ (.inl (.inr rfl)) (.int .i64 y)
      clear ho3 ho2' hg3 HS2
      go_wp2_with fail
      go_ret
      exact ⟨_, _, _, rfl, HO.out, .inl (by simp; omega), HR.out, by omega, HB.out, HS3⟩
    have d1 : (x == 1) = false := by simp [c1]
    by_cases c2 : x = 2
    · have d2 : (x == 2) = true := by simp [c2]
      clear c2 c1 c0
      go_wp2_with fail
      have HO2 := Lib.hid ho2; clear ho2
      go_loopw [1] (fun t wr => ∃ (ys : List Ltr), own 55 b0 wr t ys ∧ ys.length ≤ 61 ∧ rdr wr g (p + 1 + 1) ∧ kept2 g b0 w wr ∧ keptS (fun k => k = g ∨ (Value.slice (some ⟨gg, 0, none⟩) xs.length c).ownBlock = some k) w wr ∧ Hid (∀ r, t.ownBlock = some r → r = gg ∨ w.heap.size ≤ r)) (fun t wr => match t with | .slice _ n _ => 61 - n | _ => 0)
      case atStart => exact ⟨xs, HO2.out, by omega, hr2, hB2, HS2, fun r e => .inl (by injection e with e; exact e.symm)⟩
      case round =>
        obtain ⟨ys, ho, hy, hrr, hB, hS, HT⟩ := hrel
        obtain ⟨w3, rfl⟩ : ∃ w3 : World, w3 = wr := ⟨_, rfl⟩
        clear hr2 hB2 HS2
        obtain ⟨A, m, c', hv', hm', _, _, _⟩ := ho.rd
        subst hm' hv'
        have hlt3 := hrr.lt
        by_cases h61 : ys.length < 61
        · have hb3 : b0 ≤ w3.heap.size := by have := hB.size; omega
          go_wp2_with (at_builtin; refine wpList_append1 (α := Ltr) rfl (.tmp 48) (.tmp 53) _ rfl b0 55 i0 _ 24 Try.underlying29 hi hz0 hz1 hz2 rfl (by decide) (.slice A ys.length c') ys ⟨1000 + ys.length, ⟨#[49, 50, 48, 48, 49, 48, 49]⟩⟩ rfl (ho.alloc _) ⟨w3.heap.size, 0, none⟩ 1 (Ltr.cells ⟨1000 + ys.length, ⟨#[49, 50, 48, 48, 49, 48, 49]⟩⟩) rfl ⟨⟨⟨by show _ ≤ 1000 + (ys.length : Int); omega, by show 1000 + (ys.length : Int) ≤ _; omega⟩, by show 7 ≤ maxLen; decide⟩, rfl⟩ (news_at w3 _ (Ltr.cells ⟨1000 + ys.length, ⟨#[49, 50, 48, 48, 49, 48, 49]⟩⟩)) (by unfold maxLen; omega) (by omega) (by simp; omega) ?_; intro v' w4 ho4 hg4 ha4)
          have hr4 : rdr w4 g (p + 1 + 1) := (hrr.alloc _).append (ho.alloc _) hg4 hb0
          have hB4 : kept2 g b0 w w4 := (hB.trans (kept2.below ((Below.refl _ _).alloc hb3 _))).trans (kept2.below (below_append (ho.alloc _) hg4 (by simp; omega)))
          have hS4 := (hS.alloc (Obj.cells (Ltr.cells ⟨1000 + ys.length, ⟨#[49, 50, 48, 48, 49, 48, 49]⟩⟩).toArray 55)).next hg4 fun r e => by
            rcases HT.out r e with h | h
            · exact .inl (.inr (by rw [h]; rfl))
            · exact .inr h
          have HT4 : Hid (∀ r, v'.ownBlock = some r → r = gg ∨ w.heap.size ≤ r) := fun r e => by
            rcases ha4 with h | h
            · exact HT.out r (h.symm.trans e)
            · right
              rw [h] at e
              injection e with e
              have hzz := hB.size
              simp at e
              omega
          clear hg4 ha4
          obtain ⟨A4, m4, c4, hv4, hm4, _, _, _⟩ := ho4.rd
          subst hm4 hv4
          go_wp2_with fail
          go_roundw
          case rel => exact ⟨_, ho4, by simp; omega, hr4, hB4, hS4, HT4⟩
          case measure => simp; omega
        · go_wp2_with fail
          go_ret
          exact ⟨_, ys, _, rfl, ho, .inr (by omega), hrr, by omega, hB, hS⟩
    have d2 : (x == 2) = false := by simp [c2]
    clear c0 c1 c2
    go_wp2_with fail
    go_ret
    exact ⟨_, xs, _, rfl, ho2, .inl (by omega), hr2, by omega, hB2, HS2⟩

theorem rd_l2OpenC (g p : Nat) (w : World) (hr : rdr w g p) (hp : p ≤ 1000000000) :
    Calls Try.prog 82 #[.pointer (some ⟨g, 0, none⟩)] w fun e w' => ∃ (v : Value) (xs : List Ltr) (p' : Nat), e = .returned v ∧ own 55 w.heap.size w' v xs ∧ (xs.length ≤ 14 ∨ xs.length = 61) ∧ rdr w' g p' ∧ p' ≤ p + 300 ∧ w.grownBy w' (some g) := by
  have hlt := hr.lt
  go_enter Try.func82, Try.ntmps82
  go_wp2_with fail
  refine (rd_pick g p 5 _ hr (by omega) (by unfold isI64; omega)).mono ?_
  rintro e w1 ⟨x, rfl, hx, hr1, hg1⟩
  obtain ⟨x0, x1⟩ := hx.2 (by omega)
  clear hx
  go_wp2_with fail
  refine (rd_l2Some g (p + 1) (1 + x) w1 hr1 (by omega) (by omega) (by omega)).mono ?_
  rintro e w2 ⟨v, xs, p2, rfl, ho2, hl2, hc2, hr2, hp2, hg2⟩
  have hz1 := hg1.size
  replace hg2 := grown_trans hg1 hg2
  go_wp2_with fail
  refine (rd_l2BadC g p2 w1.heap.size v xs w2 hr2 (by omega) ho2 (by omega) (by omega) hc2).mono ?_
  rintro e w3 ⟨v3, ys, p3, rfl, ho3, hl3, hr3, hp3, hB3, _⟩
  go_wp2_with fail
  go_ret
  exact ⟨v3, ys, p3, rfl, ho3.base_ hz1, hl3, hr3, by omega, kept2.back hg2 hB3 hz1⟩

theorem draw_DrawSealOf (v : Value) (bs : List UInt8) (w : World) (hv : rd w w.heap.size v bs) :
    Calls Try.prog 37 #[v] w fun e w' => ∃ (v' : Value) (xs : List Ltr), e = .returned v' ∧ own 55 w.heap.size w' v' xs ∧ (xs.length ≤ 14 ∨ xs.length = 61) ∧ Below w.heap.size w w' := by
  go_enter Try.func37, Try.ntmps37
  go_wp2_with fail
  refine (rd_open v bs w hv).mono ?_
  rintro e w1 ⟨g, rfl, hg, hr, b1⟩
  go_wp2_with fail
  refine (rd_l2OpenC g 0 w1 hr (by omega)).mono ?_
  rintro e w2 ⟨v2, xs, p', rfl, ho, hl, _, _, hg2⟩
  go_wp2_with fail
  go_ret
  exact ⟨_, xs, rfl, ho.base_ b1.size, hl, b1.trans (below_of_grown hg2 b1.size (fun k hk => by injection hk; omega))⟩


theorem sL_snoc (xs : List Ltr) (x : Ltr) : sL (xs ++ [x]) = (sL xs + x.id * x.id) % 9973 := by
  unfold sL
  rw [List.foldl_append]
  rfl
theorem erase_perm {α : Type} : ∀ (xs : List α) (k : Nat) (hk : k < xs.length), (xs.eraseIdx k ++ [xs[k]]).Perm xs
  | x :: xs, 0, _ => by
    show (xs ++ [x]).Perm (x :: xs)
    exact List.perm_append_comm
  | x :: xs, k + 1, hk => by
    have hk' : k < xs.length := by simpa using hk
    show (x :: (xs.eraseIdx k ++ [xs[k]])).Perm (x :: xs)
    exact (erase_perm xs k hk').cons x
theorem sL_erase (xs : List Ltr) (k : Nat) (hk : k < xs.length) : sL xs = (sL (xs.eraseIdx k) + xs[k].id * xs[k].id) % 9973 := by
  rw [← sL_snoc]
  exact seal_perm (((erase_perm xs k hk).map Ltr.id).symm)
theorem sL_range (xs : List Ltr) : ∀ n : Int, 0 ≤ n → n < 9973 → 0 ≤ xs.foldl sStep n ∧ xs.foldl sStep n < 9973 := by
  induction xs with
  | nil => exact fun n h0 h1 => ⟨h0, h1⟩
  | cons x xs ih => exact fun n h0 h1 => ih _ (by unfold sStep; omega) (by unfold sStep; omega)
theorem sq_prime_ : ((List.range 10000).all fun i => decide (i * i % 9973 = 0 → i % 9973 = 0)) = true := by decide +kernel
theorem sq_prime {i : Int} (h0 : 0 ≤ i) (h1 : i ≤ 9999) (h : i * i % 9973 = 0) : i % 9973 = 0 := by
  obtain ⟨k, rfl⟩ := Int.eq_ofNat_of_zero_le h0
  have := List.all_eq_true.1 sq_prime_ k (List.mem_range.2 (by omega))
  rw [decide_eq_true_iff] at this
  have h1 : ((k * k : Nat) : Int) % 9973 = 0 := by rw [Int.natCast_mul]; exact h
  have h2 : k * k % 9973 = 0 := by omega
  have h3 := this h2
  omega
theorem okB_perm {xs ys : List Ltr} (h : okB xs = true) (hp : xs.Perm ys) : okB ys = true := by
  obtain ⟨h1, h2, h3⟩ := okB_pw.1 h
  exact okB_pw.2 ⟨by rw [← hp.length_eq]; exact h1, fun x hx => h2 x (hp.mem_iff.2 hx), hp.pairwise h3 (fun hab e => hab e.symm)⟩

end Go.Proofs.Ytmangjjaijhcnaa

namespace Go.Proofs
open Go.Shelf
def Try.laysIns_ren : Go.Shelf.Ren := ⟨fun | 20 => 184 | n => n, fun | 24 => 55 | 22 => 29 | 3 => 3 | 25 => 163 | 4 => 4 | 0 => 0 | n => n, fun | n => n⟩
theorem Try.laysIns : Go.Proofs.SlLaysF0.n20 Try.prog Try.laysIns_ren := {
  mixed := by kernel_rfl
  f20 := ⟨Try.f184.name, by decide, Try.func184.trans (congrArg some (by kernel_rfl))⟩
  t0 := Try.underlying0
  a0 := Try.isAgg0
  z0 := Try.sizeOf0
  v0 := Try.zeroValue0
  t3 := Try.underlying3
  a3 := Try.isAgg3
  z3 := Try.sizeOf3
  v3 := Try.zeroValue3
  t4 := Try.underlying4
  a4 := Try.isAgg4
  z4 := Try.sizeOf4
  v4 := Try.zeroValue4
  t22 := Try.underlying29
  a22 := Try.isAgg29
  z22 := Try.sizeOf29
  v22 := Try.zeroValue29
  t25 := Try.underlying163
  a25 := Try.isAgg163
  z25 := Try.sizeOf163
  v25 := Try.zeroValue163 }
def Try.laysSF_ren : Go.Shelf.Ren := ⟨fun | 6 => 59 | 15 => 110 | 14 => 109 | 28 => 157 | 29 => 158 | 20 => 149 | 21 => 150 | 22 => 151 | 23 => 152 | 24 => 153 | 25 => 154 | 26 => 155 | 27 => 156 | 46 => 177 | 47 => 178 | 48 => 179 | 49 => 180 | 50 => 181 | 57 => 186 | n => n, fun | 22 => 26 | 24 => 90 | 25 => 95 | 3 => 3 | 39 => 148 | 0 => 0 | 53 => 178 | 55 => 180 | 4 => 4 | 46 => 171 | 45 => 170 | 50 => 175 | 5 => 5 | 9 => 9 | 66 => 194 | 70 => 198 | 76 => 202 | 77 => 203 | n => n, fun | n => n⟩
theorem Try.laysSF : Go.Proofs.SlLaysF0.n6 Try.prog Try.laysSF_ren := {
  mixed := by kernel_rfl
  f6 := ⟨Try.f59.name, by decide, Try.func59.trans (congrArg some (by kernel_rfl))⟩
  f14 := ⟨Try.f109.name, by decide, Try.func109.trans (congrArg some (by kernel_rfl))⟩
  f15 := Try.func110.trans (congrArg some (by kernel_rfl))
  f20 := ⟨Try.f149.name, by decide, Try.func149.trans (congrArg some (by kernel_rfl))⟩
  f21 := ⟨Try.f150.name, by decide, Try.func150.trans (congrArg some (by kernel_rfl))⟩
  f22 := ⟨Try.f151.name, by decide, Try.func151.trans (congrArg some (by kernel_rfl))⟩
  f23 := ⟨Try.f152.name, by decide, Try.func152.trans (congrArg some (by kernel_rfl))⟩
  f24 := ⟨Try.f153.name, by decide, Try.func153.trans (congrArg some (by kernel_rfl))⟩
  f25 := ⟨Try.f154.name, by decide, Try.func154.trans (congrArg some (by kernel_rfl))⟩
  f26 := ⟨Try.f155.name, by decide, Try.func155.trans (congrArg some (by kernel_rfl))⟩
  f27 := ⟨Try.f156.name, by decide, Try.func156.trans (congrArg some (by kernel_rfl))⟩
  f28 := Try.func157.trans (congrArg some (by kernel_rfl))
  f29 := Try.func158.trans (congrArg some (by kernel_rfl))
  f46 := ⟨Try.f177.name, by decide, Try.func177.trans (congrArg some (by kernel_rfl))⟩
  f47 := Try.func178.trans (congrArg some (by kernel_rfl))
  f48 := Try.func179.trans (congrArg some (by kernel_rfl))
  f49 := ⟨Try.f180.name, by decide, Try.func180.trans (congrArg some (by kernel_rfl))⟩
  f50 := ⟨Try.f181.name, by decide, Try.func181.trans (congrArg some (by kernel_rfl))⟩
  f57 := ⟨Try.f186.name, by decide, Try.func186.trans (congrArg some (by kernel_rfl))⟩
  t0 := Try.underlying0
  a0 := Try.isAgg0
  z0 := Try.sizeOf0
  v0 := Try.zeroValue0
  t3 := Try.underlying3
  a3 := Try.isAgg3
  z3 := Try.sizeOf3
  v3 := Try.zeroValue3
  t4 := Try.underlying4
  a4 := Try.isAgg4
  z4 := Try.sizeOf4
  v4 := Try.zeroValue4
  t5 := Try.underlying5
  a5 := Try.isAgg5
  z5 := Try.sizeOf5
  v5 := Try.zeroValue5
  t9 := Try.underlying9
  a9 := Try.isAgg9
  z9 := Try.sizeOf9
  v9 := Try.zeroValue9
  t22 := Try.underlying26
  a22 := Try.isAgg26
  z22 := Try.sizeOf26
  v22 := Try.zeroValue26
  t25 := Try.underlying95
  a25 := Try.isAgg95
  z25 := Try.sizeOf95
  v25 := Try.zeroValue95
  t39 := Try.underlying148
  a39 := Try.isAgg148
  z39 := Try.sizeOf148
  v39 := Try.zeroValue148
  t45 := Try.underlying170
  a45 := Try.isAgg170
  z45 := Try.sizeOf170
  v45 := Try.zeroValue170
  t46 := Try.underlying171
  a46 := Try.isAgg171
  z46 := Try.sizeOf171
  v46 := Try.zeroValue171
  t50 := Try.underlying175
  a50 := Try.isAgg175
  z50 := Try.sizeOf175
  v50 := Try.zeroValue175
  t53 := Try.underlying178
  a53 := Try.isAgg178
  z53 := Try.sizeOf178
  v53 := Try.zeroValue178
  t55 := Try.underlying180
  a55 := Try.isAgg180
  z55 := Try.sizeOf180
  v55 := Try.zeroValue180
  t66 := Try.underlying194
  a66 := Try.isAgg194
  z66 := Try.sizeOf194
  v66 := Try.zeroValue194
  t70 := Try.underlying198
  a70 := Try.isAgg198
  z70 := Try.sizeOf198
  v70 := Try.zeroValue198
  t76 := Try.underlying202
  a76 := Try.isAgg202
  z76 := Try.sizeOf202
  v76 := Try.zeroValue202
  t77 := Try.underlying203
  a77 := Try.isAgg203
  z77 := Try.sizeOf203
  v77 := Try.zeroValue203 }
def Try.laysCmp_ren : Go.Shelf.Ren := ⟨fun | 106 => 61 | 213 => 111 | 265 => 159 | n => n, fun | 9 => 9 | 3 => 3 | n => n, fun | n => n⟩
theorem Try.laysCmp : Go.Proofs.Lays.n106 Try.prog Try.laysCmp_ren := {
  mixed := by kernel_rfl
  f106 := Try.func61.trans (congrArg some (by kernel_rfl))
  f213 := Try.func111.trans (congrArg some (by kernel_rfl))
  f265 := Try.func159.trans (congrArg some (by kernel_rfl))
  t3 := Try.underlying3
  a3 := Try.isAgg3
  z3 := Try.sizeOf3
  v3 := Try.zeroValue3
  t9 := Try.underlying9
  a9 := Try.isAgg9
  z9 := Try.sizeOf9
  v9 := Try.zeroValue9 }
end Go.Proofs

namespace Go.Proofs.Ytmangjjaijhcnaa
open Go.RowKit

def codeCmp (a b : ByteArray) : Int := Lib.compareBytes a.data.toList b.data.toList
theorem cmp_SB (x y : Ltr) (W : World) : Calls Try.prog 133 #[.agg #[.int .i64 x.id, .string x.code], .agg #[.int .i64 y.id, .string y.code]] W fun e w' => e = .returned (.int .i64 (Lib.compareBytes x.code.data.toList y.code.data.toList)) ∧ ∃ q os', w' = Sort.grow (W.drewN q) os' := by
  have hcon := fun W' => Any.strings_Compare Try.laysCmp x.code y.code W'
  change ∀ W', Calls Try.prog 61 _ _ _ at hcon
  generalize Lib.compareBytes x.code.data.toList y.code.data.toList = r at hcon ⊢
  go_enter Try.func133, Try.ntmps133
  go_wp2_with (go_at_call 61; refine (hcon _).mono ?_; rintro e w' ⟨rfl, rfl⟩)
  go_ret
  exact ⟨rfl, 0, _, by rw [Go.Sort.alloc_eq_grow, Go.Sort.alloc_eq_grow, Go.Sort.grow_grow]; rfl⟩
theorem stable_L (T base : Nat) (v : Value) (xs : List Ltr) (w : World) (hv : own T base w v xs) (hl : xs.length ≤ 19) :
    Calls Try.prog 174 #[v, .int .i64 xs.length, .func (.func 133) #[] #[]] w fun e w' => e = .returned (.tuple #[]) ∧ (∃ ys, ys.Perm xs ∧ own T base w' v ys) ∧ w.grownBy w' v.ownBlock := by
  have h20 : ¬ (20 : Int) ≤ (xs.length : Int) := by omega
  have h20' : ¬ (20 : Int) < (xs.length : Int) := by omega
  rcases hv.form with ⟨rfl, rfl⟩ | ⟨g, c, rfl, hg, hgl, hc, hm⟩
  · have hn : Calls Try.prog 184 #[.slice none 0 0, .int .i64 0, .int .i64 0, .func (.func 133) #[] #[]] w fun e w' => e = .returned (.tuple #[]) ∧ w' = w := by
      go_enter Try.func184, Try.ntmps184
      go_wp2
      refine wp_loop_rounds 1 ?_
      rw [rounds_succ]
      go_wp2
      go_end0
      exact ⟨rfl, rfl⟩
    go_enter Try.func174, Try.ntmps174
    go_wp2
    refine wp_loop_rounds 1 ?_
    rw [rounds_succ]
    go_wp2_with (go_at_call 184; refine hn.mono ?_; rintro e w1 ⟨rfl, rfl⟩)
    refine wp_loop_rounds 1 ?_
    rw [rounds_succ]
    go_wp2
    go_end0
    exact ⟨rfl, ⟨[], List.Perm.refl _, hv⟩, World.grownBy.refl _ _⟩
  · have eg : ∀ args w, (callFunc 133 args).run Try.prog w = .ok (.enter 133 args) w := enters_of Try.func133 (by kernel_rfl) rfl
    have hc := AnyQ.insertionSortCmpFunc Try.laysIns 2 Try.isAgg55 Try.sizeOf55 Ltr.cells (fun _ => rfl) (fun x v hv => by simp [Ltr.cells] at hv; rcases hv with rfl | rfl <;> rfl) (fun x y : Ltr => Lib.compareBytes x.code.data.toList y.code.data.toList) 133 #[] g 0 c 0 xs.toArray.size xs.toArray w eg (fun _ _ _ _ x y => cmp_SB x y _) (own_holdsL hv) hgl (Nat.zero_le _) (Nat.le_refl _) (by simp; omega)
    have hp := perm_of_in (Sort.insertionSort_holds (lt := ltOf fun x y : Ltr => Lib.compareBytes x.code.data.toList y.code.data.toList) (swo_code Ltr.code) xs.toArray 0 xs.toArray.size (Nat.zero_le _) (Nat.le_refl _)).1
    change Calls Try.prog 184 _ _ _ at hc
    rw [show xs.toArray.toList = xs from rfl] at hp
    generalize Sort.insertionSort (ltOf fun x y : Ltr => Lib.compareBytes x.code.data.toList y.code.data.toList) xs.toArray 0 xs.toArray.size = d' at hc hp
    rw [show xs.toArray.size = xs.length from rfl] at hc
    have HV := Lib.hid hv; have HP := Lib.hid hp
    clear hv hp eg
    go_enter Try.func174, Try.ntmps174
    go_wp2
    refine wp_loop_rounds 1 ?_
    rw [rounds_succ]
    go_wp2_with (go_at_call 184; refine hc.mono ?_; rintro e w1 ⟨rfl, n, os, rfl⟩)
    refine wp_loop_rounds 1 ?_
    rw [rounds_succ]
    go_wp2
    go_end0
    obtain ⟨h1, h2⟩ := sorted_ownL (q := n) (os := os) HV.out HP.out
    exact ⟨rfl, ⟨_, HP.out, h1⟩, h2⟩
theorem stable_S (T base : Nat) (v : Value) (xs : List Ltr) (w : World) (hv : own T base w v xs) (hl : xs.length ≤ 19) :
    Calls Try.prog 132 #[v, .func (.func 133) #[] #[]] w fun e w' => e = .returned (.tuple #[]) ∧ (∃ ys, ys.Perm xs ∧ own T base w' v ys) ∧ w.grownBy w' v.ownBlock := by
  have hc := stable_L T base v xs w hv hl
  obtain ⟨A, n, c, rfl, hn, _, _, _⟩ := hv.rd
  subst hn
  have HC := Lib.hid hc; clear hc hv
  go_enter Try.func132, Try.ntmps132
  go_wp2_with (go_at_call 174; refine HC.out.mono ?_; rintro e w1 ⟨rfl, hy, hg⟩)
  go_end0
  exact ⟨rfl, hy, hg⟩
theorem impl_SortBatch (v : Value) (xs : List Ltr) (w : World) (hv : rd w w.heap.size v xs) (hl : xs.length ≤ 19) (hok : okB xs = true) :
    Calls Try.prog 83 #[v] w fun e w' => ∃ v' ys, e = .returned (.tuple #[v', .bool true]) ∧ own 55 w.heap.size w' v' ys ∧ ys.Perm xs ∧ Below w.heap.size w w' := by
  have HV := Lib.hid hv; clear hv
  have HOK := Lib.hid hok; clear hok
  go_enter Try.func83, Try.ntmps83
  go_wp2_with fail
  refine (impl_BatchValid _ xs _ HV.out).mono ?_
  rw [HOK.out]
  rintro e w1 ⟨rfl, b1⟩
  go_wp2_with fail
  refine (impl_copyLetters _ xs _ (HV.out.on b1) (by omega)).mono ?_
  rintro e w2 ⟨v2, rfl, o2, b2⟩
  have l2 := b1.trans (b2.mono b1.size)
  have O2 := Lib.hid o2; clear o2
  go_wp2_with fail
  refine (stable_S _ _ v2 xs _ O2.out hl).mono ?_
  rintro e w3 ⟨rfl, ⟨ys, hp, o3⟩, g3⟩
  have l3 : Below w.heap.size w w3 := l2.grown g3 l2.size (fun k hk => by have := (O2.out.blk k hk).1; have := b1.size; omega)
  have HP := Lib.hid hp; clear hp
  go_wp2_with fail
  go_ret2
  exact ⟨v2, ys, rfl, o3.base_ b1.size, HP.out, l3⟩
theorem so_sorted (v : Value) (xs : List Ltr) (w : World) (hv : rd w w.heap.size v xs) (hl : xs.length ≤ 19) (hok : okB xs = true) :
    Calls Try.prog 42 #[v] w fun e w' => ∃ v' ys, e = .returned v' ∧ own 55 w.heap.size w' v' ys ∧ ys.Perm xs ∧ Below w.heap.size w w' := by
  have HV := Lib.hid hv; clear hv
  go_enter Try.func42, Try.ntmps42
  go_wp2_with fail
  refine (impl_SortBatch _ xs _ HV.out hl hok).mono ?_
  rintro e w1 ⟨v1, ys, rfl, o1, hp, b1⟩
  have HP := Lib.hid hp; clear hp
  go_wp2_with fail
  go_ret
  exact ⟨v1, ys, rfl, o1, HP.out, b1⟩

end Go.Proofs.Ytmangjjaijhcnaa

namespace Go.Proofs.Ytmangjjaijhcnaa
open Go.RowKit

set_option maxRecDepth 100000 in
set_option maxHeartbeats 800000 in
theorem so_turned (v : Value) (xs : List Ltr) (w : World) (hv : rd w w.heap.size v xs) (hl : xs.length ≤ 60) :
    Calls Try.prog 41 #[v] w fun e w' => ∃ v', e = .returned v' ∧ own 55 w.heap.size w' v' xs.reverse ∧ Below w.heap.size w w' := by
  obtain ⟨A, n, c, rfl, hn, hc, hm, hr⟩ := hv
  subst hn
  unfold maxLen at hm
  have HR := Lib.hid hr; clear hr
  obtain ⟨i0, hi, hz0, hz1, hz2⟩ := info_parts Try.infoLtr
  have ho0 : own (α := Ltr) 55 w.heap.size (w.alloc (Obj.cells #[] 55)) (.slice (some ⟨w.heap.size, 0, none⟩) 0 0) [] := own.made0 w _ (Nat.le_refl _)
  have l0 : Below w.heap.size w (w.alloc (Obj.cells #[] 55)) := (Below.refl _ _).alloc (Nat.le_refl _) _
  have hws : IntKind.i64.wrap ((xs.length : Int) - 1) = (xs.length : Int) - 1 := IntWalk.i64_in _ (by omega)
  go_enter Try.func41, Try.ntmps41
  go_wp2_with fail
  go_loopw [3, 4] (fun t i wr => ∃ (k : Nat) (I : Int), k ≤ xs.length ∧ Hid (I = (xs.length : Int) - 1 - k) ∧ i = .int .i64 I ∧ Below w.heap.size w wr ∧ Hid (own 55 w.heap.size wr t (xs.reverse.take k))) (fun _ i _ => (intOf i + 1).toNat)
  case atStart => exact ⟨0, (xs.length : Int) - 1, Nat.zero_le _, by show _ = _; simp, rfl, l0, ho0⟩
  case round =>
    obtain ⟨k, I, hk, HI, rfl, lr, HO⟩ := hrel
    obtain ⟨w1, rfl⟩ : ∃ w1 : World, w1 = wr := ⟨_, rfl⟩
    clear l0 ho0
    obtain ⟨A3, m3, c3, hv3, hm3, _, _, _⟩ := HO.out.rd
    subst hm3 hv3
    by_cases hlt : k < xs.length
    · have hI0 : 0 ≤ I := by have := HI.out; omega
      obtain ⟨j, rfl⟩ := Int.eq_ofNat_of_zero_le hI0
      have hjl : j < xs.length := by have := HI.out; omega
      obtain ⟨b, o, rfl, hb, hxok, c1, c2⟩ := HR.out.ltrU j hjl
      have HS : Hid (xs.reverse.take (k + 1) = xs.reverse.take k ++ [xs[j]]) := by
        show _ = _
        have e : xs.length - 1 - k = j := by have := HI.out; omega
        rw [List.take_succ_eq_append_getElem (by simpa using hlt), List.getElem_reverse]
        simp only [e]
      have hyl : (xs.reverse.take k).length ≤ 60 := by rw [List.length_take]; omega
      generalize xs[j] = x at *
      have hji : (j : Int) < (xs.length : Int) := by omega
      have hd : decide ((0 : Int) ≤ (j : Int)) = true := decide_eq_true (by omega)
      have hwj : IntKind.i64.wrap ((j : Int) - 1) = (j : Int) - 1 := IntWalk.i64_in _ (by omega)
      have d1 := c1 _ lr
      have d2 := c2 _ lr
      clear c1 c2
      generalize hys : xs.reverse.take k = ys at *
      have HYS := Lib.hid hys; clear hys
      have hz := lr.size
      go_wp2_with (at_builtin; refine wpList_append1 (α := Ltr) rfl (.tmp 13) (.tmp 18) _ rfl w.heap.size 55 i0 _ 24 Try.underlying29 hi hz0 hz1 hz2 rfl (by decide) (.slice A3 ys.length c3) ys x rfl (HO.out.alloc _) ⟨w1.heap.size, 0, none⟩ 1 (Ltr.cells x) rfl ⟨hxok, rfl⟩ (news_at w1 _ (Ltr.cells x)) (by unfold maxLen; omega) (by omega) (by simp; omega) ?_; intro v' w2 ho2 hg2 _)
      have l2 : Below w.heap.size w w2 := (lr.alloc hz _).trans (below_append (HO.out.alloc _) hg2 (by simp; omega))
      clear hg2
      go_wp2_with fail
      go_roundw
      case rel => exact ⟨k + 1, (j : Int) - 1, by omega, by show _ = _; have := HI.out; omega, by go_num, l2, by show own _ _ _ _ _; rw [HS.out]; exact ho2⟩
      case measure => first | (simp [intOf]; done) | (simp [intOf]; omega)
    · have hI0 : I = -1 := by have := HI.out; omega
      subst hI0
      have e : xs.reverse.take k = xs.reverse := List.take_of_length_le (by simp; omega)
      have hd : decide ((0 : Int) ≤ -1) = false := rfl
      have HO2 : Hid (own 55 w.heap.size w1 (.slice A3 (xs.reverse.take k).length c3) xs.reverse) := by have h := HO.out; rw [e] at h; show own _ _ _ _ _; rw [e]; exact h
      clear e
      go_wp2_with fail
      go_ret
      exact ⟨_, rfl, HO2.out, lr⟩

end Go.Proofs.Ytmangjjaijhcnaa
