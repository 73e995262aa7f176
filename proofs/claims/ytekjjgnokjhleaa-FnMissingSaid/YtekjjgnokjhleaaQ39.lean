/- DM SR MI -/
import Derived.Test.YtekjjgnokjhleaaQ18
import Derived.Shelf.SortG.Plain
import Derived.Shelf.SortG.SortNone
import Derived.Ground.SlgnProg
import Derived.Lib.SortBridge
import Derived.Test.YtekjjgnokjhleaaProg
import Derived.Test.YtekjjgnokjhleaaQ12
import Derived.Test.YtekjjgnokjhleaaQ21
import Derived.Test.YtekjjgnokjhleaaQ5
namespace Go.Proofs.Ytekjjgnokjhleaa
open Go.RowKit

set_option maxRecDepth 100000 in
set_option maxHeartbeats 1000000 in
theorem rd_l2BadB (g p b0 : Nat) (v : Value) (xs : List Ltr) (w : World) (hr : rdr w g p) (hp : p ≤ 100000000000) (hv : own 44 b0 w v xs) (hb0 : g < b0) (hx1 : xs.length ≤ 20) (hx2 : ∀ x ∈ xs, x.code.size = 7) :
    Calls Try.prog 92 #[.pointer (some ⟨g, 0, none⟩), v] w fun e w' => ∃ (v' : Value) (ys : List Ltr) (p' : Nat), e = .returned v' ∧ own 44 b0 w' v' ys ∧ ys.length ≤ 61 ∧ rdr w' g p' ∧ p' ≤ p + 5 ∧ kept2 g b0 w w' ∧ keptS (fun k => k = g ∨ v.ownBlock = some k) w w' ∧ (∀ r, v'.ownBlock = some r → v.ownBlock = some r ∨ w.heap.size ≤ r) := by
  have hlt := hr.lt
  obtain ⟨i0, hi, hz0, hz1, hz2⟩ := info_parts Try.infoLtr
  rcases hv.form with ⟨rfl, rfl⟩ | ⟨gg, c, rfl, hg, hgl, hc, hm⟩
  · go_enter Try.func92, Try.ntmps92
    go_wp2
    go_ret
    exact ⟨_, [], p, rfl, hv, by simp, hr, by omega, kept2.refl _ _ _, keptS.refl _ _, fun r e => .inl e⟩
  · by_cases h0 : xs.length = 0
    · have hl0 : ((xs.length : Int) == 0) = true := by rw [h0]; rfl
      clear h0
      go_enter Try.func92, Try.ntmps92
      go_wp2
      go_ret
      exact ⟨_, xs, p, rfl, hv, by omega, hr, by omega, kept2.refl _ _ _, keptS.refl _ _, fun r e => .inl e⟩
    have hl0 : ((xs.length : Int) == 0) = false := beq_eq_false_iff_ne.2 (by omega)
    have hpos : 0 < xs.length := by omega
    unfold maxLen at hm
    go_enter Try.func92, Try.ntmps92
    go_wp2_with fail
    refine (rd_pick g p xs.length _ hr (by omega) ⟨by omega, by omega⟩).mono ?_
    rintro e w1 ⟨x, rfl, hx, hr1, hg1⟩
    obtain ⟨y0, y1⟩ := hx.2 (by omega)
    obtain ⟨k, rfl⟩ := Int.eq_ofNat_of_zero_le y0
    have ho1 := hv.grown hg1 (own_ne hv hb0)
    clear hx
    go_wp2_with fail
    refine (rd_pick g (p + 1) 40 _ hr1 (by omega) (by unfold isI64; omega)).mono ?_
    rintro e w2 ⟨x, rfl, hx, hr2, hg2⟩
    have ho2 := ho1.grown hg2 (own_ne ho1 hb0)
    replace hg2 := grown_trans hg1 hg2
    clear hx hg1
    have hbw : b0 ≤ w.heap.size := by omega
    have hzw := hg2.size
    have hB2 : kept2 g b0 w w2 := kept2.grown hg2 hbw
    have hz2' := hr2.lt
    have HS2 : keptS (fun k => k = g ∨ (Value.slice (some ⟨gg, 0, none⟩) xs.length c).ownBlock = some k) w w2 := (keptS.refl _ _).next hg2 fun r e => .inl (.inl (by injection e with e; exact e.symm))
    by_cases c0 : x = 0
    · have d0 : (x == 0) = true := by simp [c0]
      clear c0
      obtain ⟨⟨hi1, hi2⟩, c1, c2⟩ := own_ltr ho2 k (by omega)
      have hcs := hx2 xs[k] (List.getElem_mem _)
      have hcs' : xs[k].code.size ≤ 7 := by omega
      have HCS := Lib.hid hcs; clear hcs
      generalize hxk : xs[k] = z at *
      have HXK := Lib.hid hxk; clear hxk
      go_wp2_with fail
      refine (rd_l1Bad g (p + 1 + 1) _ _ hr2 (by omega) (by rw [ByteArray.size_append]; show 1 ≤ _ + 1; omega) (by rw [ByteArray.size_append]; show _ + 1 ≤ _; omega)).mono ?_
      rintro e w3 ⟨t, rfl, ht, hr3, hg3⟩
      have ht' : t.size ≤ maxLen := by
        rw [ByteArray.size_append] at ht
        have : t.size ≤ z.code.size + 1 + 1 := ht
        unfold maxLen; omega
      have ho3 := ho2.grown hg3 (own_ne ho2 hb0)
      obtain ⟨u1, g1⟩ := ho3.cellAt (j := k * 2 + 1) (by show _ < _ * 2; omega)
      have f1 := ho3.freeAt (k * 2 + 1)
      have HO := Lib.hid (ho3.setCell (k := k) (j := 1) (by omega) (by decide) (.string t) ⟨z.id, t⟩ (fun ecs he => by
        obtain ⟨_, rfl⟩ := he
        refine ⟨⟨hi1, ht'⟩, ?_⟩
        rw [HXK.out]
        rfl))
      have HR : Hid (rdr (w3.setCell ⟨gg, k * 2 + 1, none⟩ (.string t)) g (p + 1 + 1 + 1)) := hr3.grown (g' := gg) (grown_setCell (World.grownBy.refl _ _) (.inl rfl) _) (Nat.lt_of_lt_of_le hb0 hg)
      have HB : Hid (kept2 g b0 w (w3.setCell ⟨gg, k * 2 + 1, none⟩ (.string t))) := (hB2.trans (kept2.grown hg3 (by omega))).trans (kept2.below ((Below.refl _ _).setCell (p := ⟨gg, k * 2 + 1, none⟩) hg _))
      have HS3 := (HS2.next hg3 fun r e => .inl (.inl (by injection e with e; exact e.symm))).set ⟨gg, k * 2 + 1, none⟩ (.inl (.inr rfl)) (.string t)
      clear ho3 ht HS2
      go_wp2_with fail
      go_ret
      exact ⟨_, _, _, rfl, HO.out, by simp; omega, HR.out, by omega, HB.out, HS3, fun r e => .inl e⟩
    have d0 : (x == 0) = false := by simp [c0]
    by_cases c1 : x = 1
    · have d1 : (x == 1) = true := by simp [c1]
      clear c1 c0
      obtain ⟨⟨hi1, hi2⟩, c1, _⟩ := own_ltr ho2 0 hpos
      rw [Nat.zero_mul] at c1
      generalize xs[0].id = i at *
      go_wp2_with fail
      have hB3 := hB2
      refine (rd_num 3 g (p + 1 + 1) _ [0, 10000, 9999, -1, i] _ (hr2.alloc _) (by omega) (list_own 3 (g + 1) w2 [0, 10000, 9999, -1, i] (by
        intro y hy
        simp at hy
        rcases hy with rfl | rfl | rfl | rfl | rfl
        · simp [isI64]
        · simp [isI64]
        · simp [isI64]
        · simp [isI64]
        · exact hi1) (by show 5 ≤ maxLen; decide) (by omega)) (by show 0 < 5; decide)).mono ?_
      rintro e w3 ⟨y, hy, rfl, hr3, hg3⟩
      have hyi : isI64 y := by
        simp at hy
        rcases hy with rfl | rfl | rfl | rfl | rfl
        · simp [isI64]
        · simp [isI64]
        · simp [isI64]
        · simp [isI64]
        · exact hi1
      clear hy
      have ho2' := ho2.alloc (Obj.cells ([0, 10000, 9999, -1, i].map (Value.int IntKind.i64)).toArray 3)
      have ho3 := ho2'.grown hg3 (own_ne ho2' hb0)
      obtain ⟨u1, g1⟩ := ho3.cellAt (j := k * 2) (by show _ < _ * 2; omega)
      have f1 := ho3.freeAt (k * 2)
      have HO := Lib.hid (ho3.setCell (k := k) (j := 0) (by omega) (by decide) (.int .i64 y) ⟨y, xs[k].code⟩ (fun ecs he => by
        obtain ⟨⟨_, hh⟩, rfl⟩ := he
        exact ⟨⟨hyi, hh⟩, rfl⟩))
      have HR : Hid (rdr (w3.setCell ⟨gg, k * 2, none⟩ (.int .i64 y)) g (p + 1 + 1 + 1)) := hr3.grown (g' := gg) (grown_setCell (World.grownBy.refl _ _) (.inl rfl) _) (Nat.lt_of_lt_of_le hb0 hg)
      have HB : Hid (kept2 g b0 w (w3.setCell ⟨gg, k * 2, none⟩ (.int .i64 y))) := ((hB2.trans (kept2.below ((Below.refl _ _).alloc (by omega) _))).trans (kept2.grown hg3 (by simp; omega))).trans (kept2.below ((Below.refl _ _).setCell (p := ⟨gg, k * 2, none⟩) hg _))
      have HS3 := ((HS2.alloc _).next hg3 fun r e => .inl (.inl (by injection e with e; exact e.symm))).set ⟨gg, k * 2, none⟩ (.inl (.inr rfl)) (.int .i64 y)
      clear ho3 ho2' hg3 HS2
      go_wp2_with fail
      go_ret
      exact ⟨_, _, _, rfl, HO.out, by simp; omega, HR.out, by omega, HB.out, HS3, fun r e => .inl e⟩
    have d1 : (x == 1) = false := by simp [c1]
    by_cases c2 : x = 2
    · have d2 : (x == 2) = true := by simp [c2]
      clear c2 c1 c0
      go_wp2_with fail
      have HO2 := Lib.hid ho2; clear ho2
      go_loopw [1] (fun t wr => ∃ (ys : List Ltr), own 44 b0 wr t ys ∧ ys.length ≤ 61 ∧ rdr wr g (p + 1 + 1) ∧ kept2 g b0 w wr ∧ keptS (fun k => k = g ∨ (Value.slice (some ⟨gg, 0, none⟩) xs.length c).ownBlock = some k) w wr ∧ Hid (∀ r, t.ownBlock = some r → r = gg ∨ w.heap.size ≤ r)) (fun t wr => match t with | .slice _ n _ => 61 - n | _ => 0)
      case atStart => exact ⟨xs, HO2.out, by omega, hr2, hB2, HS2, fun r e => .inl (by injection e with e; exact e.symm)⟩
      case round =>
        obtain ⟨ys, ho, hy, hrr, hB, hS, HT⟩ := hrel
        obtain ⟨w3, rfl⟩ : ∃ w3 : World, w3 = wr := ⟨_, rfl⟩
        clear hr2 hB2 HS2
        obtain ⟨A, m, c', hv', hm', _, _, _⟩ := ho.rd
        subst hm' hv'
        have hlt3 := hrr.lt
        by_cases h61 : ys.length < 61
        · have hb3 : b0 ≤ w3.heap.size := by have := hB.size; omega
          go_wp2_with (at_builtin; refine wpList_append1 (α := Ltr) rfl (.tmp 48) (.tmp 53) _ rfl b0 44 i0 _ 24 Try.underlying34 hi hz0 hz1 hz2 rfl (by decide) (.slice A ys.length c') ys ⟨1000 + ys.length, ⟨#[49, 50, 48, 48, 49, 48, 49]⟩⟩ rfl (ho.alloc _) ⟨w3.heap.size, 0, none⟩ 1 (Ltr.cells ⟨1000 + ys.length, ⟨#[49, 50, 48, 48, 49, 48, 49]⟩⟩) rfl ⟨⟨⟨by show _ ≤ 1000 + (ys.length : Int); omega, by show 1000 + (ys.length : Int) ≤ _; omega⟩, by show 7 ≤ maxLen; decide⟩, rfl⟩ (news_at w3 _ (Ltr.cells ⟨1000 + ys.length, ⟨#[49, 50, 48, 48, 49, 48, 49]⟩⟩)) (by unfold maxLen; omega) (by omega) (by simp; omega) ?_; intro v' w4 ho4 hg4 ha4)
          have hr4 : rdr w4 g (p + 1 + 1) := (hrr.alloc _).append (ho.alloc _) hg4 hb0
          have hB4 : kept2 g b0 w w4 := (hB.trans (kept2.below ((Below.refl _ _).alloc hb3 _))).trans (kept2.below (below_append (ho.alloc _) hg4 (by simp; omega)))
          have hS4 := (hS.alloc (Obj.cells (Ltr.cells ⟨1000 + ys.length, ⟨#[49, 50, 48, 48, 49, 48, 49]⟩⟩).toArray 44)).next hg4 fun r e => by
            rcases HT.out r e with h | h
            · exact .inl (.inr (by rw [h]; rfl))
            · exact .inr h
          have HT4 : Hid (∀ r, v'.ownBlock = some r → r = gg ∨ w.heap.size ≤ r) := fun r e => by
            rcases ha4 with h | h
            · exact HT.out r (h.symm.trans e)
            · right
              rw [h] at e
              injection e with e
              have hzz := hB.size
              simp at e
              omega
          clear hg4 ha4
          obtain ⟨A4, m4, c4, hv4, hm4, _, _, _⟩ := ho4.rd
          subst hm4 hv4
          go_wp2_with fail
          go_roundw
          case rel => exact ⟨_, ho4, by simp; omega, hr4, hB4, hS4, HT4⟩
          case measure => simp; omega
        · go_wp2_with fail
          go_ret
          exact ⟨_, ys, _, rfl, ho, hy, hrr, by omega, hB, hS, fun r e => (HT.out r e).imp (fun h => by rw [h]; rfl) id⟩
    have d2 : (x == 2) = false := by simp [c2]
    clear c0 c1 c2
    go_wp2_with fail
    go_ret
    exact ⟨_, xs, _, rfl, ho2, by omega, hr2, by omega, hB2, HS2, fun r e => .inl e⟩


end Go.Proofs.Ytekjjgnokjhleaa

namespace Go.Proofs
open Go.Shelf
def Try.laysSort_ren : Go.Shelf.Ren := ⟨fun | 53 => 93 | 64 => 118 | 63 => 117 | 78 => 133 | 79 => 134 | 70 => 124 | 71 => 125 | 72 => 126 | 73 => 127 | 74 => 128 | 75 => 129 | 59 => 130 | 76 => 131 | 77 => 132 | 88 => 136 | 89 => 137 | 90 => 138 | 91 => 139 | 92 => 140 | 68 => 141 | 96 => 142 | n => n, fun | 22 => 46 | 23 => 3 | 3 => 3 | 51 => 111 | 0 => 0 | 67 => 123 | 69 => 125 | 4 => 4 | 61 => 116 | 60 => 115 | 44 => 120 | 5 => 5 | 9 => 9 | 75 => 127 | 79 => 131 | 83 => 133 | 84 => 134 | n => n, fun | n => n⟩
theorem Try.laysSort : Go.Proofs.SlLaysN.n53 Try.prog Try.laysSort_ren := {
  mixed := by kernel_rfl
  f53 := ⟨Try.f93.name, by decide, Try.func93.trans (congrArg some (by kernel_rfl))⟩
  f59 := ⟨Try.f130.name, by decide, Try.func130.trans (congrArg some (by kernel_rfl))⟩
  f63 := ⟨Try.f117.name, by decide, Try.func117.trans (congrArg some (by kernel_rfl))⟩
  f64 := Try.func118.trans (congrArg some (by kernel_rfl))
  f68 := ⟨Try.f141.name, by decide, Try.func141.trans (congrArg some (by kernel_rfl))⟩
  f70 := ⟨Try.f124.name, by decide, Try.func124.trans (congrArg some (by kernel_rfl))⟩
  f71 := ⟨Try.f125.name, by decide, Try.func125.trans (congrArg some (by kernel_rfl))⟩
  f72 := ⟨Try.f126.name, by decide, Try.func126.trans (congrArg some (by kernel_rfl))⟩
  f73 := ⟨Try.f127.name, by decide, Try.func127.trans (congrArg some (by kernel_rfl))⟩
  f74 := ⟨Try.f128.name, by decide, Try.func128.trans (congrArg some (by kernel_rfl))⟩
  f75 := ⟨Try.f129.name, by decide, Try.func129.trans (congrArg some (by kernel_rfl))⟩
  f76 := ⟨Try.f131.name, by decide, Try.func131.trans (congrArg some (by kernel_rfl))⟩
  f77 := ⟨Try.f132.name, by decide, Try.func132.trans (congrArg some (by kernel_rfl))⟩
  f78 := Try.func133.trans (congrArg some (by kernel_rfl))
  f79 := Try.func134.trans (congrArg some (by kernel_rfl))
  f88 := ⟨Try.f136.name, by decide, Try.func136.trans (congrArg some (by kernel_rfl))⟩
  f89 := Try.func137.trans (congrArg some (by kernel_rfl))
  f90 := Try.func138.trans (congrArg some (by kernel_rfl))
  f91 := ⟨Try.f139.name, by decide, Try.func139.trans (congrArg some (by kernel_rfl))⟩
  f92 := ⟨Try.f140.name, by decide, Try.func140.trans (congrArg some (by kernel_rfl))⟩
  f96 := ⟨Try.f142.name, by decide, Try.func142.trans (congrArg some (by kernel_rfl))⟩
  t0 := Try.underlying0
  a0 := Try.isAgg0
  z0 := Try.sizeOf0
  v0 := Try.zeroValue0
  t3 := Try.underlying3
  a3 := Try.isAgg3
  z3 := Try.sizeOf3
  v3 := Try.zeroValue3
  t4 := Try.underlying4
  a4 := Try.isAgg4
  z4 := Try.sizeOf4
  v4 := Try.zeroValue4
  t5 := Try.underlying5
  a5 := Try.isAgg5
  z5 := Try.sizeOf5
  v5 := Try.zeroValue5
  t9 := Try.underlying9
  a9 := Try.isAgg9
  z9 := Try.sizeOf9
  v9 := Try.zeroValue9
  t22 := Try.underlying46
  a22 := Try.isAgg46
  z22 := Try.sizeOf46
  v22 := Try.zeroValue46
  t23 := Try.underlying3
  a23 := Try.isAgg3
  z23 := Try.sizeOf3
  v23 := Try.zeroValue3
  t44 := Try.underlying120
  a44 := Try.isAgg120
  z44 := Try.sizeOf120
  v44 := Try.zeroValue120
  t51 := Try.underlying111
  a51 := Try.isAgg111
  z51 := Try.sizeOf111
  v51 := Try.zeroValue111
  t60 := Try.underlying115
  a60 := Try.isAgg115
  z60 := Try.sizeOf115
  v60 := Try.zeroValue115
  t61 := Try.underlying116
  a61 := Try.isAgg116
  z61 := Try.sizeOf116
  v61 := Try.zeroValue116
  t67 := Try.underlying123
  a67 := Try.isAgg123
  z67 := Try.sizeOf123
  v67 := Try.zeroValue123
  t69 := Try.underlying125
  a69 := Try.isAgg125
  z69 := Try.sizeOf125
  v69 := Try.zeroValue125
  t75 := Try.underlying127
  a75 := Try.isAgg127
  z75 := Try.sizeOf127
  v75 := Try.zeroValue127
  t79 := Try.underlying131
  a79 := Try.isAgg131
  z79 := Try.sizeOf131
  v79 := Try.zeroValue131
  t83 := Try.underlying133
  a83 := Try.isAgg133
  z83 := Try.sizeOf133
  v83 := Try.zeroValue133
  t84 := Try.underlying134
  a84 := Try.isAgg134
  z84 := Try.sizeOf134
  v84 := Try.zeroValue134 }
end Go.Proofs

namespace Go.Proofs.Ytekjjgnokjhleaa
open Go.RowKit

theorem grown_trans'' {a b c : World} {row : Option Nat} (h : a.grownBy b row) (k : b.grownBy c row) : a.grownBy c row :=
  ⟨k.os.trans h.os, k.tape.trans h.tape, k.output.trans h.output, Nat.le_trans h.size k.size, fun i hi hne => (k.block i (Nat.lt_of_lt_of_le hi h.size) hne).trans (h.block i hi hne)⟩
theorem own_setCells {T base g n c : Nat} : ∀ (ys : List Int) (k : Nat) (w : World) (xs : List Int), (∀ y ∈ ys, isI64 y) → k + ys.length ≤ xs.length → own T base w (.slice (some ⟨g, 0, none⟩) n c) xs →
    own T base (w.setCells g k (ys.map (Value.int .i64))) (.slice (some ⟨g, 0, none⟩) n c) (xs.take k ++ ys ++ xs.drop (k + ys.length)) ∧ w.grownBy (w.setCells g k (ys.map (Value.int .i64))) (some g)
  | [], k, w, xs, _, _, h => by
    refine ⟨?_, World.grownBy.refl _ _⟩
    simpa [World.setCells] using h
  | y :: ys, k, w, xs, hy, hl, h => by
    simp only [List.length_cons] at hl
    have h1 := own_setInt h (k := k) (by omega) y (hy y (by simp))
    obtain ⟨h2, h3⟩ := own_setCells ys (k + 1) (w.setCell ⟨g, k, none⟩ (.int .i64 y)) (xs.set k y) (fun z hz => hy z (by simp [hz])) (by rw [List.length_set]; omega) h1
    refine ⟨?_, grown_trans'' (grown_setCell (World.grownBy.refl _ _) (.inl rfl) _) h3⟩
    have e : (xs.set k y).take (k + 1) ++ ys ++ (xs.set k y).drop (k + 1 + ys.length) = xs.take k ++ y :: ys ++ xs.drop (k + (ys.length + 1)) := by
      rw [List.take_succ_eq_append_getElem (by rw [List.length_set]; omega), List.getElem_set_self, List.take_set_of_le (Nat.le_refl _), List.drop_set_of_lt (by omega)]
      rw [show k + 1 + ys.length = k + (ys.length + 1) by omega]
      simp
    rw [e] at h2
    exact h2
theorem own_grow {T base : Nat} {w : World} {v : Value} {xs : List Int} (h : own T base w v xs) (os : Array Obj) : own T base (Go.Sort.grow w os) v xs :=
  h.keepBlk fun k hk => by
    have := (h.blk k hk).2
    show (w.heap ++ os)[k]? = w.heap[k]?
    rw [Array.getElem?_append_left this]
theorem sorted_i64 {xs : List Int} (h : ∀ x ∈ xs, isI64 x) : ∀ y ∈ xs.mergeSort (fun x y => decide (x ≤ y)), isI64 y := fun y hy => h y ((List.mergeSort_perm xs _).mem_iff.1 hy)
theorem own_i64 {T base : Nat} {w : World} {v : Value} {xs : List Int} (h : own T base w v xs) : ∀ x ∈ xs, isI64 x := by
  intro x hx
  obtain ⟨k, hk, rfl⟩ := List.getElem_of_mem hx
  obtain ⟨A, n, c, rfl, _, _, _, hr⟩ := h.rd
  obtain ⟨b, o, _, _, hi, _⟩ := hr.intU k hk
  exact hi
theorem own_intz {T base g n c : Nat} {w : World} {xs : List Int} (h : own T base w (.slice (some ⟨g, 0, none⟩) n c) xs) (k : Nat) (hk : k < xs.length) : w.cell? ⟨g, 0 + k, none⟩ = some (.int .i64 xs[k]) := by
  obtain ⟨A', n', c', hv, _, _, _, hr⟩ := h.rd
  injection hv with e1 _ _
  subst e1
  obtain ⟨b, o, hA, _, _, c1⟩ := hr.intU k hk
  injection hA with hA
  injection hA with hA1 hA2
  subst hA1 hA2
  exact c1 w (Below.refl _ _)
theorem slices_SortI (T base : Nat) (v : Value) (xs : List Int) (w : World) (hv : own T base w v xs) (hl : xs.length ≤ 1048576) :
    Calls Try.prog 93 #[v] w fun e w' => e = .returned (.tuple #[]) ∧ own T base w' v (xs.mergeSort fun x y => decide (x ≤ y)) ∧ w.grownBy w' v.ownBlock := by
  rcases hv.form with ⟨rfl, rfl⟩ | ⟨g, c, rfl, hg, hgl, hc, hm⟩
  · refine (AnyG.slices_Sort_int_none Try.laysSort none 0 w).mono ?_
    rintro e w' ⟨rfl, rfl⟩
    exact ⟨rfl, by simpa using own.nil_ (α := Int) _ _ _, World.grownBy.refl _ _⟩
  · have hH : Go.Sort.Holds (Value.int .i64) w g 0 xs.toArray := fun j hj => by
      have hj' : j < xs.length := by simpa using hj
      refine ⟨?_, hv.freeAt _⟩
      rw [own_intz hv j hj']
      simp [hj']
    refine (AnyG.slices_Sort_int Try.laysSort g 0 c xs w hH hgl (by omega)).mono ?_
    rintro e w' ⟨rfl, q, os, rfl⟩
    rw [Lib.sorted_world (Value.int .i64) w g 0 q xs.toArray (xs.mergeSort fun x y => decide (x ≤ y)) os hH (by simp)]
    have bq : Below w.heap.size w (w.drewN q) := later_drewN (Below.refl _ _) q
    obtain ⟨h2, h3⟩ := own_setCells (xs.mergeSort fun x y => decide (x ≤ y)) 0 (w.drewN q) xs (sorted_i64 (own_i64 hv)) (by simp) (hv.below bq)
    have e : xs.take 0 ++ (xs.mergeSort fun x y => decide (x ≤ y)) ++ xs.drop (0 + (xs.mergeSort fun x y => decide (x ≤ y)).length) = xs.mergeSort fun x y => decide (x ≤ y) := by simp
    rw [e] at h2
    refine ⟨rfl, own_grow h2 os, ?_⟩
    have h4 := grown_trans'' (grown_below (World.grownBy.refl w (some g)) bq) h3
    exact ⟨h4.os, h4.tape, h4.output, Nat.le_trans h4.size (by simp [Go.Sort.grow]), fun k hk hne => by
      show (_ ++ os)[k]? = _
      rw [Array.getElem?_append_left (Nat.lt_of_lt_of_le hk h4.size)]
      exact h4.block k hk hne⟩

end Go.Proofs.Ytekjjgnokjhleaa

namespace Go.Proofs.Ytekjjgnokjhleaa
open Go.RowKit

/-! ### Plain facts -/
def missT (b a : List Ltr) : List Int := (a.filter fun x => decide (findI b x.id < 0)).map Ltr.id
theorem missT_hit {b a : List Ltr} {k : Nat} (h : k < a.length) (hf : findI b a[k].id < 0) : missT b (a.take (k + 1)) = missT b (a.take k) ++ [a[k].id] := by
  unfold missT; rw [List.take_succ_eq_append_getElem h, List.filter_append, List.map_append]; simp [hf]
theorem missT_skip {b a : List Ltr} {k : Nat} (h : k < a.length) (hf : ¬ findI b a[k].id < 0) : missT b (a.take (k + 1)) = missT b (a.take k) := by
  unfold missT; rw [List.take_succ_eq_append_getElem h, List.filter_append, List.map_append]
  rw [List.filter_cons_of_neg (by simpa using hf)]; simp
theorem missT_len (b a : List Ltr) : (missT b a).length ≤ a.length := by
  unfold missT; rw [List.length_map]; exact List.length_filter_le _ _
/-- A number put into an ascending list. -/
def insI : List Int → Int → List Int
  | [], n => [n]
  | x :: l, n => if n < x then n :: x :: l else x :: insI l n
theorem insI_none {l : List Int} {n : Int} (h : l.any (fun x => decide (n < x)) = false) : insI l n = l ++ [n] := by
  induction l with
  | nil => rfl
  | cons x l ih =>
    simp only [List.any_cons, Bool.or_eq_false_iff, decide_eq_false_iff_not] at h
    show (if n < x then n :: x :: l else x :: insI l n) = _
    rw [if_neg h.1, ih h.2]; rfl
theorem insI_done {l : List Int} {n : Int} (y : Int) (h : l.any (fun x => decide (n < x)) = true) : insI (l ++ [y]) n = insI l n ++ [y] := by
  induction l with
  | nil => simp at h
  | cons x l ih =>
    show (if n < x then n :: x :: (l ++ [y]) else x :: insI (l ++ [y]) n) = (if n < x then n :: x :: l else x :: insI l n) ++ [y]
    by_cases hx : n < x
    · rw [if_pos hx, if_pos hx]; rfl
    · rw [if_neg hx, if_neg hx, ih (by simpa [hx] using h)]; rfl
theorem insI_hit {l : List Int} {n y : Int} (h : l.any (fun x => decide (n < x)) = false) (hy : n < y) : insI (l ++ [y]) n = l ++ [n] ++ [y] := by
  induction l with
  | nil => show (if n < y then [n, y] else _) = _; rw [if_pos hy]; rfl
  | cons x l ih =>
    simp only [List.any_cons, Bool.or_eq_false_iff, decide_eq_false_iff_not] at h
    show (if n < x then n :: x :: (l ++ [y]) else x :: insI (l ++ [y]) n) = _
    rw [if_neg h.1, ih h.2]; rfl
theorem insI_perm (l : List Int) (n : Int) : (insI l n).Perm (l ++ [n]) := by
  induction l with
  | nil => exact List.Perm.refl _
  | cons x l ih =>
    show (if n < x then n :: x :: l else x :: insI l n).Perm _
    split
    · exact (List.perm_append_comm (l₁ := [n]) (l₂ := x :: l))
    · exact ih.cons x
theorem insI_sorted {l : List Int} (n : Int) (h : l.Pairwise (· ≤ ·)) : (insI l n).Pairwise (· ≤ ·) := by
  induction l with
  | nil => exact List.pairwise_singleton _ _
  | cons x l ih =>
    rw [List.pairwise_cons] at h
    show (if n < x then n :: x :: l else x :: insI l n).Pairwise _
    split
    · rename_i hn
      rw [List.pairwise_cons, List.pairwise_cons]
      exact ⟨fun z hz => by
        rcases List.mem_cons.1 hz with h' | h'
        · omega
        · have := h.1 z h'; omega, h.1, h.2⟩
    · rename_i hn
      rw [List.pairwise_cons]
      exact ⟨fun z hz => by
        rcases List.mem_append.1 ((insI_perm l n).mem_iff.1 hz) with h' | h'
        · exact h.1 z h'
        · simp at h'; omega, ih h.2⟩
def sortI (xs : List Int) : List Int := xs.mergeSort fun x y => decide (x ≤ y)
theorem foldl_ins (xs : List Int) : ∀ acc : List Int, acc.Pairwise (· ≤ ·) → (xs.foldl insI acc).Pairwise (· ≤ ·) ∧ (xs.foldl insI acc).Perm (acc ++ xs) := by
  induction xs with
  | nil => intro acc h; exact ⟨h, by simp⟩
  | cons x xs ih =>
    intro acc h
    obtain ⟨h1, h2⟩ := ih (insI acc x) (insI_sorted x h)
    refine ⟨h1, h2.trans ?_⟩
    have := (insI_perm acc x).append_right xs
    simpa using this
theorem foldl_sort (xs : List Int) : xs.foldl insI [] = sortI xs := by
  obtain ⟨h1, h2⟩ := foldl_ins xs [] List.Pairwise.nil
  have h3 := List.pairwise_mergeSort (le := fun x y : Int => decide (x ≤ y)) (fun a b c => by simp only [decide_eq_true_iff]; omega) (fun a b => by simp only [Bool.or_eq_true, decide_eq_true_iff]; omega) xs
  refine List.Perm.eq_of_pairwise (le := (· ≤ ·)) (fun a b _ _ h h' => by omega) h1 (h3.imp fun h => by simpa using h) ?_
  exact (by simpa using h2 : (xs.foldl insI []).Perm xs).trans (List.mergeSort_perm xs _).symm
def missOk (a b : List Ltr) : Bool := okB a && okB b
def missR (a b : List Ltr) : List Int := if missOk a b then sortI (missT b a) else []
theorem missR_len (a b : List Ltr) : (missR a b).length ≤ 60 := by
  unfold missR
  split
  · rename_i h
    unfold missOk at h
    rw [Bool.and_eq_true] at h
    unfold sortI
    rw [List.length_mergeSort]
    exact Nat.le_trans (missT_len _ _) (okB_iff.1 h.1).1
  · simp

end Go.Proofs.Ytekjjgnokjhleaa
