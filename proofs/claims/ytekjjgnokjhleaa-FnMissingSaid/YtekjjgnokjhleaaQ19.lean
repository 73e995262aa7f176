/- G2 DP -/
import Derived.Test.YtekjjgnokjhleaaQ8
import Derived.Test.YtekjjgnokjhleaaQ5
import Derived.Deep.QuietTactic
import Derived.BigQuiet
import Derived.Test.YtekjjgnokjhleaaQ18
import Derived.Test.YtekjjgnokjhleaaQ7
namespace Go.Proofs.Ytekjjgnokjhleaa
open Go.RowKit

/-- What is left of l when n is taken; -1 if that is too much. -/
def leftOf (l n : Int) : Int := if l < n then -1 else l - n
def sumStr (xs : List ByteArray) : Nat := (xs.map fun x => x.size).sum
theorem sumStr_succ (xs : List ByteArray) (k : Nat) (h : k < xs.length) : sumStr (xs.take (k + 1)) = sumStr (xs.take k) + xs[k].size := by
  unfold sumStr; rw [List.take_succ_eq_append_getElem h, List.map_append, List.sum_append]; simp
theorem sumStr_le (xs : List ByteArray) (k : Nat) : sumStr (xs.take k) ≤ sumStr xs := by
  unfold sumStr
  conv => rhs; rw [← List.take_append_drop k xs, List.map_append, List.sum_append]
  omega



def planSz (p : Pln) : Int := p.order.length + sumStr p.order
theorem leftOf_range {l n : Int} (h1 : l ≤ 1048576) (hn : 0 ≤ n) : -1 ≤ leftOf l n ∧ leftOf l n ≤ 1048576 ∨ l < 0 := by
  unfold leftOf
  split <;> omega

theorem Try.infoStr : (Try.prog.info? 9).map (fun i => (i.zero, i.size, i.bytes)) = some (some (.string ⟨#[]⟩), 1, 16) := by kernel_rfl





end Go.Proofs.Ytekjjgnokjhleaa

namespace Go.Proofs.Ytekjjgnokjhleaa
open Go.RowKit

set_option maxHeartbeats 400000 in
theorem rd_LeastPasses (n b : Int) (w : World) :
    Calls Try.prog 121 #[.int .i64 n, .int .i64 b] w fun e w' => ∃ x : Int, e = .returned (.int .i64 x) ∧ -1 ≤ x ∧ x ≤ 4 ∧ w = w' := by
  go_enter Try.func121, Try.ntmps121
  by_cases hn : 0 ≤ n
  · go_wp2
    go_loop [5] (fun i => ∃ k : Nat, 1 ≤ k ∧ k ≤ 5 ∧ i = .int .i64 k) (fun i => 5 - (intOf i).toNat)
    case atStart => exact ⟨1, Nat.le_refl _, by omega, rfl⟩
    case round =>
      obtain ⟨k, hk1, hk5, rfl⟩ := hrel
      go_wp2_with fail
      refine (spec_l3Shape b k _).mono ?_
      rintro e _ ⟨rfl, rfl⟩
      cases hs : shapeOk b k
      · go_wp2_with fail
        go_ret
        exact ⟨_, rfl, by omega, by omega, rfl⟩
      · have hs2 : (2 ≤ b ∧ b ≤ 16) ∧ 1 ≤ (k : Int) ∧ (k : Int) ≤ 4 := by simpa [shapeOk] using hs
        have HS := Lib.hid hs; clear hs
        obtain ⟨⟨b1, b2⟩, k1, k2⟩ := hs2
        go_wp2_with fail
        refine (spec_l3Power b k _ b1 b2 (by omega)).mono ?_
        rintro e _ ⟨rfl, rfl⟩
        generalize powI b k = q
        by_cases hq : n ≤ q
        · go_wp2_with fail
          go_ret
          exact ⟨_, rfl, by omega, by omega, rfl⟩
        · go_wp2_with fail
          go_round
          case rel => exact ⟨k + 1, by omega, by omega, by go_num⟩
          case measure => simp [intOf]; omega
  · go_wp2
    go_loop [5] (fun i => i = .int .i64 1) (fun i => 0)
    case atStart => exact rfl
    case round =>
      subst hrel
      go_wp2
      go_ret
      exact ⟨_, rfl, by omega, by omega, rfl⟩

/-- The codes that are drawn. -/
def drawnC (xs : List ByteArray) : Prop := ∀ x ∈ xs, x.size = 7

set_option maxRecDepth 100000 in
set_option maxHeartbeats 1000000 in
theorem rd_l3Order (g p : Nat) (most : Int) (w : World) (hr : rdr w g p) (hp : p ≤ 100000000000) (hm1 : 1 ≤ most) (hm2 : most ≤ 100) :
    Calls Try.prog 120 #[.pointer (some ⟨g, 0, none⟩), .int .i64 most] w fun e w' => ∃ (v : Value) (xs : List ByteArray) (p' : Nat), e = .returned v ∧ own 9 w.heap.size w' v xs ∧ 1 ≤ xs.length ∧ xs.length ≤ 100 ∧ drawnC xs ∧ rdr w' g p' ∧ p' ≤ p + 1001 ∧ w.grownBy w' (some g) := by
  have hlt := hr.lt
  obtain ⟨i0, hi, hz0, hz1, hz2⟩ := info_parts Try.infoStr
  go_enter Try.func120, Try.ntmps120
  go_wp2_with fail
  have hA := hr.alloc (Obj.cells #[] 9)
  have hoA : own (α := ByteArray) 9 w.heap.size (w.alloc (Obj.cells #[] 9)) (.slice (some ⟨w.heap.size, 0, none⟩) 0 0) [] := own.made0 w _ (Nat.le_refl _)
  have hgA := World.grownBy_alloc w (Obj.cells #[] 9) (some g)
  generalize w.alloc (Obj.cells #[] 9) = wA at *
  refine (rd_pick g p most _ hA (by omega) (by unfold isI64; omega)).mono ?_
  rintro e w1 ⟨x, rfl, hx, hr1, hg1⟩
  obtain ⟨x0, x1⟩ := hx.2 (by omega)
  obtain ⟨N, rfl⟩ := Int.eq_ofNat_of_zero_le x0
  have ho1 := hoA.grown hg1 (own_ne hoA hlt)
  have hg1' := grown_trans hgA hg1
  clear hx hoA hA hgA hg1
  go_wp2_with fail
  go_loopw [5, 6] (fun t i wr => ∃ (k : Nat) (xs : List ByteArray) (q : Nat), k ≤ N + 1 ∧ i = .int .i64 k ∧ xs.length + k ≤ N + 1 ∧ Hid (k = N + 1 ∨ 1 ≤ xs.length) ∧ own 9 w.heap.size wr t xs ∧ Hid (drawnC xs) ∧ rdr wr g q ∧ q + 10 * k ≤ p + 1 + 10 * (N + 1) ∧ w.grownBy wr (some g)) (fun _ i _ => (intOf i).toNat)
  case atStart => exact ⟨N + 1, [], p + 1, Nat.le_refl _, by go_num, by simp, .inl rfl, ho1, fun x hx => by simp at hx, hr1, by omega, hg1'⟩
  case round =>
    obtain ⟨k, xs, q, hk, rfl, hxk, HK, ho, HX, hrq, hqb, hgq⟩ := hrel
    obtain ⟨w2, rfl⟩ : ∃ w2 : World, w2 = wr := ⟨_, rfl⟩
    clear ho1 hr1 hg1'
    have HXK := Lib.hid hxk
    have hxl : xs.length ≤ 100 := by omega
    clear hxk
    by_cases hk0 : 0 < k
    · go_wp2_with fail
      refine (rd_l1Some g q _ hrq (by omega)).mono ?_
      rintro e w3 ⟨s, q', rfl, hs7, hr3, hq3, hg3⟩
      have HS7 := Lib.hid hs7
      have hne := own_ne ho hlt
      have ho3 := ho.grown hg3 hne
      have hgq3 := grown_trans hgq hg3
      have hz3 := hgq3.size
      have hsl : s.size ≤ maxLen := by rw [hs7]; decide
      clear hs7 hg3 hne ho
      have HO3 := Lib.hid ho3
      obtain ⟨A, m, c, rfl, hm, _, _, _⟩ := ho3.rd
      subst hm
      clear ho3
      go_wp2_with fail
      refine (spec_l3Rank _ xs s _ HO3.out.rd).mono ?_
      rintro e _ ⟨rfl, rfl⟩
      have hrk := rkI_range xs s
      have HRK : Hid (rkI xs s < 0 ∨ 1 ≤ xs.length) := by show _ ∨ _; omega
      generalize rkI xs s = z at *
      by_cases hz : z < 0
      · go_wp2_with (at_builtin; refine wpList_append1 (α := ByteArray) rfl (.tmp 23) (.tmp 25) _ rfl w.heap.size 9 i0 _ 16 Try.underlying23 hi hz0 hz1 hz2 rfl (by decide) (.slice A xs.length c) xs s rfl (HO3.out.alloc _) ⟨w3.heap.size, 0, none⟩ 1 [.string s] rfl ⟨hsl, rfl⟩ (news_at w3 _ [.string s]) (by unfold maxLen; omega) (by omega) (by simp; omega) ?_; intro v' w4 ho4 hg4 _)
        have hb4 : Below w.heap.size w3 w4 := ((Below.refl _ _).alloc hz3 _).trans (below_append (HO3.out.alloc _) hg4 (by simp; omega))
        have hr4 : rdr w4 g q' := (hr3.alloc _).append (HO3.out.alloc _) hg4 hlt
        have hgq4 : w.grownBy w4 (some g) := grown_of_below hgq3 hb4
        clear hg4 hb4 hr3
        go_wp2_with fail
        go_roundw
        case rel =>
          refine ⟨k - 1, _, q', by omega, by go_num, by have := HXK.out; simp; omega, .inr (by simp), ho4, fun x hx => ?_, hr4, by omega, hgq4⟩
          rcases List.mem_append.1 hx with h | h
          · exact HX.out x h
          · simp at h
            subst h
            exact HS7.out
        case measure => simp [intOf]; omega
      · have HZ := Lib.hid hz; clear hz
        have hz' : 0 ≤ z := by have := HZ.out; omega
        go_wp2_with fail
        go_roundw
        case rel => exact ⟨k - 1, xs, q', by omega, by go_num, by have := HXK.out; omega, .inr (by have := HRK.out; have := HZ.out; omega), HO3.out, HX.out, hr3, by omega, hgq3⟩
        case measure => simp [intOf]; omega
    · have HO := Lib.hid ho
      obtain ⟨A, m, c, rfl, hm, _, _, _⟩ := ho.rd
      clear hm ho
      go_wp2_with fail
      go_ret
      exact ⟨_, xs, q, rfl, HO.out, by have := HK.out; omega, hxl, HX.out, hrq, by omega, hgq⟩

end Go.Proofs.Ytekjjgnokjhleaa
