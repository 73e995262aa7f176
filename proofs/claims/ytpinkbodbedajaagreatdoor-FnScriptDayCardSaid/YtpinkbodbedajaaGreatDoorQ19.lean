/- SQ PR -/
import Derived.RangeFuncNested
import Derived.RangeFuncBound
import Derived.RangeFuncCalls
import Derived.RangeFuncLeaves
import Derived.Shelf.Abstract
import Derived.Shelf.RegionOpen
import Derived.WalkKit
import Derived.OwnWalkIn
import Derived.TacticsInMore
import Derived.LoopNIn
import Derived.LoopIn
import Derived.Test.YtpinkbodbedajaaGreatDoorQ17
import Derived.Test.YtpinkbodbedajaaGreatDoorQ18
import Derived.Maps.AppendAt
import Derived.Test.YtpinkbodbedajaaGreatDoorQ16
namespace Go.Proofs.YtpinkbodbedajaaGreatDoor
open Go.RowKit Go.Shelf
attribute [local go_sem] Oper.semAt_some

/-- A text cut at each c. -/
def spl (c : UInt8) : List UInt8 → List (List UInt8)
  | [] => [[]]
  | b :: s => if b = c then [] :: spl c s else
    match spl c s with
    | [] => [[b]]
    | p :: ps => (b :: p) :: ps
theorem spl_ne (c : UInt8) (s : List UInt8) : spl c s ≠ [] := by
  cases s with
  | nil => simp [spl]
  | cons b s =>
    unfold spl
    split
    · simp
    · split <;> simp
theorem spl_eq (c : UInt8) (s : List UInt8) : spl c (c :: s) = [] :: spl c s := by
  conv => lhs; unfold spl
  rw [if_pos rfl]
theorem spl_cons {b c : UInt8} (h : b ≠ c) {s : List UInt8} {p : List UInt8} {ps : List (List UInt8)} (hs : spl c s = p :: ps) : spl c (b :: s) = (b :: p) :: ps := by
  conv => lhs; unfold spl
  rw [if_neg h, hs]
theorem idx_cons (b c : UInt8) (s : List UInt8) : Lib.indexByte (b :: s) c = if b = c then 0 else if Lib.indexByte s c = -1 then -1 else Lib.indexByte s c + 1 := by
  show (if b == c then 0 else if Lib.indexByte s c == -1 then -1 else Lib.indexByte s c + 1) = _
  simp only [beq_iff_eq]
theorem spl_none {c : UInt8} : ∀ {s : List UInt8}, Lib.indexByte s c < 0 → spl c s = [s]
  | [], _ => rfl
  | b :: s, h => by
    rw [idx_cons] at h
    have hg := Lib.indexByte_ge s c
    split at h
    · omega
    · rename_i hb
      have h2 : Lib.indexByte s c < 0 := by split at h <;> omega
      exact spl_cons hb (spl_none h2)
theorem spl_some {c : UInt8} : ∀ {s : List UInt8} {i : Nat}, Lib.indexByte s c = (i : Int) → spl c s = s.take i :: spl c (s.drop (i + 1)) ∧ i < s.length
  | [], i, h => by
    have : (-1 : Int) = (i : Int) := h
    omega
  | b :: s, i, h => by
    rw [idx_cons] at h
    have hg := Lib.indexByte_ge s c
    split at h
    · rename_i hb
      have e : i = 0 := by omega
      subst e hb
      rw [spl_eq]
      exact ⟨rfl, by simp⟩
    · rename_i hb
      obtain ⟨j, h1, rfl⟩ : ∃ j : Nat, Lib.indexByte s c = (j : Int) ∧ i = j + 1 := by
        split at h
        · omega
        · exact ⟨i - 1, by omega, by omega⟩
      obtain ⟨h2, h3⟩ := spl_some h1
      rw [spl_cons hb h2]
      exact ⟨rfl, by simp; omega⟩

/-- The cells that the closure has captured: the text that is left, the sign, nothing saved. -/
def capt (b : Nat) (c : UInt8) (s : ByteArray) (w : World) : Prop :=
  w.cell? ⟨b, 0, none⟩ = some (.string s) ∧ w.frozen? ⟨b, 0, none⟩ = false ∧ w.cell? ⟨b + 1, 0, none⟩ = some (.string ⟨#[c]⟩) ∧ w.cell? ⟨b + 2, 0, none⟩ = some (.int .i64 0)
theorem cell_same_blk {w w' : World} {k : Nat} (h : w'.heap[k]? = w.heap[k]?) (i : Nat) : w'.cell? ⟨k, i, none⟩ = w.cell? ⟨k, i, none⟩ := by
  simp [World.cell?, h]
theorem frozen_same_blk {w w' : World} {k : Nat} (h : w'.heap[k]? = w.heap[k]?) (i : Nat) : w'.frozen? ⟨k, i, none⟩ = w.frozen? ⟨k, i, none⟩ := by
  simp [World.frozen?, h]
theorem capt.same {b : Nat} {c : UInt8} {s : ByteArray} {w w' : World} (h : capt b c s w) (hs : ∀ k ∈ [b, b + 1, b + 2], w'.heap[k]? = w.heap[k]?) : capt b c s w' := by
  obtain ⟨h1, h2, h3, h4⟩ := h
  have e0 := hs b (by simp); have e1 := hs (b + 1) (by simp); have e2 := hs (b + 2) (by simp)
  exact ⟨(cell_same_blk e0 0).trans h1, (frozen_same_blk e0 0).trans h2, (cell_same_blk e1 0).trans h3, (cell_same_blk e2 0).trans h4⟩
theorem capt.set {b : Nat} {c : UInt8} {s : ByteArray} {w : World} (h : capt b c s w) (t : ByteArray) : capt b c t (w.setCell ⟨b, 0, none⟩ (.string t)) := by
  obtain ⟨h1, h2, h3, h4⟩ := h
  refine ⟨World.cell?_setCell_same' _ _ _ (by rw [h1]; rfl), by rw [World.frozen?_setCell]; exact h2, ?_, ?_⟩
  · rw [World.cell?_setCell_other _ _ _ _ (by simp)]; exact h3
  · rw [World.cell?_setCell_other _ _ _ _ (by simp)]; exact h4

def partsB (c : UInt8) (s : ByteArray) : List ByteArray := (spl c s.data.toList).map fun l => ⟨l.toArray⟩

set_option maxRecDepth 100000 in
set_option maxHeartbeats 1600000 in
/-- **The closure that SplitSeq hands back: every part comes, in its order, unless a round says that no more is wanted.** -/
theorem split_iter (n b : Nat) (hn : 1 ≤ n) (c : UInt8) (s : ByteArray) (w : World) (hw : capt b c s w) (hs : s.size ≤ maxLen) :
    IterZ Fence.wide n Tryz.prog 278 #[.pointer (some ⟨b + 1, 0, none⟩), .pointer (some ⟨b, 0, none⟩), .pointer (some ⟨b + 2, 0, none⟩)] (fun x : ByteArray => #[.string x]) (fun x => x.size ≤ maxLen) (fun xs => xs = partsB c s) (fun pre => pre <+: partsB c s) (partsB c s).length b [b, b + 1, b + 2] w := by
  intro l J Jx hJ hJx hY W hsz hC h0
  have hcW := hw.same hC
  clear hC hw
  refine callsIn_of_wp Tryz.func278 rfl trivial ?_ rfl
  simp only [Tryz.ntmps278, List.size_toArray, List.length_cons, List.length_nil, Nat.reduceAdd, Nat.reduceSub, Array.replicate_succ, Array.replicate_zero, List.push_toArray, List.append_toArray, List.nil_append, List.cons_append]
  obtain ⟨g1, g2, g3, g4⟩ := hcW
  gi_wp2
  have hcW : capt b c s W := ⟨g1, g2, g3, g4⟩
  gi_loopw [7, 8] (fun _ _ wr => ∃ (pre : List ByteArray) (rest : ByteArray), capt b c rest wr ∧ partsB c s = pre ++ partsB c rest ∧ J pre wr ∧ rest.size ≤ maxLen) (fun _ _ wr => match wr.cell? ⟨b, 0, none⟩ with | some (.string t) => t.size | _ => 0)
  case atStart => exact ⟨[], s, hcW, rfl, h0, hs⟩
  case round =>
    obtain ⟨pre, rest, hcap, hp, hj, hr⟩ := hrel
    have hcap' := hcap
    obtain ⟨g1, g2, g3, g4⟩ := hcap
    have hix := Tryz.strings_Index_one rest c wr
    have hge := Lib.indexByte_ge rest.data.toList c
    by_cases hneg : Lib.indexByte rest.data.toList c < 0
    · have hlast : partsB c rest = [rest] := by unfold partsB; rw [spl_none hneg]; rfl
      have hlen : pre.length < (partsB c s).length := by rw [hp, hlast]; simp
      obtain ⟨fn, tmps, assign, body, hy, hR⟩ := hY pre rest wr hj hlen hr
      (try dsimp only at hy)
      rw [hlast] at hp
      gi_wp2_with (refine ⟨trivial, ?_⟩; gi_at_call 189; refine (callsIn_wide.2 hix).mono ?_; rintro e w' ⟨rfl, rfl⟩)
      refine hR.mono ?_
      rintro e W' (⟨rfl, hJ', _⟩ | ⟨rfl, hJx'⟩)
      · gi_wp2
        go_end0
        exact ⟨⟨_, rfl⟩, .inl ⟨_, rfl, by rw [hp]; exact hJ'⟩⟩
      · gi_wp2
        go_end0
        exact ⟨⟨_, rfl⟩, .inr ⟨_, by rw [hp]; exact List.prefix_rfl, hJx'⟩⟩
    · obtain ⟨i, hi⟩ : ∃ i : Nat, Lib.indexByte rest.data.toList c = (i : Int) := ⟨(Lib.indexByte rest.data.toList c).toNat, by omega⟩
      obtain ⟨hs1, hs2⟩ := spl_some hi
      have hil : i < rest.size := by simpa using hs2
      have hcons : partsB c rest = rest.extract 0 i :: partsB c (rest.extract (i + 1) rest.size) := by
        unfold partsB
        rw [hs1, List.map_cons]
        have e1 : (⟨(rest.data.toList.take i).toArray⟩ : ByteArray) = rest.extract 0 i := by
          apply ByteArray.ext
          rw [ByteArray.data_extract]
          apply Array.ext'
          simp
        have e2 : rest.data.toList.drop (i + 1) = (rest.extract (i + 1) rest.size).data.toList := by
          rw [ByteArray.data_extract]
          simp
          exact (List.take_of_length_le (by rw [List.length_drop]; exact Nat.le_of_eq (congrArg (fun z => z - (i + 1)) (by rw [Array.length_toList]; rfl)))).symm
        rw [e1, e2]
      rw [hi] at hix
      have hlen : pre.length < (partsB c s).length := by rw [hp, hcons]; simp
      obtain ⟨fn, tmps, assign, body, hy, hR⟩ := hY pre (rest.extract 0 i) wr hj hlen (by rw [ByteArray.size_extract]; omega)
      (try dsimp only at hy)
      unfold maxLen at hr
      have w1 : IntKind.i64.wrap ((i : Int) + 0) = (i : Int) := by rw [Int.add_zero]; exact IntWalk.i64_in _ (by omega)
      have w2 : IntKind.i64.wrap ((i : Int) + 1) = (i : Int) + 1 := IntWalk.i64_in _ (by omega)
      have hii : (i : Int) ≤ (rest.size : Int) := by omega
      have hi1 : (i : Int) + 1 ≤ (rest.size : Int) := by omega
      have hi2 : ((i : Int) + 1).toNat = i + 1 := by omega
      gi_wp2_with (refine ⟨trivial, ?_⟩; gi_at_call 189; refine (callsIn_wide.2 hix).mono ?_; rintro e w' ⟨rfl, rfl⟩)
      refine hR.mono ?_
      rintro e W' (⟨rfl, hJ', hsz', hk'⟩ | ⟨rfl, hJx'⟩)
      · have hcap2 := hcap'.same hk'
        have hcap3 := hcap2
        obtain ⟨k1, k2, k3, k4⟩ := hcap2
        clear g1 g2 g3 g4
        gi_wp2
        go_roundw
        case rel =>
          refine ⟨pre ++ [rest.extract 0 i], rest.extract (i + 1) rest.size, hcap3.set _, by rw [hp, hcons]; simp, hJ _ _ _ _ hJ' (grownBy_setCell' W' b _) (fun r e => by cases e; rfl), by unfold maxLen; rw [ByteArray.size_extract]; omega⟩
        case measure =>
          have e1 : (W'.setCell ⟨b, 0, none⟩ (.string (rest.extract (i + 1) rest.size))).cell? ⟨b, 0, none⟩ = some (.string (rest.extract (i + 1) rest.size)) := (hcap3.set _).1
          have e2 := hcap'.1
          simp only [e1, e2]
          rw [ByteArray.size_extract]
          omega
      · gi_wp2
        refine bodyPost_ret (results_none rfl _ _ _) rfl ?_
        exact ⟨⟨_, rfl⟩, .inr ⟨pre ++ [rest.extract 0 i], by rw [hp, hcons]; exact ⟨partsB c (rest.extract (i + 1) rest.size), by simp⟩, hJx'⟩⟩

set_option maxHeartbeats 1000000 in
theorem strings_SplitSeq (s : ByteArray) (c : UInt8) (w : World) :
    Calls Tryz.prog 196 #[.string s, .string ⟨#[c]⟩] w fun e w' => e = .returned (.func (.func 278) #[] #[.pointer (some ⟨w.heap.size + 1, 0, none⟩), .pointer (some ⟨w.heap.size, 0, none⟩), .pointer (some ⟨w.heap.size + 2, 0, none⟩)]) ∧
      capt w.heap.size c s w' ∧ Below w.heap.size w w' ∧ w'.heap.size = w.heap.size + 3 := by
  have h1 : Calls Tryz.prog 246 #[.string s, .string ⟨#[c]⟩, .int .i64 0] w fun e w' => e = .returned (.func (.func 278) #[] #[.pointer (some ⟨w.heap.size + 1, 0, none⟩), .pointer (some ⟨w.heap.size, 0, none⟩), .pointer (some ⟨w.heap.size + 2, 0, none⟩)]) ∧
      w' = ((w.alloc (.cells #[.string s] 9)).alloc (.cells #[.string ⟨#[c]⟩] 9)).alloc (.cells #[.int .i64 0] 3) := by
    go_enter Tryz.func246, Tryz.ntmps246
    go_wp2
    go_ret
    exact ⟨rfl, rfl⟩
  go_enter Tryz.func196, Tryz.ntmps196
  go_wp2_with (go_at_call 246; refine h1.mono ?_; rintro e w' ⟨rfl, rfl⟩)
  go_ret
  have b0 := ((Boxed.new w 9 (.string s)).alloc (.cells #[.string ⟨#[c]⟩] 9)).alloc (.cells #[.int .i64 0] 3)
  have b1 := (Boxed.new (w.alloc (.cells #[.string s] 9)) 9 (.string ⟨#[c]⟩)).alloc (.cells #[.int .i64 0] 3)
  have b2 := Boxed.new ((w.alloc (.cells #[.string s] 9)).alloc (.cells #[.string ⟨#[c]⟩] 9)) 3 (.int .i64 0)
  rw [World.size_alloc] at b1 b2
  rw [World.size_alloc] at b2
  exact ⟨rfl, ⟨b0.cell, b0.frozen, b1.cell, b2.cell⟩, (((Below.refl _ w).alloc (Nat.le_refl _) _).alloc (by simp) _).alloc (by simp; omega) _, by simp⟩

end Go.Proofs.YtpinkbodbedajaaGreatDoor

namespace Go.Proofs.YtpinkbodbedajaaGreatDoor
open Go.RowKit Go.Shelf
attribute [local go_sem] Oper.semAt_some

/-! ### A part cut at its first sign -/
def cutAt (c : UInt8) (s : ByteArray) : Option (ByteArray × ByteArray) :=
  if Lib.indexByte s.data.toList c < 0 then none else some (s.extract 0 (Lib.indexByte s.data.toList c).toNat, s.extract ((Lib.indexByte s.data.toList c).toNat + 1) s.size)
theorem cut_none {c : UInt8} {s : ByteArray} (h : Lib.indexByte s.data.toList c < 0) : cutAt c s = none := by unfold cutAt; rw [if_pos h]
theorem cut_some {c : UInt8} {s : ByteArray} {i : Nat} (h : Lib.indexByte s.data.toList c = (i : Int)) : cutAt c s = some (s.extract 0 i, s.extract (i + 1) s.size) := by
  unfold cutAt
  rw [if_neg (by omega), h]
  rfl
set_option maxHeartbeats 800000 in
theorem stringslite_Cut1 (s : ByteArray) (c : UInt8) (w : World) (hs : s.size ≤ maxLen) :
    Calls Tryz.prog 191 #[.string s, .string ⟨#[c]⟩] w fun e w' => Below w.heap.size w w' ∧
      ((cutAt c s = none ∧ e = .returned (.tuple #[.string s, .string ⟨#[]⟩, .bool false])) ∨ ∃ p q, cutAt c s = some (p, q) ∧ e = .returned (.tuple #[.string p, .string q, .bool true])) := by
  have hix := Tryz.stringslite_Index_one s c w
  have hge := Lib.indexByte_ge s.data.toList c
  unfold maxLen at hs
  by_cases hneg : Lib.indexByte s.data.toList c < 0
  · have HC := Lib.hid (cut_none hneg)
    have hd : decide ((0 : Int) ≤ Lib.indexByte s.data.toList c) = false := decide_eq_false (by omega)
    generalize Lib.indexByte s.data.toList c = j at *
    have hj : ¬ 0 ≤ j := by omega
    go_enter Tryz.func191, Tryz.ntmps191
    go_wp2_with (go_at_call 243; refine hix.mono ?_; rintro e w' ⟨rfl, rfl⟩)
    go_ret3
    exact ⟨Below.refl _ _, .inl ⟨HC.out, rfl⟩⟩
  · obtain ⟨i, hi⟩ : ∃ i : Nat, Lib.indexByte s.data.toList c = (i : Int) := ⟨(Lib.indexByte s.data.toList c).toNat, by omega⟩
    obtain ⟨_, hs2⟩ := spl_some hi
    have hil : i < s.size := by simpa using hs2
    have HC := Lib.hid (cut_some hi)
    rw [hi] at hix
    clear hneg hge hi hs2
    have w2 : IntKind.i64.wrap ((i : Int) + 1) = (i : Int) + 1 := IntWalk.i64_in _ (by omega)
    have hii : (i : Int) ≤ (s.size : Int) := by omega
    have hi1 : (i : Int) + 1 ≤ (s.size : Int) := by omega
    have hi2 : ((i : Int) + 1).toNat = i + 1 := by omega
    have hi0 : (0 : Int) ≤ (i : Int) := by omega
    have hi3 : (0 : Int) ≤ (i : Int) + 1 := by omega
    have hd : decide ((0 : Int) ≤ (i : Int)) = true := decide_eq_true hi0
    go_enter Tryz.func191, Tryz.ntmps191
    go_wp2_with (go_at_call 243; refine hix.mono ?_; rintro e w' ⟨rfl, rfl⟩)
    go_quiet (fail)
    go_wp2
    go_ret3
    exact ⟨below_drewN (Below.refl _ _) _, .inr ⟨_, _, HC.out, rfl⟩⟩
theorem strings_Cut1 (s : ByteArray) (c : UInt8) (w : World) (hs : s.size ≤ maxLen) :
    Calls Tryz.prog 130 #[.string s, .string ⟨#[c]⟩] w fun e w' => Below w.heap.size w w' ∧
      ((cutAt c s = none ∧ e = .returned (.tuple #[.string s, .string ⟨#[]⟩, .bool false])) ∨ ∃ p q, cutAt c s = some (p, q) ∧ e = .returned (.tuple #[.string p, .string q, .bool true])) := by
  have h := stringslite_Cut1 s c w hs
  go_enter Tryz.func130, Tryz.ntmps130
  go_wp2_with (go_at_call 191; refine h.mono ?_; rintro e w' ⟨hb, ⟨hc, rfl⟩ | ⟨p, q, hc, rfl⟩⟩)
  all_goals
    go_wp2
    go_ret3
  · exact ⟨hb, .inl ⟨hc, rfl⟩⟩
  · exact ⟨hb, .inr ⟨_, _, hc, rfl⟩⟩

end Go.Proofs.YtpinkbodbedajaaGreatDoor
