/- SQ PR PQ FA FB -/
import Derived.RangeFuncNested
import Derived.RangeFuncBound
import Derived.RangeFuncCalls
import Derived.RangeFuncLeaves
import Derived.Shelf.Abstract
import Derived.Shelf.RegionOpen
import Derived.WalkKit
import Derived.OwnWalkIn
import Derived.TacticsInMore
import Derived.LoopNIn
import Derived.LoopIn
import Derived.Test.YtpinkbodbedajaaGreatDoorQ27
import Derived.Test.YtpinkbodbedajaaGreatDoorQ28
import Derived.Maps.AppendAt
import Derived.Test.YtpinkbodbedajaaGreatDoorQ4
import Derived.Test.YtpinkbodbedajaaGreatDoorQ21
import Derived.Test.YtpinkbodbedajaaGreatDoorQ13
import Derived.Test.YtpinkbodbedajaaGreatDoorQ7
import Derived.Test.YtpinkbodbedajaaGreatDoorQ19
import Derived.Test.YtpinkbodbedajaaGreatDoorQ6
import Derived.Lib.SmallJoins
import Derived.Test.YtpinkbodbedajaaGreatDoorQ11
import Derived.Test.YtpinkbodbedajaaGreatDoorQ5
namespace Go.Proofs.YtpinkbodbedajaaGreatDoor
open Go.RowKit Go.Shelf
attribute [local go_sem] Oper.semAt_some

/-- A text cut at each c. -/
def spl (c : UInt8) : List UInt8 → List (List UInt8)
  | [] => [[]]
  | b :: s => if b = c then [] :: spl c s else
    match spl c s with
    | [] => [[b]]
    | p :: ps => (b :: p) :: ps
theorem spl_ne (c : UInt8) (s : List UInt8) : spl c s ≠ [] := by
  cases s with
  | nil => simp [spl]
  | cons b s =>
    unfold spl
    split
    · simp
    · split <;> simp
theorem spl_eq (c : UInt8) (s : List UInt8) : spl c (c :: s) = [] :: spl c s := by
  conv => lhs; unfold spl
  rw [if_pos rfl]
theorem spl_cons {b c : UInt8} (h : b ≠ c) {s : List UInt8} {p : List UInt8} {ps : List (List UInt8)} (hs : spl c s = p :: ps) : spl c (b :: s) = (b :: p) :: ps := by
  conv => lhs; unfold spl
  rw [if_neg h, hs]
theorem idx_cons (b c : UInt8) (s : List UInt8) : Lib.indexByte (b :: s) c = if b = c then 0 else if Lib.indexByte s c = -1 then -1 else Lib.indexByte s c + 1 := by
  show (if b == c then 0 else if Lib.indexByte s c == -1 then -1 else Lib.indexByte s c + 1) = _
  simp only [beq_iff_eq]
theorem spl_none {c : UInt8} : ∀ {s : List UInt8}, Lib.indexByte s c < 0 → spl c s = [s]
  | [], _ => rfl
  | b :: s, h => by
    rw [idx_cons] at h
    have hg := Lib.indexByte_ge s c
    split at h
    · omega
    · rename_i hb
      have h2 : Lib.indexByte s c < 0 := by split at h <;> omega
      exact spl_cons hb (spl_none h2)
theorem spl_some {c : UInt8} : ∀ {s : List UInt8} {i : Nat}, Lib.indexByte s c = (i : Int) → spl c s = s.take i :: spl c (s.drop (i + 1)) ∧ i < s.length
  | [], i, h => by
    have : (-1 : Int) = (i : Int) := h
    omega
  | b :: s, i, h => by
    rw [idx_cons] at h
    have hg := Lib.indexByte_ge s c
    split at h
    · rename_i hb
      have e : i = 0 := by omega
      subst e hb
      rw [spl_eq]
      exact ⟨rfl, by simp⟩
    · rename_i hb
      obtain ⟨j, h1, rfl⟩ : ∃ j : Nat, Lib.indexByte s c = (j : Int) ∧ i = j + 1 := by
        split at h
        · omega
        · exact ⟨i - 1, by omega, by omega⟩
      obtain ⟨h2, h3⟩ := spl_some h1
      rw [spl_cons hb h2]
      exact ⟨rfl, by simp; omega⟩

/-- The cells that the closure has captured: the text that is left, the sign, nothing saved. -/
def capt (b : Nat) (c : UInt8) (s : ByteArray) (w : World) : Prop :=
  w.cell? ⟨b, 0, none⟩ = some (.string s) ∧ w.frozen? ⟨b, 0, none⟩ = false ∧ w.cell? ⟨b + 1, 0, none⟩ = some (.string ⟨#[c]⟩) ∧ w.cell? ⟨b + 2, 0, none⟩ = some (.int .i64 0)
theorem cell_same_blk {w w' : World} {k : Nat} (h : w'.heap[k]? = w.heap[k]?) (i : Nat) : w'.cell? ⟨k, i, none⟩ = w.cell? ⟨k, i, none⟩ := by
  simp [World.cell?, h]
theorem frozen_same_blk {w w' : World} {k : Nat} (h : w'.heap[k]? = w.heap[k]?) (i : Nat) : w'.frozen? ⟨k, i, none⟩ = w.frozen? ⟨k, i, none⟩ := by
  simp [World.frozen?, h]
theorem capt.same {b : Nat} {c : UInt8} {s : ByteArray} {w w' : World} (h : capt b c s w) (hs : ∀ k ∈ [b, b + 1, b + 2], w'.heap[k]? = w.heap[k]?) : capt b c s w' := by
  obtain ⟨h1, h2, h3, h4⟩ := h
  have e0 := hs b (by simp); have e1 := hs (b + 1) (by simp); have e2 := hs (b + 2) (by simp)
  exact ⟨(cell_same_blk e0 0).trans h1, (frozen_same_blk e0 0).trans h2, (cell_same_blk e1 0).trans h3, (cell_same_blk e2 0).trans h4⟩
theorem capt.set {b : Nat} {c : UInt8} {s : ByteArray} {w : World} (h : capt b c s w) (t : ByteArray) : capt b c t (w.setCell ⟨b, 0, none⟩ (.string t)) := by
  obtain ⟨h1, h2, h3, h4⟩ := h
  refine ⟨World.cell?_setCell_same' _ _ _ (by rw [h1]; rfl), by rw [World.frozen?_setCell]; exact h2, ?_, ?_⟩
  · rw [World.cell?_setCell_other _ _ _ _ (by simp)]; exact h3
  · rw [World.cell?_setCell_other _ _ _ _ (by simp)]; exact h4

def partsB (c : UInt8) (s : ByteArray) : List ByteArray := (spl c s.data.toList).map fun l => ⟨l.toArray⟩

set_option maxRecDepth 100000 in
set_option maxHeartbeats 1600000 in
/-- **The closure that SplitSeq hands back: every part comes, in its order, unless a round says that no more is wanted.** -/
theorem split_iter (n b : Nat) (hn : 1 ≤ n) (c : UInt8) (s : ByteArray) (w : World) (hw : capt b c s w) (hs : s.size ≤ maxLen) :
    IterZ Fence.wide n Tryz.prog 278 #[.pointer (some ⟨b + 1, 0, none⟩), .pointer (some ⟨b, 0, none⟩), .pointer (some ⟨b + 2, 0, none⟩)] (fun x : ByteArray => #[.string x]) (fun x => x.size ≤ maxLen) (fun xs => xs = partsB c s) (fun pre => pre <+: partsB c s) (partsB c s).length b [b, b + 1, b + 2] w := by
  intro l J Jx hJ hJx hY W hsz hC h0
  have hcW := hw.same hC
  clear hC hw
  refine callsIn_of_wp Tryz.func278 rfl trivial ?_ rfl
  simp only [Tryz.ntmps278, List.size_toArray, List.length_cons, List.length_nil, Nat.reduceAdd, Nat.reduceSub, Array.replicate_succ, Array.replicate_zero, List.push_toArray, List.append_toArray, List.nil_append, List.cons_append]
  obtain ⟨g1, g2, g3, g4⟩ := hcW
  gi_wp2
  have hcW : capt b c s W := ⟨g1, g2, g3, g4⟩
  gi_loopw [7, 8] (fun _ _ wr => ∃ (pre : List ByteArray) (rest : ByteArray), capt b c rest wr ∧ partsB c s = pre ++ partsB c rest ∧ J pre wr ∧ rest.size ≤ maxLen) (fun _ _ wr => match wr.cell? ⟨b, 0, none⟩ with | some (.string t) => t.size | _ => 0)
  case atStart => exact ⟨[], s, hcW, rfl, h0, hs⟩
  case round =>
    obtain ⟨pre, rest, hcap, hp, hj, hr⟩ := hrel
    have hcap' := hcap
    obtain ⟨g1, g2, g3, g4⟩ := hcap
    have hix := Tryz.strings_Index_one rest c wr
    have hge := Lib.indexByte_ge rest.data.toList c
    by_cases hneg : Lib.indexByte rest.data.toList c < 0
    · have hlast : partsB c rest = [rest] := by unfold partsB; rw [spl_none hneg]; rfl
      have hlen : pre.length < (partsB c s).length := by rw [hp, hlast]; simp
      obtain ⟨fn, tmps, assign, body, hy, hR⟩ := hY pre rest wr hj hlen hr
      (try dsimp only at hy)
      rw [hlast] at hp
      gi_wp2_with (refine ⟨trivial, ?_⟩; gi_at_call 189; refine (callsIn_wide.2 hix).mono ?_; rintro e w' ⟨rfl, rfl⟩)
      refine hR.mono ?_
      rintro e W' (⟨rfl, hJ', _⟩ | ⟨rfl, hJx'⟩)
      · gi_wp2
        go_end0
        exact ⟨⟨_, rfl⟩, .inl ⟨_, rfl, by rw [hp]; exact hJ'⟩⟩
      · gi_wp2
        go_end0
        exact ⟨⟨_, rfl⟩, .inr ⟨_, by rw [hp]; exact List.prefix_rfl, hJx'⟩⟩
    · obtain ⟨i, hi⟩ : ∃ i : Nat, Lib.indexByte rest.data.toList c = (i : Int) := ⟨(Lib.indexByte rest.data.toList c).toNat, by omega⟩
      obtain ⟨hs1, hs2⟩ := spl_some hi
      have hil : i < rest.size := by simpa using hs2
      have hcons : partsB c rest = rest.extract 0 i :: partsB c (rest.extract (i + 1) rest.size) := by
        unfold partsB
        rw [hs1, List.map_cons]
        have e1 : (⟨(rest.data.toList.take i).toArray⟩ : ByteArray) = rest.extract 0 i := by
          apply ByteArray.ext
          rw [ByteArray.data_extract]
          apply Array.ext'
          simp
        have e2 : rest.data.toList.drop (i + 1) = (rest.extract (i + 1) rest.size).data.toList := by
          rw [ByteArray.data_extract]
          simp
          exact (List.take_of_length_le (by rw [List.length_drop]; exact Nat.le_of_eq (congrArg (fun z => z - (i + 1)) (by rw [Array.length_toList]; rfl)))).symm
        rw [e1, e2]
      rw [hi] at hix
      have hlen : pre.length < (partsB c s).length := by rw [hp, hcons]; simp
      obtain ⟨fn, tmps, assign, body, hy, hR⟩ := hY pre (rest.extract 0 i) wr hj hlen (by rw [ByteArray.size_extract]; omega)
      (try dsimp only at hy)
      unfold maxLen at hr
      have w1 : IntKind.i64.wrap ((i : Int) + 0) = (i : Int) := by rw [Int.add_zero]; exact IntWalk.i64_in _ (by omega)
      have w2 : IntKind.i64.wrap ((i : Int) + 1) = (i : Int) + 1 := IntWalk.i64_in _ (by omega)
      have hii : (i : Int) ≤ (rest.size : Int) := by omega
      have hi1 : (i : Int) + 1 ≤ (rest.size : Int) := by omega
      have hi2 : ((i : Int) + 1).toNat = i + 1 := by omega
      gi_wp2_with (refine ⟨trivial, ?_⟩; gi_at_call 189; refine (callsIn_wide.2 hix).mono ?_; rintro e w' ⟨rfl, rfl⟩)
      refine hR.mono ?_
      rintro e W' (⟨rfl, hJ', hsz', hk'⟩ | ⟨rfl, hJx'⟩)
      · have hcap2 := hcap'.same hk'
        have hcap3 := hcap2
        obtain ⟨k1, k2, k3, k4⟩ := hcap2
        clear g1 g2 g3 g4
        gi_wp2
        go_roundw
        case rel =>
          refine ⟨pre ++ [rest.extract 0 i], rest.extract (i + 1) rest.size, hcap3.set _, by rw [hp, hcons]; simp, hJ _ _ _ _ hJ' (grownBy_setCell' W' b _) (fun r e => by cases e; rfl), by unfold maxLen; rw [ByteArray.size_extract]; omega⟩
        case measure =>
          have e1 : (W'.setCell ⟨b, 0, none⟩ (.string (rest.extract (i + 1) rest.size))).cell? ⟨b, 0, none⟩ = some (.string (rest.extract (i + 1) rest.size)) := (hcap3.set _).1
          have e2 := hcap'.1
          simp only [e1, e2]
          rw [ByteArray.size_extract]
          omega
      · gi_wp2
        refine bodyPost_ret (results_none rfl _ _ _) rfl ?_
        exact ⟨⟨_, rfl⟩, .inr ⟨pre ++ [rest.extract 0 i], by rw [hp, hcons]; exact ⟨partsB c (rest.extract (i + 1) rest.size), by simp⟩, hJx'⟩⟩

set_option maxHeartbeats 1000000 in
theorem strings_SplitSeq (s : ByteArray) (c : UInt8) (w : World) :
    Calls Tryz.prog 196 #[.string s, .string ⟨#[c]⟩] w fun e w' => e = .returned (.func (.func 278) #[] #[.pointer (some ⟨w.heap.size + 1, 0, none⟩), .pointer (some ⟨w.heap.size, 0, none⟩), .pointer (some ⟨w.heap.size + 2, 0, none⟩)]) ∧
      capt w.heap.size c s w' ∧ Below w.heap.size w w' ∧ w'.heap.size = w.heap.size + 3 := by
  have h1 : Calls Tryz.prog 246 #[.string s, .string ⟨#[c]⟩, .int .i64 0] w fun e w' => e = .returned (.func (.func 278) #[] #[.pointer (some ⟨w.heap.size + 1, 0, none⟩), .pointer (some ⟨w.heap.size, 0, none⟩), .pointer (some ⟨w.heap.size + 2, 0, none⟩)]) ∧
      w' = ((w.alloc (.cells #[.string s] 9)).alloc (.cells #[.string ⟨#[c]⟩] 9)).alloc (.cells #[.int .i64 0] 3) := by
    go_enter Tryz.func246, Tryz.ntmps246
    go_wp2
    go_ret
    exact ⟨rfl, rfl⟩
  go_enter Tryz.func196, Tryz.ntmps196
  go_wp2_with (go_at_call 246; refine h1.mono ?_; rintro e w' ⟨rfl, rfl⟩)
  go_ret
  have b0 := ((Boxed.new w 9 (.string s)).alloc (.cells #[.string ⟨#[c]⟩] 9)).alloc (.cells #[.int .i64 0] 3)
  have b1 := (Boxed.new (w.alloc (.cells #[.string s] 9)) 9 (.string ⟨#[c]⟩)).alloc (.cells #[.int .i64 0] 3)
  have b2 := Boxed.new ((w.alloc (.cells #[.string s] 9)).alloc (.cells #[.string ⟨#[c]⟩] 9)) 3 (.int .i64 0)
  rw [World.size_alloc] at b1 b2
  rw [World.size_alloc] at b2
  exact ⟨rfl, ⟨b0.cell, b0.frozen, b1.cell, b2.cell⟩, (((Below.refl _ w).alloc (Nat.le_refl _) _).alloc (by simp) _).alloc (by simp; omega) _, by simp⟩

end Go.Proofs.YtpinkbodbedajaaGreatDoor

namespace Go.Proofs.YtpinkbodbedajaaGreatDoor
open Go.RowKit Go.Shelf
attribute [local go_sem] Oper.semAt_some

/-! ### A part cut at its first sign -/
def cutAt (c : UInt8) (s : ByteArray) : Option (ByteArray × ByteArray) :=
  if Lib.indexByte s.data.toList c < 0 then none else some (s.extract 0 (Lib.indexByte s.data.toList c).toNat, s.extract ((Lib.indexByte s.data.toList c).toNat + 1) s.size)
theorem cut_none {c : UInt8} {s : ByteArray} (h : Lib.indexByte s.data.toList c < 0) : cutAt c s = none := by unfold cutAt; rw [if_pos h]
theorem cut_some {c : UInt8} {s : ByteArray} {i : Nat} (h : Lib.indexByte s.data.toList c = (i : Int)) : cutAt c s = some (s.extract 0 i, s.extract (i + 1) s.size) := by
  unfold cutAt
  rw [if_neg (by omega), h]
  rfl
set_option maxHeartbeats 800000 in
theorem stringslite_Cut1 (s : ByteArray) (c : UInt8) (w : World) (hs : s.size ≤ maxLen) :
    Calls Tryz.prog 191 #[.string s, .string ⟨#[c]⟩] w fun e w' => Below w.heap.size w w' ∧
      ((cutAt c s = none ∧ e = .returned (.tuple #[.string s, .string ⟨#[]⟩, .bool false])) ∨ ∃ p q, cutAt c s = some (p, q) ∧ e = .returned (.tuple #[.string p, .string q, .bool true])) := by
  have hix := Tryz.stringslite_Index_one s c w
  have hge := Lib.indexByte_ge s.data.toList c
  unfold maxLen at hs
  by_cases hneg : Lib.indexByte s.data.toList c < 0
  · have HC := Lib.hid (cut_none hneg)
    have hd : decide ((0 : Int) ≤ Lib.indexByte s.data.toList c) = false := decide_eq_false (by omega)
    generalize Lib.indexByte s.data.toList c = j at *
    have hj : ¬ 0 ≤ j := by omega
    go_enter Tryz.func191, Tryz.ntmps191
    go_wp2_with (go_at_call 243; refine hix.mono ?_; rintro e w' ⟨rfl, rfl⟩)
    go_ret3
    exact ⟨Below.refl _ _, .inl ⟨HC.out, rfl⟩⟩
  · obtain ⟨i, hi⟩ : ∃ i : Nat, Lib.indexByte s.data.toList c = (i : Int) := ⟨(Lib.indexByte s.data.toList c).toNat, by omega⟩
    obtain ⟨_, hs2⟩ := spl_some hi
    have hil : i < s.size := by simpa using hs2
    have HC := Lib.hid (cut_some hi)
    rw [hi] at hix
    clear hneg hge hi hs2
    have w2 : IntKind.i64.wrap ((i : Int) + 1) = (i : Int) + 1 := IntWalk.i64_in _ (by omega)
    have hii : (i : Int) ≤ (s.size : Int) := by omega
    have hi1 : (i : Int) + 1 ≤ (s.size : Int) := by omega
    have hi2 : ((i : Int) + 1).toNat = i + 1 := by omega
    have hi0 : (0 : Int) ≤ (i : Int) := by omega
    have hi3 : (0 : Int) ≤ (i : Int) + 1 := by omega
    have hd : decide ((0 : Int) ≤ (i : Int)) = true := decide_eq_true hi0
    go_enter Tryz.func191, Tryz.ntmps191
    go_wp2_with (go_at_call 243; refine hix.mono ?_; rintro e w' ⟨rfl, rfl⟩)
    go_quiet (fail)
    go_wp2
    go_ret3
    exact ⟨below_drewN (Below.refl _ _) _, .inr ⟨_, _, HC.out, rfl⟩⟩
theorem strings_Cut1 (s : ByteArray) (c : UInt8) (w : World) (hs : s.size ≤ maxLen) :
    Calls Tryz.prog 130 #[.string s, .string ⟨#[c]⟩] w fun e w' => Below w.heap.size w w' ∧
      ((cutAt c s = none ∧ e = .returned (.tuple #[.string s, .string ⟨#[]⟩, .bool false])) ∨ ∃ p q, cutAt c s = some (p, q) ∧ e = .returned (.tuple #[.string p, .string q, .bool true])) := by
  have h := stringslite_Cut1 s c w hs
  go_enter Tryz.func130, Tryz.ntmps130
  go_wp2_with (go_at_call 191; refine h.mono ?_; rintro e w' ⟨hb, ⟨hc, rfl⟩ | ⟨p, q, hc, rfl⟩⟩)
  all_goals
    go_wp2
    go_ret3
  · exact ⟨hb, .inl ⟨hc, rfl⟩⟩
  · exact ⟨hb, .inr ⟨_, _, hc, rfl⟩⟩

end Go.Proofs.YtpinkbodbedajaaGreatDoor

namespace Go.Proofs.YtpinkbodbedajaaGreatDoor
open Go.RowKit Go.Shelf
attribute [local go_sem] Oper.semAt_some

/-- 'append' under a fence, of one element, to a row of the call's own. -/
theorem wpListIn_append1 {α : Type} [Flat α] {F : Fence} {n : Nat} {P : Program} {w : World} {ops : Array Oper} {rest : List Oper} {o : Oper} {a : Act} {Q : Exit → Act → World → Prop} (hgd : o.guard = none) (s x : Operand) (t : TypeId)
    (ho : o.op = .call { callee := .builtin .append, args := #[s, x], argTypes := #[t, t] })
    (base : Nat) (e : TypeId) (i : TypeInfo) (z : Value) (bytes : Nat) (ht : P.underlying t = some (.slice e)) (hi : P.info? e = some i) (hz : i.zero = some z)
    (hsize : i.size = El.size α) (hby : i.bytes = bytes) (hzs : z.cells.size = El.size α) (hsz : 0 < El.size α)
    (v : Value) (xs : List α) (y : α) (hs : a.eval s = v) (hown : own e base w v xs)
    (ad : Addr) (c : Nat) (cs : List Value) (hx : a.eval x = .slice (some ad) 1 c) (hel : El.el w w.heap.size y cs) (hnews : ∀ j u, cs[j]? = some u → w.cell? (ad.add j) = some u)
    (h63 : xs.length + 1 ≤ maxLen) (hbytes : (xs.length + 1) * bytes ≤ 140737488355328) (hbase : base ≤ w.heap.size)
    (h : ∀ v' w', own e base w' v' (xs ++ [y]) → w.grownBy w' v.ownBlock → wpListIn F n P ops Q rest (a.put o.dst v') w') : wpListIn F n P ops Q (o :: rest) a w := by
  obtain ⟨css, hrow, hl, he⟩ := hown
  refine wpListIn_append_own (F := F) (n := n) w hgd s x t ho base e i z (El.size α) bytes ht hi hz hsize hby hzs hsz v xs.length css.flatten hs hrow ad 1 c cs hx (by rw [El.len hel, Nat.one_mul]) hnews (El.one hel) h63 hbytes hbase ?_
  intro v' w' h2 h3 _
  refine h v' w' ⟨css ++ [cs], by simpa using h2, by simp [hl], fun k h1 h2 => ?_⟩ h3
  by_cases hk : k < xs.length
  · rw [List.getElem_append_left hk, List.getElem_append_left (by omega)]
    exact Flat.free (he k hk (by omega))
  · have hke : k = xs.length := by simp at h1; omega
    subst hke
    rw [List.getElem_append_right (Nat.le_refl _), List.getElem_append_right (by omega)]
    simpa [hl] using Flat.free hel
theorem own_isCells {α : Type} [El α] {T base : Nat} {w : World} {v : Value} {xs : List α} (h : own T base w v xs) {k : Nat} (hk : v.ownBlock = some k) : ∃ o : Obj, w.heap[k]? = some o ∧ o.isCells = true := by
  obtain ⟨css, ⟨h1, h2⟩, _⟩ := h
  rcases h2 with ⟨rfl, _⟩ | ⟨g, cap, cur, rfl, hg, hh, _⟩
  · cases hk
  · injection hk with hk
    subst hk
    exact ⟨_, hh, rfl⟩

/-! ### What is parsed -/
def partR (x : ByteArray) : Option Fwd := (cutAt 62 x).map fun p => ⟨p.1, p.2⟩
def allR (ps : List ByteArray) : Bool := ps.all fun x => (partR x).isSome
def gotR (ps : List ByteArray) : List Fwd := ps.filterMap partR
def prSome (t : ByteArray) : Bool := allR (partsB 32 t) && decide ((partsB 32 t).length ≤ 20) && rulesOk (gotR (partsB 32 t))
def prOk (t : ByteArray) : Bool := sEq t ⟨#[45]⟩ || prSome t
def prR (t : ByteArray) : List Fwd := if sEq t ⟨#[45]⟩ then [] else if prSome t then gotR (partsB 32 t) else []
theorem gotR_len : ∀ ps : List ByteArray, allR ps = true → (gotR ps).length = ps.length
  | [], _ => rfl
  | x :: ps, h => by
    unfold allR at h
    rw [List.all_cons, Bool.and_eq_true] at h
    obtain ⟨y, hy⟩ := Option.isSome_iff_exists.1 h.1
    unfold gotR
    rw [List.filterMap_cons, hy]
    show (gotR ps).length + 1 = _
    rw [gotR_len ps h.2]
    rfl
theorem gotR_snoc {ps : List ByteArray} {x : ByteArray} {y : Fwd} (h : partR x = some y) : gotR (ps ++ [x]) = gotR ps ++ [y] := by
  unfold gotR
  rw [List.filterMap_append]
  simp [h]
theorem allR_snoc (ps : List ByteArray) (x : ByteArray) : allR (ps ++ [x]) = (allR ps && (partR x).isSome) := by
  unfold allR
  rw [List.all_append]
  simp
theorem allR_prefix {ps qs : List ByteArray} (h : ps <+: qs) (hf : allR ps = false) : allR qs = false := by
  obtain ⟨r, rfl⟩ := h
  unfold allR at *
  rw [List.all_append, hf]
  rfl

/-- What lies between two rounds. -/
def prI (h : Nat) (w0 : World) (B : Nat) (pre : List ByteArray) (W : World) : Prop :=
  (∃ v, Boxed W (h + 1 + 1) 100 v ∧ own 174 B W v (gotR pre)) ∧ B ≤ W.heap.size ∧ allR pre = true ∧ pre.length ≤ 20 ∧ Boxed W h 100 (.slice none 0 0) ∧ Boxed W (h + 1) 4 (.bool false) ∧ Below h w0 W
/-- .. where a round has returned. -/
def prX (h : Nat) (w0 : World) (pre : List ByteArray) (W : World) : Prop :=
  (allR pre = false ∨ 20 < pre.length) ∧ Boxed W h 100 (.slice none 0 0) ∧ Boxed W (h + 1) 4 (.bool false) ∧ Below h w0 W
theorem prI_bears {h B z : Nat} {w0 : World} (hz : h + 1 + 1 < z) (hzB : z < B) (hs : h ≤ w0.heap.size) : Bears B z (prI h w0 B) := by
  rintro pre A C row ⟨⟨v, hv, ho⟩, h0, h1, h2, h3, h4, h5⟩ hg hr
  have ne : ∀ k, k < z → some k ≠ row := fun k hk e => by
    rcases hr k e.symm with h | ⟨h, _⟩ <;> omega
  refine ⟨⟨v, hv.kept hg (ne _ (by omega)), ho.grown hg ?_⟩, Nat.le_trans h0 hg.size, h1, h2, h3.kept hg (ne _ (by omega)), h4.kept hg (ne _ (by omega)), h5.grown hg (Nat.le_trans hs h5.size) fun k e => ?_⟩
  · cases hb : v.ownBlock with
    | none => exact .inl rfl
    | some k =>
      refine .inr fun e => ?_
      have hk := (ho.blk k hb).1
      rcases hr k e.symm with h | ⟨_, o, ho1, ho2⟩
      · omega
      · obtain ⟨o', ho3, ho4⟩ := own_isCells ho hb
        rw [ho3] at ho1
        injection ho1 with ho1
        rw [ho1, ho2] at ho4
        cases ho4
  · rcases hr k e with h | ⟨h, _⟩ <;> omega
theorem prX_bears {h B z : Nat} {w0 : World} (hz : h + 1 + 1 < z) (hzB : z < B) (hs : h ≤ w0.heap.size) : Bears B z (prX h w0) := by
  rintro pre A C row ⟨h1, h3, h4, h5⟩ hg hr
  have ne : ∀ k, k < z → some k ≠ row := fun k hk e => by
    rcases hr k e.symm with h | ⟨h, _⟩ <;> omega
  refine ⟨h1, h3.kept hg (ne _ (by omega)), h4.kept hg (ne _ (by omega)), h5.grown hg (Nat.le_trans hs h5.size) fun k e => ?_⟩
  rcases hr k e with h | ⟨h, _⟩ <;> omega

theorem keeps_below {W W2 : World} (hb : Below W.heap.size W W2) : KeepsOthers W W2 :=
  ⟨hb.size, fun k o h _ => (hb.block k (Array.getElem?_eq_some_iff.1 h).1).trans h⟩
theorem set_two {W : World} {h : Nat} {T T' : TypeId} {u0 u1 : Value} (z0 : Boxed W h T u0) (z1 : Boxed W (h + 1) T' u1) (a b : Value) :
    Boxed ((W.setCell ⟨h, 0, none⟩ a).setCell ⟨h + 1, 0, none⟩ b) h T a ∧ Boxed ((W.setCell ⟨h, 0, none⟩ a).setCell ⟨h + 1, 0, none⟩ b) (h + 1) T' b ∧
      KeepsOthers W ((W.setCell ⟨h, 0, none⟩ a).setCell ⟨h + 1, 0, none⟩ b) ∧ ∀ B, B ≤ h → Below B W ((W.setCell ⟨h, 0, none⟩ a).setCell ⟨h + 1, 0, none⟩ b) := by
  refine ⟨(z0.set a).kept (grownBy_setCell' _ _ _) (by simp), Boxed.set b (z1.kept (grownBy_setCell' W h a) (by simp)), (KeepsOthers.setCell _ _ _).trans (KeepsOthers.setCell _ _ _), fun B hB => ?_⟩
  exact ((Below.refl B W).setCell (p := ⟨h, 0, none⟩) hB a).setCell (p := ⟨h + 1, 0, none⟩) (show B ≤ h + 1 by omega) b
theorem own_notD {α : Type} [El α] {T base D : Nat} {w : World} {v : Value} {xs : List α} (h : own T base w v xs) {ds : Option (List Deferred)} (hD : w.heap[D]? = some (.deferred ds)) : v.ownBlock = none ∨ v.ownBlock ≠ some D := by
  cases hb : v.ownBlock with
  | none => exact .inl rfl
  | some k =>
    refine .inr fun e => ?_
    injection e with e
    subst e
    obtain ⟨o, h1, h2⟩ := own_isCells h hb
    rw [hD] at h1
    injection h1 with h1
    rw [← h1] at h2
    cases h2
theorem cut_sizes {c : UInt8} {s p q : ByteArray} (h : cutAt c s = some (p, q)) : p.size ≤ s.size ∧ q.size ≤ s.size := by
  unfold cutAt at h
  split at h
  · cases h
  · injection h with h
    injection h with h1 h2
    rw [← h1, ← h2, ByteArray.size_extract, ByteArray.size_extract]
    omega

set_option maxRecDepth 100000 in
set_option maxHeartbeats 3200000 in
theorem impl_ParseRules (t : ByteArray) (w : World) (ht : t.size ≤ maxLen) :
    Calls Tryz.prog 250 #[.string t] w fun e w' => ∃ v', e = .returned (.tuple #[v', .bool (prOk t)]) ∧ own 174 w.heap.size w' v' (prR t) ∧ Below w.heap.size w w' := by
  refine (callsIn_wide (n := 9)).1 ?_
  have hn9 : 1 ≤ 9 := by omega
  refine callsIn_of_wp_marks Tryz.func250 rfl trivial ?_ rfl
  simp only [Tryz.ntmps250, List.size_toArray, List.length_cons, List.length_nil, Nat.reduceAdd, Nat.reduceSub, Array.replicate_succ, Array.replicate_zero, List.push_toArray, List.append_toArray, List.nil_append, List.cons_append]
  by_cases h45 : sEq t ⟨#[45]⟩ = true
  · have hO : prOk t = true := by unfold prOk; rw [h45]; rfl
    have hR : prR t = [] := by unfold prR; rw [if_pos h45]
    have HO := Lib.hid hO; have HR := Lib.hid hR
    clear hO hR
    have h46 : (t.toList == [45]) = true := by unfold sEq at h45; rw [ByteArray.toList_eq ⟨#[45]⟩] at h45; exact h45
    clear h45
    gi_wp2
    refine ⟨.tuple #[.slice none 0 0, .bool true], by simp [results, Tryz.results250, go_sem], _, by rw [HO.out], by rw [HR.out]; exact own.nil_ _ _ _, ?_⟩
    exact ((Below.refl _ w).alloc (Nat.le_refl _) _).alloc (by simp) _
  · have h46 : (t.toList == [45]) = false := by rw [Bool.not_eq_true] at h45; unfold sEq at h45; rw [ByteArray.toList_eq ⟨#[45]⟩] at h45; exact h45
    have HO : Hid (prOk t = prSome t) := by show _ = _; unfold prOk; rw [Bool.not_eq_true] at h45; rw [h45]; rfl
    have HR : Hid (prR t = if prSome t then gotR (partsB 32 t) else []) := by show _ = _; unfold prR; rw [if_neg h45]
    clear h45
    have HS := fun W => strings_SplitSeq t 32 W
    have b0 := ((Boxed.new w 100 (.slice none 0 0)).alloc (Obj.cells #[.bool false] 4)).alloc (Obj.cells #[.slice none 0 0] 100)
    have b1 := (Boxed.new (w.alloc (Obj.cells #[.slice none 0 0] 100)) 4 (.bool false)).alloc (Obj.cells #[.slice none 0 0] 100)
    have b2 := Boxed.new ((w.alloc (Obj.cells #[.slice none 0 0] 100)).alloc (Obj.cells #[.bool false] 4)) 100 (.slice none 0 0)
    have l3 : Below w.heap.size w (((w.alloc (Obj.cells #[.slice none 0 0] 100)).alloc (Obj.cells #[.bool false] 4)).alloc (Obj.cells #[.slice none 0 0] 100)) := (((Below.refl _ w).alloc (Nat.le_refl _) _).alloc (by simp) _).alloc (by simp; omega) _
    rw [World.size_alloc] at b1 b2
    rw [World.size_alloc] at b2
    have B0 := Lib.hid b0; have B1 := Lib.hid b1; have B2 := Lib.hid b2; have L3 := Lib.hid l3
    clear b0 b1 b2 l3
    gi_wp2_with (refine ⟨trivial, ?_⟩; gi_at_call 196; refine (callsIn_wide.2 (HS _)).mono ?_; rintro e w6 ⟨rfl, hcap, hb6, hz6⟩)
    have hz3 : (((w.alloc (Obj.cells #[.slice none 0 0] 100)).alloc (Obj.cells #[.bool false] 4)).alloc (Obj.cells #[.slice none 0 0] 100)).heap.size = w.heap.size + 1 + 1 + 1 := by simp
    generalize (((w.alloc (Obj.cells #[.slice none 0 0] 100)).alloc (Obj.cells #[.bool false] 4)).alloc (Obj.cells #[.slice none 0 0] 100)) = w3 at *
    rw [hz3] at hcap hz6
    have x0 : Boxed w6 (w.heap.size) 100 (.slice none 0 0) := (hb6.block _ (by omega)).trans B0.out
    have x1 : Boxed w6 (w.heap.size + 1) 4 (.bool false) := (hb6.block _ (by omega)).trans B1.out
    have x2 : Boxed w6 (w.heap.size + 1 + 1) 100 (.slice none 0 0) := (hb6.block _ (by omega)).trans B2.out
    have l6 : Below w.heap.size w w6 := L3.out.trans (hb6.mono (by omega))
    clear B0 B1 B2 L3 hb6 HS hz3
    obtain ⟨i0, hi, hi0, hi1, hi2⟩ := info_parts Tryz.infoRul
    refine range_iterZ (F := Fence.wide) (n := 9) rfl (by omega) (gf := 278) (lb := #[.pointer (some ⟨w.heap.size + 1 + 1 + 1 + 1, 0, none⟩), .pointer (some ⟨w.heap.size + 1 + 1 + 1, 0, none⟩), .pointer (some ⟨w.heap.size + 1 + 1 + 1 + 2, 0, none⟩)]) rfl trivial (enters_of Tryz.func278 (by kernel_rfl) rfl)
      (split_iter 8 (w.heap.size + 1 + 1 + 1) (by omega) 32 t w6 hcap ht) (fun k hk => by simp at hk; omega) (by omega) (fun _ => rfl)
      (prI w.heap.size w w6.heap.size) (prX w.heap.size w) (prI_bears (by omega) (by omega) (Nat.le_refl _)) (prX_bears (by omega) (by omega) (Nat.le_refl _))
      ⟨⟨_, x2, own.nil_ _ _ _⟩, Nat.le_refl _, rfl, Nat.zero_le _, x0, x1, l6⟩
      (fun x => { tmps := #[.string t, undef, .pointer (some ⟨w.heap.size, 0, none⟩), .pointer (some ⟨w.heap.size + 1, 0, none⟩), .pointer (some ⟨w.heap.size + 1 + 1, 0, none⟩), .string x, undef, undef, undef, .string t, .bool false, .string t, .func (.func 278) #[] #[.pointer (some ⟨w.heap.size + 1 + 1 + 1 + 1, 0, none⟩), .pointer (some ⟨w.heap.size + 1 + 1 + 1, 0, none⟩), .pointer (some ⟨w.heap.size + 1 + 1 + 1 + 2, 0, none⟩)], .string x, undef, undef, undef, undef, undef, undef, undef, undef, undef, undef, undef, undef, undef, undef, undef, undef, undef, undef, undef, undef, undef, undef, undef], defers := [] }) ?assign ?body ?done ?stop
    case assign =>
      intro l x W K hK
      gi_wp2
      exact hK
    case body =>
      rintro l pre x W ⟨⟨v, hv, ho⟩, hBW, hall, hlen, y0, y1, hB⟩ _ hx
      have hd : 1 ≤ 9 - 1 - 1 := by omega
      have HC := strings_Cut1 x 62 W hx
      have y0c := Lib.hid y0; have y1c := Lib.hid y1; have hvc := Lib.hid hv; have hoc := Lib.hid ho
      rcases hcx : cutAt 62 x with _ | ⟨p, q⟩
      · have HCn : Calls Tryz.prog 130 #[.string x, .string ⟨#[62]⟩] W fun e w' => Below W.heap.size W w' ∧ e = .returned (.tuple #[.string x, .string ⟨#[]⟩, .bool false]) := HC.mono fun e w' h => by
          obtain ⟨hb, ⟨_, he⟩ | ⟨p, q, h, _⟩⟩ := h
          · exact ⟨hb, he⟩
          · rw [hcx] at h; cases h
        have HP : Hid (allR (pre ++ [x]) = false) := by show _ = _; rw [allR_snoc]; unfold partR; rw [hcx]; simp
        clear HC hcx y0 y1 hv ho
        gi_wp2_with (refine ⟨trivial, ?_⟩; gi_at_call 130; refine (CallsIn.inRound l (callsIn_wide.2 HCn)).mono ?_; rintro e W2 ⟨hb, rfl⟩; have z0 : Boxed W2 _ _ _ := (hb.block _ y0c.out.lt).trans y0c.out; have z1 : Boxed W2 _ _ _ := (hb.block _ y1c.out.lt).trans y1c.out; have c0 := z0.cell; have c1 := z1.cell; have f0 := z0.frozen; have f1 := z1.frozen)
        obtain ⟨r0, r1, r2, r3⟩ := set_two z0 z1 (.slice none 0 0) (.bool false)
        exact ⟨(keeps_below hb).trans r2, .inl HP.out, r0, r1, (hB.trans (hb.mono hB.size)).trans (r3 _ (Nat.le_refl _))⟩
      · have HCn : Calls Tryz.prog 130 #[.string x, .string ⟨#[62]⟩] W fun e w' => Below W.heap.size W w' ∧ e = .returned (.tuple #[.string p, .string q, .bool true]) := HC.mono fun e w' h => by
          obtain ⟨hb, ⟨h, _⟩ | ⟨p', q', h, he⟩⟩ := h
          · rw [hcx] at h; cases h
          · rw [hcx] at h; cases h; exact ⟨hb, he⟩
        have hpx : partR x = some ⟨p, q⟩ := by unfold partR; rw [hcx]; rfl
        have hpq := cut_sizes hcx
        have HP := Lib.hid hpx
        have hgl := gotR_len pre hall
        obtain ⟨A, m, cp, rfl, hm, _, _, _⟩ := ho.rd
        clear HC hcx hpx y0 y1 hv ho
        by_cases h20 : m = 20
        · have hm20 : ((m : Int) == 20) = true := by simp [h20]
          have HL : Hid (20 < (pre ++ [x]).length) := by show _ < _; rw [List.length_append]; show 20 < pre.length + 1; omega
          clear h20 hm hgl hpq
          gi_wp2_with (refine ⟨trivial, ?_⟩; gi_at_call 130; refine (CallsIn.inRound l (callsIn_wide.2 HCn)).mono ?_; rintro e W2 ⟨hb, rfl⟩; have z0 : Boxed W2 _ _ _ := (hb.block _ y0c.out.lt).trans y0c.out; have z1 : Boxed W2 _ _ _ := (hb.block _ y1c.out.lt).trans y1c.out; have z2 : Boxed W2 _ _ _ := (hb.block _ hvc.out.lt).trans hvc.out; have c0 := z0.cell; have c1 := z1.cell; have c2 := z2.cell; have f0 := z0.frozen; have f1 := z1.frozen)
          obtain ⟨r0, r1, r2, r3⟩ := set_two z0 z1 (.slice none 0 0) (.bool false)
          exact ⟨(keeps_below hb).trans r2, .inr HL.out, r0, r1, (hB.trans (hb.mono hB.size)).trans (r3 _ (Nat.le_refl _))⟩
        · have hm20 : ((m : Int) == 20) = false := beq_eq_false_iff_ne.2 (by omega)
          have hg19 : (gotR pre).length ≤ 19 := by omega
          have HPL : Hid (pre.length ≤ 19) := by show _ ≤ _; omega
          have HY : Hid (Fwd.ok ⟨p, q⟩) := ⟨by show p.size ≤ _; omega, by show q.size ≤ _; omega⟩
          clear h20 hm hgl hpq
          gi_wp2_with (first | (refine ⟨trivial, ?_⟩; gi_at_call 130; refine (CallsIn.inRound l (callsIn_wide.2 HCn)).mono ?_; rintro e W2 ⟨hb, rfl⟩; have z0 : Boxed W2 _ _ _ := (hb.block _ y0c.out.lt).trans y0c.out; have z1 : Boxed W2 _ _ _ := (hb.block _ y1c.out.lt).trans y1c.out; have z2 : Boxed W2 _ _ _ := (hb.block _ hvc.out.lt).trans hvc.out; have c2 := z2.cell; have o2 := hoc.out.below hb; have hs2 := hb.size) | (gi_at_builtin; refine wpListIn_append1 (α := Fwd) rfl (.tmp 27) (.tmp 31) 100 rfl w6.heap.size 174 i0 _ 32 Tryz.underlying100 hi hi0 hi1 hi2 rfl (by decide) (.slice A m cp) (gotR pre) ⟨p, q⟩ rfl (o2.alloc _) ⟨W2.heap.size, 0, none⟩ 1 (Fwd.cells ⟨p, q⟩) rfl ⟨HY.out, rfl⟩ (news_at W2 _ (Fwd.cells ⟨p, q⟩)) (by unfold maxLen; omega) (by omega) (by simp; omega) ?_; intro v5 w5 o5 hg5; have u2 : Boxed w5 _ _ _ := (z2.alloc _).kept hg5 (fun e => by have := (o2.blk _ e.symm).1; omega); have e2 := u2.cell; have g2 := u2.frozen; obtain ⟨A5, n5, c5, rfl, -, -, -, -⟩ := o5.rd))
          have hk5 : ∀ k, k < w6.heap.size → k ≠ w.heap.size + 1 + 1 → (w5.setCell ⟨w.heap.size + 1 + 1, 0, none⟩ (.slice A5 n5 c5)).heap[k]? = W.heap[k]? := fun k h1 h2 => by
            have a1 := (grownBy_setCell' w5 (w.heap.size + 1 + 1) (.slice A5 n5 c5)).block k (by have := hg5.size; simp at this; omega) (fun e => h2 (by injection e))
            have a2 := hg5.block k (by simp; omega) (fun e => by have := (o2.blk _ e.symm).1; omega)
            exact a1.trans (a2.trans ((Below.heap_alloc W2 _ k (by omega)).trans (hb.block k (by omega))))
          have hko : KeepsOthers W (w5.setCell ⟨w.heap.size + 1 + 1, 0, none⟩ (.slice A5 n5 c5)) := (((keeps_below hb).trans (KeepsOthers.alloc W2 _)).trans (KeepsOthers.of_grownBy hg5 fun j o ej hj => by
            obtain ⟨o', h1, h2⟩ := own_isCells (o2.alloc (Obj.cells #[.string p, .string q] 174)) ej
            rw [h1] at hj; injection hj with hj; rw [← hj]; exact h2)).trans (KeepsOthers.setCell _ _ _)
          refine ⟨hko, fun k hk => hk5 k (by simp at hk; omega) (by simp at hk; omega), ⟨_, u2.set _, ?_⟩, ?_, ?_, ?_, ?_, ?_, ?_⟩
          · rw [gotR_snoc HP.out]
            exact own_out o5 ⟨w.heap.size + 1 + 1, 0, none⟩ _ (by show w.heap.size + 1 + 1 < _; omega)
          · have := hg5.size; simp at this; simp; omega
          · rw [allR_snoc, hall, HP.out]; rfl
          · have := HPL.out; rw [List.length_append]; show pre.length + 1 ≤ 20; omega
          · exact (hk5 _ (by omega) (by omega)).trans y0c.out
          · exact (hk5 _ (by omega) (by omega)).trans y1c.out
          · refine hB.trans ⟨?_, ?_, ?_, ?_, fun k h1 => hk5 k (by omega) (by omega)⟩
            · exact hg5.os.trans hb.os
            · exact hg5.tape.trans hb.tape
            · exact hg5.output.trans hb.output
            · exact hko.1
    case done =>
      rintro D ys W hD rfl ⟨⟨v, hv, ho⟩, hBW, hall, hlen, y0, y1, hB⟩ hK
      have hPS : prSome t = rulesOk (gotR (partsB 32 t)) := by unfold prSome; rw [hall, decide_eq_true hlen]; rfl
      obtain ⟨A, m, cp, rfl, -, -, -, -⟩ := ho.rd
      have HV := impl_RulesValid (.slice A m cp) (gotR (partsB 32 t)) W ho.rd
      have y0c := Lib.hid y0; have y1c := Lib.hid y1; have hvc := Lib.hid hv; have hoc := Lib.hid ho
      have c2 := hv.cell
      clear hall hlen ho hv y0 y1
      cases hro : rulesOk (gotR (partsB 32 t))
      · rw [hro] at HV hPS
        have HPS := Lib.hid hPS
        clear hPS hro
        dsimp only
        gi_wp2_with (refine ⟨trivial, ?_⟩; gi_at_call 150; refine (callsIn_wide.2 HV).mono ?_; rintro e W2 ⟨rfl, hb⟩; have z0 : Boxed W2 _ _ _ := (hb.block _ y0c.out.lt).trans y0c.out; have z1 : Boxed W2 _ _ _ := (hb.block _ y1c.out.lt).trans y1c.out; have z2 : Boxed W2 _ _ _ := (hb.block _ hvc.out.lt).trans hvc.out; have c0 := z0.cell; have c1 := z1.cell; have c2 := z2.cell; have f0 := z0.frozen; have f1 := z1.frozen)
        obtain ⟨r0, r1, r2, r3⟩ := set_two z0 z1 (.slice none 0 0) (.bool false)
        have hD2 : ((W2.setCell ⟨w.heap.size, 0, none⟩ (.slice none 0 0)).setCell ⟨w.heap.size + 1, 0, none⟩ (.bool false)).heap[D]? = some (.deferred (some [])) := r2.same _ _ ((keeps_below hb).same _ _ hK rfl) rfl
        have k0 := (r0.kept (grownBy_putObj' ((W2.setCell ⟨w.heap.size, 0, none⟩ (.slice none 0 0)).setCell ⟨w.heap.size + 1, 0, none⟩ (.bool false)) D (.deferred none)) (fun e => by injection e; omega)).cell
        have k1 := (r1.kept (grownBy_putObj' ((W2.setCell ⟨w.heap.size, 0, none⟩ (.slice none 0 0)).setCell ⟨w.heap.size + 1, 0, none⟩ (.bool false)) D (.deferred none)) (fun e => by injection e; omega)).cell
        have hBz : Below w.heap.size w (((W2.setCell ⟨w.heap.size, 0, none⟩ (.slice none 0 0)).setCell ⟨w.heap.size + 1, 0, none⟩ (.bool false)).putObj D (.deferred none)) := ((hB.trans (hb.mono hB.size)).trans (r3 _ (Nat.le_refl _))).grown (grownBy_putObj' _ _ _) (by have := ((hB.trans (hb.mono hB.size)).trans (r3 _ (Nat.le_refl _))).size; omega) (fun r e => by injection e; omega)
        refine ⟨by simp, .inl ⟨_, _, rfl, run_takeDeferred hD2, ?_⟩⟩
        refine ⟨.tuple #[.slice none 0 0, .bool false], by simp [results, Tryz.results250, go_sem, k0, k1], _, by rw [HO.out, HPS.out], by rw [HR.out, HPS.out]; exact own.nil_ _ _ _, hBz⟩
      · rw [hro] at HV hPS
        have HPS := Lib.hid hPS
        clear hPS hro
        dsimp only
        gi_wp2_with (refine ⟨trivial, ?_⟩; gi_at_call 150; refine (callsIn_wide.2 HV).mono ?_; rintro e W2 ⟨rfl, hb⟩; have z0 : Boxed W2 _ _ _ := (hb.block _ y0c.out.lt).trans y0c.out; have z1 : Boxed W2 _ _ _ := (hb.block _ y1c.out.lt).trans y1c.out; have z2 : Boxed W2 _ _ _ := (hb.block _ hvc.out.lt).trans hvc.out; have c0 := z0.cell; have c1 := z1.cell; have c2 := z2.cell; have f0 := z0.frozen; have f1 := z1.frozen)
        obtain ⟨r0, r1, r2, r3⟩ := set_two z0 z1 (.slice A m cp) (.bool true)
        have o2 := hoc.out.below hb
        have oz := own_out (own_out o2 ⟨w.heap.size, 0, none⟩ (.slice A m cp) (by show w.heap.size < _; omega)) ⟨w.heap.size + 1, 0, none⟩ (.bool true) (by show w.heap.size + 1 < _; omega)
        have hD2 : ((W2.setCell ⟨w.heap.size, 0, none⟩ (.slice A m cp)).setCell ⟨w.heap.size + 1, 0, none⟩ (.bool true)).heap[D]? = some (.deferred (some [])) := r2.same _ _ ((keeps_below hb).same _ _ hK rfl) rfl
        have k0 := (r0.kept (grownBy_putObj' ((W2.setCell ⟨w.heap.size, 0, none⟩ (.slice A m cp)).setCell ⟨w.heap.size + 1, 0, none⟩ (.bool true)) D (.deferred none)) (fun e => by injection e; omega)).cell
        have k1 := (r1.kept (grownBy_putObj' ((W2.setCell ⟨w.heap.size, 0, none⟩ (.slice A m cp)).setCell ⟨w.heap.size + 1, 0, none⟩ (.bool true)) D (.deferred none)) (fun e => by injection e; omega)).cell
        have hBz : Below w.heap.size w (((W2.setCell ⟨w.heap.size, 0, none⟩ (.slice A m cp)).setCell ⟨w.heap.size + 1, 0, none⟩ (.bool true)).putObj D (.deferred none)) := ((hB.trans (hb.mono hB.size)).trans (r3 _ (Nat.le_refl _))).grown (grownBy_putObj' _ _ _) (by have := ((hB.trans (hb.mono hB.size)).trans (r3 _ (Nat.le_refl _))).size; omega) (fun r e => by injection e; omega)
        refine ⟨by simp, .inl ⟨_, _, rfl, run_takeDeferred hD2, ?_⟩⟩
        refine ⟨.tuple #[.slice A m cp, .bool true], by simp [results, Tryz.results250, go_sem, k0, k1], _, by rw [HO.out, HPS.out], by rw [HR.out, HPS.out, if_pos rfl]; exact (oz.grown (grownBy_putObj' _ D _) (own_notD oz hD2)).base_ (by omega), hBz⟩
    case stop =>
      rintro D pre W hD hpre ⟨hbad, y0, y1, hB⟩ hK
      have hPS : prSome t = false := by
        unfold prSome
        rcases hbad with h | h
        · rw [allR_prefix hpre h]; rfl
        · have := hpre.length_le
          rw [decide_eq_false (by omega)]
          simp
      have HPS := Lib.hid hPS
      have k0 := (y0.kept (grownBy_putObj' W D (.deferred none)) (fun e => by injection e; omega)).cell
      have k1 := (y1.kept (grownBy_putObj' W D (.deferred none)) (fun e => by injection e; omega)).cell
      have hBz : Below w.heap.size w (W.putObj D (.deferred none)) := hB.grown (grownBy_putObj' _ _ _) hB.size (fun r e => by injection e; omega)
      clear hPS hbad hpre
      dsimp only
      gi_wp2
      refine ⟨by simp, .inl ⟨_, _, rfl, run_takeDeferred hK, ?_⟩⟩
      refine ⟨.tuple #[.slice none 0 0, .bool false], by simp [results, Tryz.results250, go_sem, k0, k1], _, by rw [HO.out, HPS.out], by rw [HR.out, HPS.out]; exact own.nil_ _ _ _, hBz⟩

end Go.Proofs.YtpinkbodbedajaaGreatDoor

namespace Go.Proofs.YtpinkbodbedajaaGreatDoor
open Go.RowKit

/-! ### Plain facts -/
theorem decDigits_dec : ∀ n : Nat, Lib.decDigits n = decL n := by
  intro n
  induction n using Nat.strongRecOn with
  | _ n ih =>
    rw [Lib.decDigits]
    by_cases h : n < 10
    · rw [dif_pos h]
      unfold decL
      by_cases h0 : n = 0
      · rw [if_pos h0, h0]; rfl
      · rw [if_neg h0, dec10_small (by omega) (by omega)]
        unfold b8
        rw [show (48 + (n : Int)).toNat = 48 + n by omega]
    · rw [dif_neg h, ih (n / 10) (by omega)]
      unfold decL
      rw [if_neg (by omega), if_neg (by omega), dec10_step (n := n) (by omega)]
theorem itoa_dec (n : Nat) : (⟨(Lib.itoa (n : Int)).toArray⟩ : ByteArray) = decB n := by
  unfold Lib.itoa decB
  rw [if_neg (by omega), Int.toNat_natCast, decDigits_dec]
theorem inter_snoc {α : Type} (sep x : List α) : ∀ (l : List (List α)), l ≠ [] → sep.intercalate (l ++ [x]) = sep.intercalate l ++ sep ++ x
  | [], h => absurd rfl h
  | [a], _ => by simp [List.intercalate, List.intersperse]
  | a :: b :: l, _ => by
    have ih := inter_snoc sep x (b :: l) (by simp)
    have e : ∀ (c : List α) (m : List (List α)), sep.intercalate (a :: c :: m) = a ++ sep ++ sep.intercalate (c :: m) := fun c m => by
      simp [List.intercalate, List.intersperse]
    rw [List.cons_append, List.cons_append, e, ← List.cons_append, ih, e]
    simp only [List.append_assoc]
/-- Parts with a separator between them. -/
def joinT (ps : List ByteArray) (sep : ByteArray) : ByteArray := ⟨(Lib.join (ps.map (·.data.toList)) sep.data.toList).toArray⟩
theorem joinT_nil (sep : ByteArray) : joinT [] sep = ⟨#[]⟩ := by
  unfold joinT Lib.join; rfl
theorem joinT_one (p sep : ByteArray) : joinT [p] sep = p := by
  refine ba_ext ?_
  simp [joinT, Lib.join, List.intercalate, List.intersperse]
theorem joinT_snoc (ps : List ByteArray) (p sep : ByteArray) (h : ps ≠ []) : joinT (ps ++ [p]) sep = joinT ps sep ++ sep ++ p := by
  refine ba_ext ?_
  rw [ba_append, ba_append]
  unfold joinT Lib.join
  rw [List.map_append, List.map_cons, List.map_nil, inter_snoc _ _ _ (by simpa using h)]
theorem joinT_size (ps : List ByteArray) (sep : ByteArray) (m : Nat) (h : ∀ p ∈ ps, p.size ≤ m) : (joinT ps sep).size ≤ ps.length * (m + sep.size) := by
  have key : ∀ l : List ByteArray, (∀ p ∈ l, p.size ≤ m) → (joinT l.reverse sep).size ≤ l.length * (m + sep.size) := fun l => by
    induction l with
    | nil => intro _; rw [List.reverse_nil, joinT_nil]; exact Nat.zero_le _
    | cons p l ih =>
      intro hl
      have ih := ih fun q hq => hl q (List.mem_cons_of_mem _ hq)
      have hp := hl p List.mem_cons_self
      rw [List.reverse_cons, List.length_cons, Nat.add_mul, Nat.one_mul]
      by_cases h0 : l.reverse = []
      · rw [h0, List.nil_append, joinT_one]; omega
      · rw [joinT_snoc _ _ _ h0, ByteArray.size_append, ByteArray.size_append]; omega
  have := key ps.reverse (fun p hp => h p (by simpa using hp))
  rwa [List.reverse_reverse, List.length_reverse] at this
theorem joinT_len (ps : List ByteArray) (sep : ByteArray) : (Lib.join (ps.map (·.data.toList)) sep.data.toList).length = (joinT ps sep).size := List.size_toArray.symm

/-- A letter as a text. -/
def fmtL (x : Ltr) : ByteArray := decB x.id.toNat ++ ⟨#[58]⟩ ++ x.code
theorem dec10_size {n : Nat} (h : n ≤ 9999) : (decB n).size ≤ 4 ∧ 1 ≤ (decB n).size := by
  have key : ∀ (f m : Nat), m < 10 ^ f → (dec10 m).length ≤ f ∧ (0 < m → 1 ≤ (dec10 m).length) := fun f => by
    induction f with
    | zero => intro m hm; have : m = 0 := by simp at hm; exact hm
              subst this; exact ⟨by rw [dec10]; simp, fun h => by omega⟩
    | succ f ih =>
      intro m hm
      by_cases h0 : m = 0
      · subst h0; exact ⟨by rw [dec10]; simp, fun h => by omega⟩
      · have hd : m / 10 < 10 ^ f := by
          rw [Nat.pow_succ] at hm
          exact Nat.div_lt_of_lt_mul (by omega)
        have := (ih (m / 10) hd).1
        rw [dec10_step (by omega), List.length_append]
        exact ⟨by simp; omega, fun _ => by simp⟩
  have hk := key 4 n (by omega)
  have hs : (decB n).size = (decL n).length := List.size_toArray
  rw [hs]
  unfold decL
  by_cases h0 : n = 0
  · rw [if_pos h0]; simp
  · rw [if_neg h0]; exact ⟨hk.1, hk.2 (by omega)⟩
theorem fmtL_size {x : Ltr} (h : x.id ≤ 9999) (hc : x.code.size = 7) : (fmtL x).size ≤ 12 ∧ 1 ≤ (fmtL x).size := by
  have := dec10_size (n := x.id.toNat) (by omega)
  unfold fmtL
  rw [ByteArray.size_append, ByteArray.size_append, hc]
  show _ + 1 + 7 ≤ 12 ∧ 1 ≤ _ + 1 + 7
  omega
def spT : ByteArray := ⟨#[32]⟩
/-- A batch as a text; nothing if it is none. -/
def fmtB (xs : List Ltr) : ByteArray := if okB xs = true then (if xs.length = 0 then ⟨#[45]⟩ else joinT (xs.map fmtL) spT) else ⟨#[]⟩
theorem fmtB_no {xs : List Ltr} (h : okB xs = false) : fmtB xs = ⟨#[]⟩ := by unfold fmtB; rw [h]; rfl
theorem fmtB_empty {xs : List Ltr} (h : okB xs = true) (h0 : xs.length = 0) : fmtB xs = ⟨#[45]⟩ := by unfold fmtB; rw [if_pos h, if_pos h0]
theorem fmtB_some {xs : List Ltr} (h : okB xs = true) (h0 : xs.length ≠ 0) : fmtB xs = joinT (xs.map fmtL) spT := by unfold fmtB; rw [if_pos h, if_neg h0]
theorem okB_fmt {xs : List Ltr} (h : okB xs = true) : ∀ p ∈ xs.map fmtL, p.size ≤ 12 ∧ 1 ≤ p.size := fun p hp => by
  obtain ⟨x, hx, rfl⟩ := List.mem_map.1 hp
  obtain ⟨k, hk, rfl⟩ := List.getElem_of_mem hx
  have h1 := (okB_iff.1 h).2 k hk
  have h2 := h1.2.2.1
  unfold isCode at h2
  rw [Bool.and_eq_true, beq_iff_eq] at h2
  exact fmtL_size h1.2.1 h2.1
theorem fmtB_size (xs : List Ltr) : (fmtB xs).size ≤ 1000 := by
  cases h : okB xs
  · rw [fmtB_no h]; exact Nat.zero_le _
  · by_cases h0 : xs.length = 0
    · rw [fmtB_empty h h0]; exact (by decide : (1 : Nat) ≤ 1000)
    · rw [fmtB_some h h0]
      have h1 := joinT_size (xs.map fmtL) spT 12 fun p hp => (okB_fmt h p hp).1
      have h2 := (okB_iff.1 h).1
      rw [List.length_map] at h1
      have h3 : xs.length * (12 + spT.size) ≤ 60 * 13 := Nat.mul_le_mul h2 (Nat.le_refl _)
      omega
/-- The text of the first letters, as the reference writes it. -/
def preB (xs : List Ltr) (k : Nat) : ByteArray := joinT ((xs.take k).map fmtL) spT
theorem preB_zero (xs : List Ltr) : preB xs 0 = ⟨#[]⟩ := joinT_nil _
theorem preB_one {xs : List Ltr} (h : 0 < xs.length) : preB xs 1 = fmtL xs[0] := by
  unfold preB
  rw [List.take_succ_eq_append_getElem h, List.take_zero, List.nil_append, List.map_cons, List.map_nil, joinT_one]
theorem preB_succ {xs : List Ltr} {k : Nat} (h : k < xs.length) (h0 : 0 < k) : preB xs (k + 1) = preB xs k ++ spT ++ fmtL xs[k] := by
  unfold preB
  rw [List.take_succ_eq_append_getElem h, List.map_append, List.map_cons, List.map_nil, joinT_snoc]
  intro e
  have := congrArg List.length e
  rw [List.length_map, List.length_take, List.length_nil] at this
  omega
theorem preB_size {xs : List Ltr} (h : okB xs = true) (k : Nat) : (preB xs k).size ≤ 780 := by
  have h1 := joinT_size ((xs.take k).map fmtL) spT 12 fun p hp => (okB_fmt h p (by
    obtain ⟨x, hx, rfl⟩ := List.mem_map.1 hp
    exact List.mem_map.2 ⟨x, List.mem_of_mem_take hx, rfl⟩)).1
  have h2 := (okB_iff.1 h).1
  rw [List.length_map] at h1
  have h3 : (xs.take k).length * (12 + spT.size) ≤ 60 * 13 := Nat.mul_le_mul (by rw [List.length_take]; omega) (Nat.le_refl _)
  unfold preB
  omega
theorem preB_pos {xs : List Ltr} (h : okB xs = true) (h0 : 0 < xs.length) : 1 ≤ (preB xs xs.length).size := by
  obtain ⟨k, hk⟩ : ∃ k, xs.length = k + 1 := ⟨xs.length - 1, by omega⟩
  rw [hk]
  have hp : ∀ (j : Nat) (hj : j < xs.length), 1 ≤ (fmtL xs[j]).size := fun j hj => (okB_fmt h _ (List.mem_map.2 ⟨_, List.getElem_mem hj, rfl⟩)).2
  by_cases hk0 : k = 0
  · subst hk0
    rw [preB_one h0]; exact hp 0 h0
  · rw [preB_succ (by omega) (by omega), ByteArray.size_append]
    have := hp k (by omega)
    omega

end Go.Proofs.YtpinkbodbedajaaGreatDoor

namespace Go.Proofs.YtpinkbodbedajaaGreatDoor
open Go.RowKit

/-- The library's table of powers of ten lies where it lay. -/
def TabW (w : World) : Prop := Lib.TabIs Tryz.prog w "internal/strconv.uint64pow10" .u64 Lib.pow10Tab
theorem TabW.on {w w' : World} (h : TabW w) (hb : Below w.heap.size w w') : TabW w' :=
  Go.Joins.tab_stays (g := 2) (by kernel_rfl) h hb (Nat.le_refl _)
theorem below_grow (w : World) (k : Nat) (os : Array Obj) : Below w.heap.size w (Go.Sort.grow (w.drewN k) os) := by
  have h := below_drewN (Below.refl w.heap.size w) k
  refine ⟨h.os, h.tape, h.output, ?_, fun i hi => ?_⟩
  · show _ ≤ ((w.drewN k).heap ++ os).size
    rw [Array.size_append]
    have := h.size
    omega
  · show ((w.drewN k).heap ++ os)[i]? = _
    rw [Array.getElem?_append_left (by have := h.size; omega)]
    exact h.block i hi
theorem strconv_ItoaN (n : Nat) (w : World) (hn : n ≤ 9999) (ht : TabW w) :
    Calls Tryz.prog 56 #[.int .i64 (n : Int)] w fun e w' => e = .returned (.string (decB n)) ∧ Below w.heap.size w w' := by
  refine (Tryz.strconv_Itoa (n : Int) (by omega) (by omega) w ht).mono ?_
  rintro e w' ⟨rfl, k, os, rfl⟩
  exact ⟨by rw [itoa_dec], below_grow w k os⟩

theorem join_own {T base g n c : Nat} {w : World} {ps : List ByteArray} {sep : ByteArray} (h : own T base w (.slice (some ⟨g, 0, none⟩) n c) ps) (hn : n = ps.length) (hN : ps.length ≤ 1048576) (hs : (joinT ps sep).size ≤ 140737488355328) :
    Calls Tryz.prog 57 #[.slice (some ⟨g, 0, none⟩) n c, .string sep] w fun e w' => e = .returned (.string (joinT ps sep)) ∧ Below w.heap.size w w' := by
  obtain ⟨A', n', c', hv, hn', hc, hm, hr⟩ := h.rd
  injection hv with e1 e2 e3
  subst e1 e2 e3 hn
  have hg : g < w.heap.size := (h.blk g rfl).2
  refine Tryz.strings_Join g 0 c ps sep w (fun j x hx => ?_) hg (by omega) hc (by rw [joinT_len]; exact hs)
  · obtain ⟨hj, rfl⟩ := List.getElem?_eq_some_iff.1 hx
    obtain ⟨b, o, hA, _, _, c1⟩ := hr.str j hj
    injection hA with hA
    injection hA with hA1 hA2
    subst hA1 hA2
    exact c1

set_option maxRecDepth 100000 in
set_option maxHeartbeats 1600000 in
theorem impl_FormatBatch (v : Value) (xs : List Ltr) (w : World) (hv : rd w w.heap.size v xs) (ht : TabW w) :
    Calls Tryz.prog 12 #[v] w fun e w' => e = .returned (.string (fmtB xs)) ∧ Below w.heap.size w w' := by
  have HV := Lib.hid hv
  obtain ⟨A, n, c, rfl, hn, hc, hm, hr⟩ := hv
  subst hn
  have HR := Lib.hid hr; clear hr
  have HT := Lib.hid ht; clear ht
  obtain ⟨i0, hi, hz0, hz1, hz2⟩ := info_parts Tryz.infoStr
  have l0 := Below.refl w.heap.size w
  go_enter Tryz.func12, Tryz.ntmps12
  go_wp2_with fail
  refine (impl_BatchValid _ xs _ HV.out).mono ?_
  rintro e w1 ⟨rfl, b1⟩
  have l1 := b1
  clear b1 l0
  cases hok : okB xs
  · have HF := Lib.hid (fmtB_no hok)
    clear hok
    go_wp2_with fail
    go_ret
    exact ⟨ret_str HF.out.symm, l1⟩
  have HOK := Lib.hid hok
  have h60 := (okB_iff.1 hok).1
  by_cases h0 : xs.length = 0
  · have HF := Lib.hid (fmtB_empty hok h0)
    have hl0 : ((xs.length : Int) == 0) = true := by rw [h0]; rfl
    clear hok h0
    go_wp2_with fail
    go_ret
    exact ⟨ret_str HF.out.symm, l1⟩
  have HF := Lib.hid (fmtB_some hok h0)
  have hl0 : ((xs.length : Int) == 0) = false := beq_eq_false_iff_ne.2 (by omega)
  have hpos : 0 < xs.length := by omega
  clear hok h0
  have hmk := make_row (P := Tryz.prog) 23 9 i0 _ Tryz.underlying23 hi hz0 xs.length (by rw [hz2]; omega) (by omega)
  go_wp2_with fail
  have hf0 : filled 9 (w1.alloc (Obj.cells (madeCells #[.string ⟨#[]⟩] xs.length) 9)) w1.heap.size xs.length 0 (xs.map fmtL) := filled.made w1 _ _ _ (by rw [size_madeCells]; exact (Nat.mul_one _).symm) _
  have hb0 : Below w1.heap.size w1 (w1.alloc (Obj.cells (madeCells #[.string ⟨#[]⟩] xs.length) 9)) := (Below.refl _ _).alloc (Nat.le_refl _) _
  generalize w1.alloc (Obj.cells (madeCells #[.string ⟨#[]⟩] xs.length) 9) = w0 at *
  clear hmk
  have HLN : Hid ((xs.map fmtL).length = xs.length) := by show _ = _; rw [List.length_map]
  go_loopw [17] (fun i wr => ∃ k : Nat, k ≤ xs.length ∧ i = .int .i64 k ∧ Below w1.heap.size w1 wr ∧ filled 9 wr w1.heap.size xs.length k (xs.map fmtL)) (fun i _ => xs.length - (intOf i).toNat)
  case atStart => exact ⟨0, Nat.zero_le _, rfl, hb0, hf0⟩
  case round =>
    obtain ⟨k, hk, rfl, hbl, hf⟩ := hrel
    obtain ⟨w2, rfl⟩ : ∃ w2 : World, w2 = wr := ⟨_, rfl⟩
    clear hf0 hb0
    have hs1 := l1.size
    by_cases hlt : k < xs.length
    · obtain ⟨b, o, rfl, hb, ⟨⟨hi1, hi2⟩, hcz⟩, y1, y2⟩ := HR.out.ltrU k hlt
      have y1 := y1 w2 (later_trans l1 hbl)
      have y2 := y2 w2 (later_trans l1 hbl)
      obtain ⟨z1, z2, z4, _⟩ := (okB_iff.1 HOK.out).2 k hlt
      have hLk : (xs.map fmtL)[k]'(by rw [HLN.out]; exact hlt) = fmtL xs[k] := by simp
      have HSZ := Lib.hid (okB_fmt HOK.out (fmtL xs[k]) (List.mem_map.2 ⟨_, List.getElem_mem hlt, rfl⟩))
      have HST := Lib.hid (fun (W : World) (hF : filled 9 W w1.heap.size xs.length k (xs.map fmtL)) => hF.step (by rw [HLN.out]; exact hlt) (by rw [HLN.out]; exact Nat.le_refl _) (ecs := [.string (fmtL xs[k])]) (by rw [hLk]; exact ⟨by have := HSZ.out.1; unfold maxLen; omega, rfl⟩))
      clear hLk
      generalize xs[k] = x at *
      obtain ⟨id, code⟩ := x
      simp only at hi1 hi2 hcz y1 y2 z1 z2 z4
      obtain ⟨m, rfl⟩ := Int.eq_ofNat_of_zero_le (show 0 ≤ id by omega)
      have hm9 : m ≤ 9999 := by omega
      have HFX : Hid (fmtL ⟨(m : Int), code⟩ = decB m ++ ⟨#[58]⟩ ++ code) := by show _ = _; unfold fmtL; rw [Int.toNat_natCast]
      have hki : (k : Int) < (xs.length : Int) := by omega
      have hki0 : (0 : Int) ≤ (k : Int) := by omega
      have hs2 := hbl.size
      obtain ⟨wb, hwb⟩ : ∃ u, u = w2.alloc (Obj.cells #[.int .i64 (m : Int), .string code] 89) := ⟨_, rfl⟩
      have q0 := box_cells hwb 0 (.int .i64 (m : Int)) rfl
      have q1 := box_cells hwb 1 (.string code) rfl
      have lb := (box_later hwb).1
      have hne : w1.heap.size < w2.heap.size := by obtain ⟨cs, h1, _⟩ := hf; exact (Array.getElem?_eq_some_iff.1 h1).1
      have HFB := Lib.hid (hf.below lb)
      have HLB := Lib.hid (later_trans hbl lb)
      have HTB := Lib.hid (HT.out.on (later_trans (later_trans l1 hbl) lb))
      have HWB := Lib.hid hwb; clear hwb hf
      go_wp2_with fail
      rw [← HWB.out]
      have ld := later_drew (Below.refl wb.heap.size wb)
      have hwz : wb.heap.size = w2.heap.size + 1 := by rw [HWB.out]; simp
      have e0 := q0 _ ld
      have e1 := q1 _ ld
      obtain ⟨hd4, _⟩ := dec10_size hm9
      have HIT := Lib.hid (fun W (hW : Below wb.heap.size wb W) => strconv_ItoaN m W hm9 (HTB.out.on hW))
      generalize decB m = t at *
      have hc7 : code.size = 7 := by
        unfold isCode at z4
        rw [Bool.and_eq_true, beq_iff_eq] at z4
        exact z4.1
      have hs58 : t.size + (⟨#[58]⟩ : ByteArray).size ≤ 9223372036854775807 := by show _ + 1 ≤ _; omega
      have hs59 : (t ++ (⟨#[58]⟩ : ByteArray)).size + code.size ≤ 9223372036854775807 := by rw [ByteArray.size_append]; show _ + 1 + _ ≤ _; omega
      have hs60 : ¬ 9223372036854775807 < t.size + 1 + code.size := by omega
      have hs61 : ¬ 9223372036854775807 < t.size + 1 := by omega
      have HC7 := Lib.hid hc7; clear hc7
      go_region_held3 (fun W => W.cell? ⟨w2.heap.size, 0, none⟩ = some (.int .i64 (m : Int)) ∧ W.cell? ⟨w2.heap.size, 1, none⟩ = some (.string code)) (first | exact ⟨e0, e1⟩ | exact ⟨e03, e13⟩ | exact ⟨e04 _, e14 _⟩ | fail) (first | (go_at_call 56; (with_reducible refine (HIT.out _ ld).mono ?_); rintro e w3 ⟨rfl, b3⟩; have l3 := later_trans ld b3; have e03 := q0 w3 l3; have e13 := q1 w3 l3; have hf3 := HFB.out.below l3; obtain ⟨u0, g0⟩ := hf3.cell (j := k) (by show _ < _ * 1; omega); have f0 := hf3.free k; have e04 := (fun v : Value => (World.cell?_setCell_other w3 ⟨w1.heap.size, k, none⟩ ⟨w2.heap.size, 0, none⟩ v (fun e => by injection e; omega)).trans e03); have e14 := (fun v : Value => (World.cell?_setCell_other w3 ⟨w1.heap.size, k, none⟩ ⟨w2.heap.size, 1, none⟩ v (fun e => by injection e; omega)).trans e13)) | fail)
      all_goals
        have HF3 := Lib.hid hf3
        have HB3 := Lib.hid (later_trans HLB.out l3)
        clear hf3 g0 f0 e03 e13 e04 e14 b3 l3 e0 e1
        go_wp2_with fail
        go_roundw
        case rel =>
          have := HST.out w3 HF3.out
          rw [show k * El.size ByteArray = k from Nat.mul_one k, HFX.out] at this
          exact ⟨k + 1, by omega, by go_num, HB3.out.trans (setAll_below [.string _] w3 k _ (Nat.le_refl _)), this⟩
        case measure => simp [intOf]; omega
    · have HE := Lib.hid (show k = xs.length by omega)
      have HO := Lib.hid ((HE.out ▸ hf : filled _ _ _ _ xs.length _).own HLN.out.symm (Nat.le_refl _) (by unfold maxLen; omega))
      clear hf
      have l2 := later_trans l1 hbl
      have hjz := joinT_size (xs.map fmtL) spT 12 fun p hp => (okB_fmt HOK.out p hp).1
      rw [HLN.out] at hjz
      have hjz2 : xs.length * (12 + spT.size) ≤ 60 * 13 := Nat.mul_le_mul h60 (Nat.le_refl _)
      have HJ := Lib.hid (join_own (sep := spT) HO.out HLN.out.symm (by rw [HLN.out]; omega) (by omega))
      clear hjz hjz2
      go_wp2_with fail
      refine HJ.out.mono ?_
      rw [← HF.out]
      rintro e w3 ⟨rfl, b3⟩
      have l3 := later_trans l2 b3
      go_wp2_with fail
      go_ret
      exact ⟨rfl, l3⟩

end Go.Proofs.YtpinkbodbedajaaGreatDoor
