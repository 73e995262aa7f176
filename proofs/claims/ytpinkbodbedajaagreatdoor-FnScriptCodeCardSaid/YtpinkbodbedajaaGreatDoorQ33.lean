/- ZB ZI ZF JI -/
import Derived.Test.YtpinkbodbedajaaGreatDoorQ32
import Derived.Test.YtpinkbodbedajaaGreatDoorQ19
import Derived.Test.YtpinkbodbedajaaGreatDoorQ22
namespace Go.Proofs.YtpinkbodbedajaaGreatDoor
open Go.RowKit

theorem own_kd {α : Type} [Flat α] {T base B d : Nat} {w w' : World} {v vH : Value} {xs : List α} {s : Dsk} (h : own T base w v xs) (hD : dskAt B w d s vH) (hT : T ≠ 104) (hA : apart vH v) (hK : Kd d vH w w') : own T base w' v xs :=
  h.keepBlk fun k e => by
    refine hK.block k (h.blk k e).2 (fun e2 => ?_) fun e2 => ?_
    · subst e2
      obtain ⟨c1, h1⟩ := own_obj h e
      obtain ⟨c2, h2⟩ := hD.obj
      rw [h2] at h1
      injection h1 with h1
      injection h1 with _ h1 _
      exact hT h1.symm
    · unfold apart at hA
      rcases hA with hA | hA
      · rw [← e2] at hA; cases hA
      · exact hA (by rw [← e2, e])
theorem builder_obj {T e B b : Nat} {bs : List Value} {w : World} (h : Lib.IsBuilderF T e B b bs w) : ∃ (cur : Array Value) (fz : Nat × Nat), w.heap[b]? = some (.cells cur T fz) := by
  rcases h with ⟨_, _, h, _⟩ | ⟨_, _, h, _⟩ <;> exact ⟨_, _, h⟩
theorem own_others {α : Type} [Flat α] {T base b : Nat} {w w' : World} {v : Value} {xs : List α} (h : own T base w v xs) (hO : Lib.OthersKept 5 (some b) w w') (hb : ∃ (cur : Array Value) (fz : Nat × Nat), w.heap[b]? = some (.cells cur 107 fz)) (h1 : T ≠ 5) (h2 : T ≠ 107) : own T base w' v xs :=
  h.keepT fun k cur hc => by
    obtain ⟨cb, fb, hb⟩ := hb
    rw [hO k _ hc (fun e' => by
      injection e' with e'
      subst e'
      rw [hb] at hc
      injection hc with hc
      injection hc with _ hc _
      exact h2 hc.symm) fun c fz e' => by
        injection e' with _ e' _
        exact h1 e', hc]
theorem apart_heldN {α : Type} [El α] {T base : Nat} {w : World} {v vH vH' : Value} {xs : List α} (hA : apart vH v) (hN : heldN w vH vH') (ho : own T base w v xs) : apart vH' v := by
  unfold apart at *
  rcases hN with h | h
  · rw [h]; exact hA
  · cases hv : vH'.ownBlock with
    | none => exact .inl rfl
    | some k =>
      refine .inr fun e => ?_
      have h1 := h k hv
      have h2 := (ho.blk k e.symm).2
      omega
theorem strCells_app (a b : ByteArray) : Lib.strCells (a ++ b) = Lib.strCells a ++ Lib.strCells b := by
  rw [Lib.strCells_eq, Lib.strCells_eq, Lib.strCells_eq, ba_append, Lib.byteCells_append]
def bld (B b : Nat) (o : ByteArray) (w : World) : Prop := Lib.IsBuilderF 107 5 B b (Lib.strCells o) w

theorem bld_write (B b : Nat) (o p : ByteArray) (w : World) (h : bld B b o w) (hlen : o.size + p.size ≤ 140737488355328) (hBw : B ≤ w.heap.size) :
    Calls Tryz.prog 67 #[.pointer (some ⟨b, 0, none⟩), .string p] w fun e w' => e = .returned (.tuple #[.int .i64 p.size, .nilIface]) ∧ bld B b (o ++ p) w' ∧ Below B w w' ∧ Lib.OthersKept 5 (some b) w w' :=
  (Any.Builder_WriteString_k (ρ := Tryz.lays156_ren) { Tryz.lays156 with } Tryz.Builder_Extra_156 B b (Lib.strCells o) p w h (by rw [Lib.strCells_length]; exact hlen) hBw).mono fun e w' h => ⟨h.1, .inr (by rw [strCells_app]; exact h.2.1), h.2.2.1, h.2.2.2⟩
theorem bld_len (B b : Nat) (o : ByteArray) (w : World) (h : bld B b o w) :
    Calls Tryz.prog 66 #[.pointer (some ⟨b, 0, none⟩)] w fun e w' => e = .returned (.int .i64 o.size) ∧ w = w' :=
  (Tryz.Builder_Len_f B b (Lib.strCells o) w h).mono fun e w' h => ⟨by rw [h.1, Lib.strCells_length], h.2.symm⟩
theorem bld_string (B b : Nat) (o : ByteArray) (w : World) (h : bld B b o w) (hBw : B ≤ w.heap.size) :
    Calls Tryz.prog 69 #[.pointer (some ⟨b, 0, none⟩)] w fun e w' => e = .returned (.string o) ∧ Below B w w' :=
  (Tryz.Builder_String_any_k B b o.data.toList w h hBw).mono fun e w' h => ⟨by rw [h.1], h.2.2.1⟩

def firstD : Dsk := ⟨[], ⟨⟨4, 2, [⟨#[48, 48, 48, 48, 48, 48, 48]⟩]⟩, [], [], 10⟩, [⟨⟨#[97]⟩, []⟩]⟩

theorem own_str1 {T B g n c : Nat} {w : World} {ps : List ByteArray} (h : own T B w (.slice (some ⟨g, 0, none⟩) n c) ps) (k : Nat) (hk : k < ps.length) : w.cell? ⟨g, k, none⟩ = some (.string ps[k]) := by
  obtain ⟨A, n', c', hv, _, _, _, hr⟩ := h.rd
  injection hv with e1 _ _
  subst e1
  obtain ⟨b, o, e, _, _, h1⟩ := hr.str k hk
  injection e with e
  injection e with e1 e2
  subst e1 e2
  simpa using h1
theorem block_of_cell {w : World} {p : Addr} {u : Value} (h : w.cell? p = some u) : p.block < w.heap.size := World.block_lt_of_cell? _ _ h
theorem empty_tests {x : ByteArray} (h : x.size = 0) : x.toList.isEmpty = true ∧ (x.toList == []) = true := by
  have he : x.toList.isEmpty = true := by rw [ByteArray.toList_eq, List.isEmpty_iff_length_eq_zero]; simpa using h
  exact ⟨he, by rw [List.isEmpty_iff.1 he]; rfl⟩
theorem nonempty_tests {x : ByteArray} (h : x.size ≠ 0) : x.toList.isEmpty = false ∧ (x.toList == []) = false := by
  have he : x.toList.isEmpty = false := by rw [ByteArray.toList_eq, Bool.eq_false_iff, Ne, List.isEmpty_iff_length_eq_zero]; simpa using h
  refine ⟨he, ?_⟩
  cases hq : (x.toList == [])
  · rfl
  · rw [beq_iff_eq] at hq; rw [hq] at he; cases he
theorem orNo_empty {a : ByteArray} (h : a.size = 0) : orNo a = ⟨#[110, 111]⟩ := by unfold orNo; rw [sEq_empty.2 h, if_pos rfl]
theorem orNo_size (a : ByteArray) : (orNo a).size ≤ a.size + 2 := by
  unfold orNo
  split
  · show 2 ≤ _; omega
  · omega

theorem first_worlds (w : World) : Below w.heap.size w ((((w.alloc (Obj.cells #[.string ⟨#[48, 48, 48, 48, 48, 48, 48]⟩] 9)).alloc (Obj.cells #[.string ⟨#[97]⟩, .slice none 0 0] 102)).alloc (Obj.cells #[.slice none 0 0, .int .i64 4, .int .i64 2, .slice (some ⟨w.heap.size, 0, none⟩) 1 1, .slice none 0 0, .slice none 0 0, .int .i64 10, .slice (some ⟨w.heap.size + 1, 0, none⟩) 1 1] 104)).alloc (Obj.cells #[.pointer none, .slice none 0 0] 107)) ∧ dskAt w.heap.size ((((w.alloc (Obj.cells #[.string ⟨#[48, 48, 48, 48, 48, 48, 48]⟩] 9)).alloc (Obj.cells #[.string ⟨#[97]⟩, .slice none 0 0] 102)).alloc (Obj.cells #[.slice none 0 0, .int .i64 4, .int .i64 2, .slice (some ⟨w.heap.size, 0, none⟩) 1 1, .slice none 0 0, .slice none 0 0, .int .i64 10, .slice (some ⟨w.heap.size + 1, 0, none⟩) 1 1] 104)).alloc (Obj.cells #[.pointer none, .slice none 0 0] 107)) (w.heap.size + 1 + 1) firstD (.slice none 0 0) ∧ bld w.heap.size (w.heap.size + 1 + 1 + 1) ⟨#[]⟩ ((((w.alloc (Obj.cells #[.string ⟨#[48, 48, 48, 48, 48, 48, 48]⟩] 9)).alloc (Obj.cells #[.string ⟨#[97]⟩, .slice none 0 0] 102)).alloc (Obj.cells #[.slice none 0 0, .int .i64 4, .int .i64 2, .slice (some ⟨w.heap.size, 0, none⟩) 1 1, .slice none 0 0, .slice none 0 0, .int .i64 10, .slice (some ⟨w.heap.size + 1, 0, none⟩) 1 1] 104)).alloc (Obj.cells #[.pointer none, .slice none 0 0] 107)) ∧ ((((w.alloc (Obj.cells #[.string ⟨#[48, 48, 48, 48, 48, 48, 48]⟩] 9)).alloc (Obj.cells #[.string ⟨#[97]⟩, .slice none 0 0] 102)).alloc (Obj.cells #[.slice none 0 0, .int .i64 4, .int .i64 2, .slice (some ⟨w.heap.size, 0, none⟩) 1 1, .slice none 0 0, .slice none 0 0, .int .i64 10, .slice (some ⟨w.heap.size + 1, 0, none⟩) 1 1] 104)).alloc (Obj.cells #[.pointer none, .slice none 0 0] 107)).heap.size = w.heap.size + 1 + 1 + 1 + 1 := by
  have z1 : (w.alloc (Obj.cells #[.string ⟨#[48, 48, 48, 48, 48, 48, 48]⟩] 9)).heap.size = w.heap.size + 1 := by simp
  have z2 : ((w.alloc (Obj.cells #[.string ⟨#[48, 48, 48, 48, 48, 48, 48]⟩] 9)).alloc (Obj.cells #[.string ⟨#[97]⟩, .slice none 0 0] 102)).heap.size = w.heap.size + 1 + 1 := by simp
  have z3 : (((w.alloc (Obj.cells #[.string ⟨#[48, 48, 48, 48, 48, 48, 48]⟩] 9)).alloc (Obj.cells #[.string ⟨#[97]⟩, .slice none 0 0] 102)).alloc (Obj.cells #[.slice none 0 0, .int .i64 4, .int .i64 2, .slice (some ⟨w.heap.size, 0, none⟩) 1 1, .slice none 0 0, .slice none 0 0, .int .i64 10, .slice (some ⟨w.heap.size + 1, 0, none⟩) 1 1] 104)).heap.size = w.heap.size + 1 + 1 + 1 := by simp
  have z4 : ((((w.alloc (Obj.cells #[.string ⟨#[48, 48, 48, 48, 48, 48, 48]⟩] 9)).alloc (Obj.cells #[.string ⟨#[97]⟩, .slice none 0 0] 102)).alloc (Obj.cells #[.slice none 0 0, .int .i64 4, .int .i64 2, .slice (some ⟨w.heap.size, 0, none⟩) 1 1, .slice none 0 0, .slice none 0 0, .int .i64 10, .slice (some ⟨w.heap.size + 1, 0, none⟩) 1 1] 104)).alloc (Obj.cells #[.pointer none, .slice none 0 0] 107)).heap.size = w.heap.size + 1 + 1 + 1 + 1 := by simp
  have o1 : own (α := ByteArray) 9 w.heap.size (w.alloc (Obj.cells #[.string ⟨#[48, 48, 48, 48, 48, 48, 48]⟩] 9)) (.slice (some ⟨w.heap.size, 0, none⟩) 1 1) [⟨#[48, 48, 48, 48, 48, 48, 48]⟩] := own.made1 w 9 [.string ⟨#[48, 48, 48, 48, 48, 48, 48]⟩] _ ⟨by unfold maxLen; decide, rfl⟩ (Nat.le_refl _)
  have o2 : own (α := OfV) 102 w.heap.size ((w.alloc (Obj.cells #[.string ⟨#[48, 48, 48, 48, 48, 48, 48]⟩] 9)).alloc (Obj.cells #[.string ⟨#[97]⟩, .slice none 0 0] 102)) (.slice (some ⟨w.heap.size + 1, 0, none⟩) 1 1) [⟨⟨#[97]⟩, .slice none 0 0⟩] := by
    have h := own.made1 (α := OfV) (base := w.heap.size) (w.alloc (Obj.cells #[.string ⟨#[48, 48, 48, 48, 48, 48, 48]⟩] 9)) 102 [.string ⟨#[97]⟩, .slice none 0 0] ⟨⟨#[97]⟩, .slice none 0 0⟩ ⟨rfl, by unfold maxLen; decide, rfl⟩ (by rw [z1]; omega)
    rw [z1] at h
    exact h
  have h3 : (((w.alloc (Obj.cells #[.string ⟨#[48, 48, 48, 48, 48, 48, 48]⟩] 9)).alloc (Obj.cells #[.string ⟨#[97]⟩, .slice none 0 0] 102)).alloc (Obj.cells #[.slice none 0 0, .int .i64 4, .int .i64 2, .slice (some ⟨w.heap.size, 0, none⟩) 1 1, .slice none 0 0, .slice none 0 0, .int .i64 10, .slice (some ⟨w.heap.size + 1, 0, none⟩) 1 1] 104)).heap[w.heap.size + 1 + 1]? = some (Obj.cells #[.slice none 0 0, .int .i64 4, .int .i64 2, .slice (some ⟨w.heap.size, 0, none⟩) 1 1, .slice none 0 0, .slice none 0 0, .int .i64 10, .slice (some ⟨w.heap.size + 1, 0, none⟩) 1 1] 104 (0, 0)) := by
    have := World.alloc_heap_new ((w.alloc (Obj.cells #[.string ⟨#[48, 48, 48, 48, 48, 48, 48]⟩] 9)).alloc (Obj.cells #[.string ⟨#[97]⟩, .slice none 0 0] 102)) (Obj.cells #[.slice none 0 0, .int .i64 4, .int .i64 2, .slice (some ⟨w.heap.size, 0, none⟩) 1 1, .slice none 0 0, .slice none 0 0, .int .i64 10, .slice (some ⟨w.heap.size + 1, 0, none⟩) 1 1] 104)
    rwa [z2] at this
  have h4 : ((((w.alloc (Obj.cells #[.string ⟨#[48, 48, 48, 48, 48, 48, 48]⟩] 9)).alloc (Obj.cells #[.string ⟨#[97]⟩, .slice none 0 0] 102)).alloc (Obj.cells #[.slice none 0 0, .int .i64 4, .int .i64 2, .slice (some ⟨w.heap.size, 0, none⟩) 1 1, .slice none 0 0, .slice none 0 0, .int .i64 10, .slice (some ⟨w.heap.size + 1, 0, none⟩) 1 1] 104)).alloc (Obj.cells #[.pointer none, .slice none 0 0] 107)).heap[w.heap.size + 1 + 1]? = some (Obj.cells #[.slice none 0 0, .int .i64 4, .int .i64 2, .slice (some ⟨w.heap.size, 0, none⟩) 1 1, .slice none 0 0, .slice none 0 0, .int .i64 10, .slice (some ⟨w.heap.size + 1, 0, none⟩) 1 1] 104 (0, 0)) := (Below.heap_alloc _ _ _ (by rw [z3]; omega)).trans h3
  have h5 : ((((w.alloc (Obj.cells #[.string ⟨#[48, 48, 48, 48, 48, 48, 48]⟩] 9)).alloc (Obj.cells #[.string ⟨#[97]⟩, .slice none 0 0] 102)).alloc (Obj.cells #[.slice none 0 0, .int .i64 4, .int .i64 2, .slice (some ⟨w.heap.size, 0, none⟩) 1 1, .slice none 0 0, .slice none 0 0, .int .i64 10, .slice (some ⟨w.heap.size + 1, 0, none⟩) 1 1] 104)).alloc (Obj.cells #[.pointer none, .slice none 0 0] 107)).heap[w.heap.size + 1 + 1 + 1]? = some (Obj.cells #[.pointer none, .slice none 0 0] 107 (0, 0)) := by
    have := World.alloc_heap_new (((w.alloc (Obj.cells #[.string ⟨#[48, 48, 48, 48, 48, 48, 48]⟩] 9)).alloc (Obj.cells #[.string ⟨#[97]⟩, .slice none 0 0] 102)).alloc (Obj.cells #[.slice none 0 0, .int .i64 4, .int .i64 2, .slice (some ⟨w.heap.size, 0, none⟩) 1 1, .slice none 0 0, .slice none 0 0, .int .i64 10, .slice (some ⟨w.heap.size + 1, 0, none⟩) 1 1] 104)) (Obj.cells #[.pointer none, .slice none 0 0] 107)
    rwa [z3] at this
  refine ⟨((((Below.refl _ w).alloc (Nat.le_refl _) _).alloc (by rw [z1]; omega) _).alloc (by rw [z2]; omega) _).alloc (by rw [z3]; omega) _, ?_, ?_, z4⟩
  · refine ⟨.slice none 0 0, .slice (some ⟨w.heap.size, 0, none⟩) 1 1, .slice none 0 0, .slice (some ⟨w.heap.size + 1, 0, none⟩) 1 1, [⟨⟨#[97]⟩, .slice none 0 0⟩], h4, own.nil_ _ _ _, ((o1.alloc _).alloc _).alloc _, own.nil_ _ _ _, own.nil_ _ _ _, ⟨(o2.alloc _).alloc _, rfl, fun k h h' => ?_, fun j k hj hk hne => ?_, fun k h => ?_⟩, .inr (by simp [Value.ownBlock])⟩
    · have hk : k = 0 := by simp at h; omega
      subst hk
      exact ⟨rfl, own.nil_ _ _ _⟩
    · simp at hj hk; omega
    · have hk : k = 0 := by simp at h; omega
      subst hk
      exact .inl rfl
  · exact .inl ⟨by omega, .slice none 0 0, h5, World.ownsRowF_nil _ _ _ _, by simp [Value.ownBlock]⟩

set_option maxRecDepth 100000 in
set_option maxHeartbeats 3200000 in
theorem impl_RunScript (X : World → Prop) (t : ByteArray) (w : World) (ls : List ByteArray) (ds : Nat → Dsk) (ans : Nat → ByteArray) (ht : t.size ≤ 20000) (hls : partsB 10 t = ls) (hX : ∀ W, Below w.heap.size w W → X W) (h0 : ds 0 = firstD)
    (hstep : ∀ k (h : k < ls.length), ls[k].size ≠ 0 → k < 100 → (outK ans ls k).size ≤ 40000 → StepOk X ls[k] (ds k) (ds (k + 1)) (ans k) ∧ (ans k).size ≤ 2000000000)
    (hskip : ∀ k (h : k < ls.length), ls[k].size = 0 → ds (k + 1) = ds k) :
    Calls Tryz.prog 20 #[.string t] w fun e w' => e = .returned (.string (outA ans 0 ⟨#[]⟩ ls)) ∧ Below w.heap.size w w' := by
  have HX := Lib.hid hX; have H0 := Lib.hid h0; have HST := Lib.hid hstep; have HSK := Lib.hid hskip
  clear hX h0 hstep hskip
  obtain ⟨OUT, hO⟩ : ∃ O, outA ans 0 ⟨#[]⟩ ls = O := ⟨_, rfl⟩
  have HOUT : Hid (outA ans 0 (outK ans ls 0) (ls.drop 0) = OUT) := hO
  rw [hO]
  clear hO
  have HSP : Hid (∀ W : World, Calls Tryz.prog 65 #[.string t, .string ⟨#[10]⟩] W fun e w' => e = .returned (.slice (some ⟨W.heap.size, 0, none⟩) ls.length ls.length) ∧ own 9 W.heap.size w' (.slice (some ⟨W.heap.size, 0, none⟩) ls.length ls.length) ls ∧ Below W.heap.size W w' ∧ w'.heap.size = W.heap.size + 1) := fun W => by
    rw [← hls]; exact strings_Split1 t 10 W (by omega)
  have HFW := Lib.hid (first_worlds w)
  have ht1 : ¬ (20000 : Int) < (t.size : Int) := by omega
  go_enter Tryz.func20, Tryz.ntmps20
  go_wp2_with fail
  obtain ⟨W4, hW4⟩ : ∃ W, W = ((((w.alloc (Obj.cells #[.string ⟨#[48, 48, 48, 48, 48, 48, 48]⟩] 9)).alloc (Obj.cells #[.string ⟨#[97]⟩, .slice none 0 0] 102)).alloc (Obj.cells #[.slice none 0 0, .int .i64 4, .int .i64 2, .slice (some ⟨w.heap.size, 0, none⟩) 1 1, .slice none 0 0, .slice none 0 0, .int .i64 10, .slice (some ⟨w.heap.size + 1, 0, none⟩) 1 1] 104)).alloc (Obj.cells #[.pointer none, .slice none 0 0] 107)) := ⟨_, rfl⟩
  rw [← hW4] at HFW ⊢
  clear hW4
  obtain ⟨l4, d4, u4, z4⟩ := HFW.out
  have HSPW := HSP.out W4
  rw [z4] at HSPW
  refine HSPW.mono ?_
  rintro e w5 ⟨rfl, o5, b5, _⟩
  have D5 := d4.below (by rw [z4]; exact b5)
  have U5 : bld w.heap.size (w.heap.size + 1 + 1 + 1) ⟨#[]⟩ w5 := builder_keep u4 fun k cur e' fz hc _ => b5.block k (by have := (Array.getElem?_eq_some_iff.1 hc).1; omega)
  have l5 : Below w.heap.size w w5 := l4.trans (b5.mono (by omega))
  rw [← H0.out] at D5
  have HD5 := Lib.hid D5; have HU5 := Lib.hid U5; have HO5 := Lib.hid (o5.base_ (show w.heap.size ≤ w.heap.size + 1 + 1 + 1 + 1 by omega)); have HL5 := Lib.hid l5
  have HAP5 : Hid (apart (.slice none 0 0) (.slice (some ⟨w.heap.size + 1 + 1 + 1 + 1, 0, none⟩) ls.length ls.length)) := .inl rfl
  have hlen : ls.length ≤ 20001 := by rw [← hls]; have := parts_lenZ 10 t; omega
  clear D5 U5 o5 b5 l5 l4 d4 u4 z4 HSPW HSP HFW hls
  go_wp2_with fail
  go_loopw [20] (fun i wr => ∃ (k : Nat) (vH : Value), k ≤ ls.length ∧ i = .int .i64 k ∧ Hid (Below w.heap.size w wr) ∧ Hid (dskAt w.heap.size wr (w.heap.size + 1 + 1) (ds k) vH) ∧ Hid (bld w.heap.size (w.heap.size + 1 + 1 + 1) (outK ans ls k) wr) ∧ Hid (own 9 w.heap.size wr (.slice (some ⟨w.heap.size + 1 + 1 + 1 + 1, 0, none⟩) ls.length ls.length) ls) ∧ Hid (apart vH (.slice (some ⟨w.heap.size + 1 + 1 + 1 + 1, 0, none⟩) ls.length ls.length)) ∧ Hid (outA ans k (outK ans ls k) (ls.drop k) = OUT) ∧ (outK ans ls k).size ≤ 40000 + 2000000003) (fun i _ => ls.length - (intOf i).toNat)
  case atStart => exact ⟨0, .slice none 0 0, Nat.zero_le _, rfl, HL5.out, HD5.out, HU5.out, HO5.out, HAP5.out, HOUT.out, by show 0 ≤ _; omega⟩
  case round =>
    obtain ⟨k, vH, hk, rfl, HL, HD, HU, HO, HAP, HQ, hoz⟩ := hrel
    obtain ⟨W, rfl⟩ : ∃ W : World, W = wr := ⟨_, rfl⟩
    have hWs := HL.out.size
    clear HL5 HD5 HU5 HO5 HAP5
    by_cases hlt : k < ls.length
    · have hki : (k : Int) < (ls.length : Int) := by omega
      have hki0 : (0 : Int) ≤ (k : Int) := by omega
      have y1 := own_str1 HO.out k hlt
      have HDR : Hid (ls.drop k = ls[k] :: ls.drop (k + 1)) := List.drop_eq_getElem_cons hlt
      have HSTK := Lib.hid (HST.out k hlt)
      have HSKK := Lib.hid (HSK.out k hlt)
      have HKS := Lib.hid (outK_skip (ans := ans) hlt)
      have HKT := Lib.hid (outK_step (ans := ans) hlt)
      obtain ⟨o, ho⟩ : ∃ o, outK ans ls k = o := ⟨_, rfl⟩
      rw [ho] at HU HQ hoz HSTK HKS HKT
      have HOK := Lib.hid ho
      clear ho
      generalize ls[k] = x at *
      by_cases he : x.size = 0
      · obtain ⟨e1, e2⟩ := empty_tests he
        have HE := Lib.hid he
        clear he
        go_wp2_with fail
        go_roundw
        case rel => exact ⟨k + 1, vH, by omega, by go_num, HL.out, by rw [HSKK.out HE.out]; exact HD.out, by show bld _ _ _ _; rw [HKS.out HE.out]; exact HU.out, HO.out, HAP.out, by show _ = _; rw [HKS.out HE.out, ← HQ.out, HDR.out, outA_skip HE.out], by rw [HKS.out HE.out]; exact hoz⟩
        case measure => simp [intOf]; omega
      obtain ⟨e1, e2⟩ := nonempty_tests he
      by_cases h100 : 100 ≤ k
      · have hk1 : (100 : Int) ≤ (k : Int) := by omega
        go_wp2_with fail
        refine (bld_write _ _ o _ W HU.out (by show o.size + 5 ≤ _; omega) hWs).mono ?_
        rintro e w1 ⟨rfl, u1, b1, _⟩
        have HU1 := Lib.hid u1
        have HL1 := Lib.hid (HL.out.trans b1)
        have hs1 := b1.size
        clear u1 b1
        go_wp2_with fail
        refine (bld_string _ _ _ w1 HU1.out (by omega)).mono ?_
        rintro e w2 ⟨rfl, b2⟩
        have HL2 := Lib.hid (HL1.out.trans b2)
        clear b2
        go_wp2_with fail
        go_ret
        exact ⟨ret_str (by rw [← HQ.out, HDR.out]; exact (outA_full he (by omega)).symm), HL2.out⟩
      have hk1 : ¬ (100 : Int) ≤ (k : Int) := by omega
      go_wp2_with fail
      refine (bld_len _ _ o W HU.out).mono ?_
      rintro e _ ⟨rfl, rfl⟩
      by_cases ho4 : 40000 < o.size
      · have ho5 : (40000 : Int) < (o.size : Int) := by omega
        go_wp2_with fail
        refine (bld_write _ _ o _ W HU.out (by show o.size + 5 ≤ _; omega) hWs).mono ?_
        rintro e w1 ⟨rfl, u1, b1, _⟩
        have HU1 := Lib.hid u1
        have HL1 := Lib.hid (HL.out.trans b1)
        have hs1 := b1.size
        clear u1 b1
        go_wp2_with fail
        refine (bld_string _ _ _ w1 HU1.out (by omega)).mono ?_
        rintro e w2 ⟨rfl, b2⟩
        have HL2 := Lib.hid (HL1.out.trans b2)
        clear b2
        go_wp2_with fail
        go_ret
        exact ⟨ret_str (by rw [← HQ.out, HDR.out]; exact (outA_full he (by omega)).symm), HL2.out⟩
      have ho5 : ¬ (40000 : Int) < (o.size : Int) := by omega
      obtain ⟨hSt, haz⟩ := HSTK.out he (by omega) (by omega)
      have HCL := Lib.hid (hSt w.heap.size (w.heap.size + 1 + 1) vH W (HX.out W HL.out) hWs HD.out)
      clear hSt
      go_wp2_with fail
      refine HCL.out.mono ?_
      rintro e w1 ⟨rfl, vH', d1, k1, n1⟩
      have HD1 := Lib.hid d1
      have HU1 := Lib.hid (builder_kd HU.out HD.out k1)
      have HO1 := Lib.hid (own_kd HO.out HD.out (by decide) HAP.out k1)
      have HAP1 := Lib.hid (apart_heldN HAP.out n1 HO.out)
      have HL1 := Lib.hid (HL.out.trans (k1.toBelow (by omega) HD.out.lt fun j hj => (HD.out.held.blk j hj).1))
      have hs1 : w.heap.size ≤ w1.heap.size := HL1.out.size
      clear d1 k1 n1 y1
      by_cases ha : (ans k).size = 0
      · obtain ⟨a1, a2⟩ := empty_tests ha
        have HA := Lib.hid (orNo_empty ha)
        clear ha
        · skip
          go_wp2_with fail
          refine (bld_write _ _ o _ w1 HU1.out (by simp only [ByteArray.size_append]; first | (show o.size + 3 ≤ _; omega) | (show o.size + (_ + 1) ≤ _; omega)) hs1).mono ?_
          rintro e w2 ⟨rfl, u2, b2, ok2⟩
          have HB1 := Lib.hid (builder_obj HU1.out)
          have HU2 := Lib.hid u2
          have HD2 := Lib.hid (dsk_others HD1.out ok2 HB1.out)
          have HO2 := Lib.hid (own_others HO1.out ok2 HB1.out (by decide) (by decide))
          have HL2 := Lib.hid (HL1.out.trans b2)
          clear u2 b2 ok2
          go_wp2_with fail
          go_roundw
          case rel => exact ⟨k + 1, vH', by omega, by go_num, HL2.out, HD2.out, by show bld _ _ _ _; rw [HKT.out he, HA.out]; exact HU2.out, HO2.out, HAP1.out, by show _ = _; rw [HKT.out he, ← HQ.out, HDR.out, outA_step he (by omega) (by omega)], by rw [HKT.out he]; have := orNo_size (ans k); simp only [ByteArray.size_append]; show o.size + (_ + 1) ≤ _; omega⟩
          case measure => simp [intOf]; omega
      · obtain ⟨a1, a2⟩ := nonempty_tests ha
        have HA := Lib.hid (orNo_pos (show 1 ≤ (ans k).size by omega))
        have hadd : (ans k).size + (⟨#[10]⟩ : ByteArray).size ≤ 9223372036854775807 := by show _ + 1 ≤ _; omega
        clear ha
        · skip
          go_wp2_with fail
          refine (bld_write _ _ o _ w1 HU1.out (by simp only [ByteArray.size_append]; first | (show o.size + 3 ≤ _; omega) | (show o.size + (_ + 1) ≤ _; omega)) hs1).mono ?_
          rintro e w2 ⟨rfl, u2, b2, ok2⟩
          have HB1 := Lib.hid (builder_obj HU1.out)
          have HU2 := Lib.hid u2
          have HD2 := Lib.hid (dsk_others HD1.out ok2 HB1.out)
          have HO2 := Lib.hid (own_others HO1.out ok2 HB1.out (by decide) (by decide))
          have HL2 := Lib.hid (HL1.out.trans b2)
          clear u2 b2 ok2
          go_wp2_with fail
          go_roundw
          case rel => exact ⟨k + 1, vH', by omega, by go_num, HL2.out, HD2.out, by show bld _ _ _ _; rw [HKT.out he, HA.out]; exact HU2.out, HO2.out, HAP1.out, by show _ = _; rw [HKT.out he, ← HQ.out, HDR.out, outA_step he (by omega) (by omega)], by rw [HKT.out he]; have := orNo_size (ans k); simp only [ByteArray.size_append]; show o.size + (_ + 1) ≤ _; omega⟩
          case measure => simp [intOf]; omega
    · have HE : Hid (ls.drop k = []) := List.drop_eq_nil_of_le (by omega)
      go_wp2_with fail
      refine (bld_string _ _ _ W HU.out hWs).mono ?_
      rintro e w2 ⟨rfl, b2⟩
      have HL2 := Lib.hid (HL.out.trans b2)
      clear b2
      go_wp2_with fail
      go_ret
      exact ⟨ret_str (by rw [← HQ.out, HE.out, outA]), HL2.out⟩

end Go.Proofs.YtpinkbodbedajaaGreatDoor

namespace Go.Proofs.YtpinkbodbedajaaGreatDoor
open Go.RowKit

theorem linesT_size_mem : ∀ {ls : List ByteArray} {l : ByteArray}, l ∈ ls → l.size ≤ (linesT ls).size
  | x :: xs, l, h => by
    rw [linesT_cons]
    simp only [ByteArray.size_append]
    rcases List.mem_cons.1 h with h | h
    · subst h; omega
    · have := linesT_size_mem h; omega
theorem outA_lines (ans : Nat → ByteArray) : ∀ (ls rs : List ByteArray) (k : Nat) (o : ByteArray), ls.length = rs.length → k + ls.length ≤ 100 → (∀ l ∈ ls, l.size ≠ 0) → (∀ a ∈ rs, 1 ≤ a.size) → (o ++ linesT rs).size ≤ 40000 → (∀ i (h : i < rs.length), ans (k + i) = rs[i]) →
    outA ans k o (ls ++ [⟨#[]⟩]) = o ++ linesT rs
  | [], [], k, o, _, _, _, _, _, _ => by
    rw [List.nil_append, outA_skip rfl, linesT_nil]
    apply ba_ext
    rw [ba_append]
    simp [outA]
  | [], _ :: _, _, _, h, _, _, _, _, _ => by simp at h
  | _ :: _, [], _, _, h, _, _, _, _, _ => by simp at h
  | l :: ls, a :: rs, k, o, hl, hk, hn, ha, hz, hA => by
    rw [linesT_cons] at hz
    simp only [ByteArray.size_append] at hz
    simp only [List.length_cons] at hl hk
    have e0 : ans k = a := hA 0 (by simp)
    have h1 := ha a (by simp)
    rw [List.cons_append, outA_step (hn l (by simp)) (by omega) (by omega), e0, orNo_pos h1,
      outA_lines ans ls rs (k + 1) _ (by omega) (by omega) (fun x hx => hn x (List.mem_cons_of_mem _ hx)) (fun x hx => ha x (List.mem_cons_of_mem _ hx)) (by simp only [ByteArray.size_append]; omega)
        (fun i h => by
          have := hA (i + 1) (by simp; omega)
          rw [show k + 1 + i = k + (i + 1) by omega, this]
          rfl), linesT_cons]
    apply ba_ext
    simp only [ba_append, List.append_assoc]
/-- The state ahead of line k; it stays after the last one. -/
def upTo (n : Nat) (D : Nat → Dsk) (k : Nat) : Dsk := if k ≤ n then D k else D n
theorem run_lines (X : World → Prop) (ls rs : List ByteArray) (D : Nat → Dsk) (w : World) (hlen : ls.length = rs.length) (h0 : D 0 = firstD) (h100 : ls.length ≤ 100) (h10 : ∀ l ∈ ls, (10 : UInt8) ∉ l.data.toList) (hne : ∀ l ∈ ls, l.size ≠ 0)
    (ha : ∀ a ∈ rs, 1 ≤ a.size) (hT : (linesT ls).size ≤ 20000) (hA : (linesT rs).size ≤ 40000) (hX : ∀ W, Below w.heap.size w W → X W)
    (hstep : ∀ k (h : k < ls.length), StepOk X ls[k] (D k) (D (k + 1)) (rs[k]'(by omega))) :
    Calls Tryz.prog 20 #[.string (linesT ls)] w fun e w' => e = .returned (.string (linesT rs)) ∧ Below w.heap.size w w' := by
  have h := impl_RunScript X (linesT ls) w (ls ++ [⟨#[]⟩]) (upTo ls.length D) (fun k => rs.getD k ⟨#[]⟩) hT (linesT_parts ls h10) hX (by unfold upTo; rw [if_pos (Nat.zero_le _)]; exact h0)
    (fun k hk hz _ _ => by
      rw [List.length_append, List.length_singleton] at hk
      by_cases hlt : k < ls.length
      · have e1 : (ls ++ [(⟨#[]⟩ : ByteArray)])[k]'(by simp; omega) = ls[k] := List.getElem_append_left hlt
        have e2 : rs.getD k ⟨#[]⟩ = rs[k]'(by omega) := by rw [List.getD_eq_getElem?_getD, List.getElem?_eq_getElem (by omega)]; rfl
        rw [e1, e2]
        unfold upTo
        rw [if_pos (by omega), if_pos (by omega)]
        refine ⟨hstep k hlt, ?_⟩
        have := linesT_size_mem (List.getElem_mem (show k < rs.length by omega))
        omega
      · exfalso
        apply hz
        rw [List.getElem_append_right (by omega)]
        have : k - ls.length = 0 := by omega
        simp only [this]
        rfl)
    (fun k hk hz => by
      rw [List.length_append, List.length_singleton] at hk
      by_cases hlt : k < ls.length
      · exfalso
        have e1 : (ls ++ [(⟨#[]⟩ : ByteArray)])[k]'(by simp; omega) = ls[k] := List.getElem_append_left hlt
        rw [e1] at hz
        exact hne _ (List.getElem_mem hlt) hz
      · obtain rfl : k = ls.length := by omega
        unfold upTo
        rw [if_neg (by omega), if_pos (Nat.le_refl _)])
  rw [outA_lines _ ls rs 0 ⟨#[]⟩ hlen (by omega) hne ha (by
    have e : (⟨#[]⟩ : ByteArray).size = 0 := rfl
    rw [ByteArray.size_append, e]; omega) (fun i hi => by rw [Nat.zero_add]; show rs.getD i _ = _; rw [List.getD_eq_getElem?_getD, List.getElem?_eq_getElem hi]; rfl)] at h
  have e0 : (⟨#[]⟩ : ByteArray) ++ linesT rs = linesT rs := by
    apply ba_ext; rw [ba_append]; simp
  rw [e0] at h
  exact h

end Go.Proofs.YtpinkbodbedajaaGreatDoor

namespace Go.Proofs.YtpinkbodbedajaaGreatDoor
open Go.RowKit

/-- What a line's call leaves. -/
def lineQ (B d : Nat) (s' : Dsk) (vH : Value) (a : ByteArray) (w : World) (e : Ending) (w' : World) : Prop := e = .returned (.string a) ∧ ∃ vH', dskAt B w' d s' vH' ∧ Kd d vH w w' ∧ heldN w vH vH'
theorem lineQ.pre {B d : Nat} {s' : Dsk} {vH : Value} {a : ByteArray} {w W w' : World} {e : Ending} (hb : Below w.heap.size w W) (h : lineQ B d s' vH a W e w') : lineQ B d s' vH a w e w' := by
  obtain ⟨h1, vH', h2, h3, h4⟩ := h
  refine ⟨h1, vH', h2, (Kd.of_below hb).trans h3, ?_⟩
  rcases h4 with h4 | h4
  · exact .inl h4
  · exact .inr fun k hk => Nat.le_trans hb.size (h4 k hk)
theorem lineQ.post {B d : Nat} {s' : Dsk} {vH : Value} {a : ByteArray} {w w1 w' : World} {e : Ending} (h : lineQ B d s' vH a w e w1) (hb : Below w1.heap.size w1 w') : lineQ B d s' vH a w e w' := by
  obtain ⟨h1, vH', h2, h3, h4⟩ := h
  exact ⟨h1, vH', h2.below hb, h3.trans (Kd.of_below hb), h4⟩
theorem lineQ.of_read {B d : Nat} {s : Dsk} {vH : Value} {a : ByteArray} {w w' : World} {e : Ending} (hD : dskAt B w d s vH) (he : e = .returned (.string a)) (hb : Below w.heap.size w w') : lineQ B d s vH a w e w' :=
  ⟨he, vH, hD.below hb, Kd.of_below hb, heldN.refl _ _⟩

/-! ### The forms of a line -/
set_option maxRecDepth 100000 in
set_option maxHeartbeats 800000 in
theorem line_word (B d : Nat) (s' : Dsk) (vH : Value) (line a : ByteArray) (w : World) (hz : line.size ≤ maxLen) (hcut : cutAt 32 line = none)
    (HC : ∀ W, Below w.heap.size w W → Calls Tryz.prog 131 #[.pointer (some ⟨d, 0, none⟩), .string line] W (lineQ B d s' vH a W)) :
    Calls Tryz.prog 68 #[.pointer (some ⟨d, 0, none⟩), .string line] w (lineQ B d s' vH a w) := by
  have HK : Hid (Calls Tryz.prog 130 #[.string line, .string ⟨#[32]⟩] w fun e w' => e = .returned (.tuple #[.string line, .string ⟨#[]⟩, .bool false]) ∧ Below w.heap.size w w') := (strings_Cut1 line 32 w hz).mono fun e w' h => by
    obtain ⟨hb, ⟨_, he⟩ | ⟨p, q, h, _⟩⟩ := h
    · exact ⟨he, hb⟩
    · rw [hcut] at h; cases h
  have HCC := Lib.hid HC
  clear HC hcut
  go_enter Tryz.func68, Tryz.ntmps68
  go_wp2_with fail
  refine HK.out.mono ?_
  rintro e w1 ⟨rfl, b1⟩
  go_wp2_with fail
  refine (HCC.out _ b1).mono ?_
  rintro e w2 ⟨rfl, h2⟩
  go_wp2_with fail
  go_ret
  exact lineQ.pre b1 ⟨rfl, h2⟩

set_option maxRecDepth 100000 in
set_option maxHeartbeats 800000 in
theorem line_net (B d : Nat) (s' : Dsk) (vH : Value) (line rest a : ByteArray) (w : World) (hz : line.size ≤ maxLen) (hcut : cutAt 32 line = some (netW, rest))
    (HC : ∀ W, Below w.heap.size w W → Calls Tryz.prog 136 #[.pointer (some ⟨d, 0, none⟩), .string rest] W (lineQ B d s' vH a W)) :
    Calls Tryz.prog 68 #[.pointer (some ⟨d, 0, none⟩), .string line] w (lineQ B d s' vH a w) := by
  have HK : Hid (Calls Tryz.prog 130 #[.string line, .string ⟨#[32]⟩] w fun e w' => e = .returned (.tuple #[.string netW, .string rest, .bool true]) ∧ Below w.heap.size w w') := (strings_Cut1 line 32 w hz).mono fun e w' h => by
    obtain ⟨hb, ⟨h, _⟩ | ⟨p, q, h, he⟩⟩ := h
    · rw [hcut] at h; cases h
    · rw [hcut] at h; cases h; exact ⟨he, hb⟩
  have HCC := Lib.hid HC
  clear HC hcut
  have q_0 : (netW.toList == [108, 101, 116, 116, 101, 114, 115]) = false := by rw [ByteArray.toList_eq]; decide
  have q_1 : (netW.toList == [112, 108, 97, 110]) = false := by rw [ByteArray.toList_eq]; decide
  have q_2 : (netW.toList == [102, 111, 114, 119, 97, 114, 100, 115]) = false := by rw [ByteArray.toList_eq]; decide
  have q_t : (netW.toList == [110, 101, 116]) = true := by rw [ByteArray.toList_eq]; decide
  generalize netW = wd at *
  go_enter Tryz.func68, Tryz.ntmps68
  go_wp2_with fail
  refine HK.out.mono ?_
  rintro e w1 ⟨rfl, b1⟩
  go_wp2_with fail
  refine (HCC.out _ b1).mono ?_
  rintro e w2 ⟨rfl, h2⟩
  go_wp2_with fail
  go_ret
  exact lineQ.pre b1 ⟨rfl, h2⟩

set_option maxRecDepth 100000 in
set_option maxHeartbeats 1600000 in
theorem line_one (B d : Nat) (s' : Dsk) (vH : Value) (line wd rest f a : ByteArray) (w : World) (hz : line.size ≤ maxLen) (hr : rest.size ≤ 1000000000) (hcut : cutAt 32 line = some (wd, rest)) (hp : partsB 32 rest = [f])
    (q_0 : (wd.toList == [108, 101, 116, 116, 101, 114, 115]) = false) (q_1 : (wd.toList == [112, 108, 97, 110]) = false) (q_2 : (wd.toList == [102, 111, 114, 119, 97, 114, 100, 115]) = false) (q_3 : (wd.toList == [110, 101, 116]) = false)
    (HC : ∀ W, Below w.heap.size w W → Calls Tryz.prog 137 #[.pointer (some ⟨d, 0, none⟩), .string wd, .string f] W (lineQ B d s' vH a W)) :
    Calls Tryz.prog 68 #[.pointer (some ⟨d, 0, none⟩), .string line] w (lineQ B d s' vH a w) := by
  have HK : Hid (Calls Tryz.prog 130 #[.string line, .string ⟨#[32]⟩] w fun e w' => e = .returned (.tuple #[.string wd, .string rest, .bool true]) ∧ Below w.heap.size w w') := (strings_Cut1 line 32 w hz).mono fun e w' h => by
    obtain ⟨hb, ⟨h, _⟩ | ⟨p, q, h, he⟩⟩ := h
    · rw [hcut] at h; cases h
    · rw [hcut] at h; cases h; exact ⟨he, hb⟩
  have HCC := Lib.hid HC
  have HSP : Hid (∀ W : World, Calls Tryz.prog 65 #[.string rest, .string ⟨#[32]⟩] W fun e w' => e = .returned (.slice (some ⟨W.heap.size, 0, none⟩) 1 1) ∧ own 9 W.heap.size w' (.slice (some ⟨W.heap.size, 0, none⟩) 1 1) [f] ∧ Below W.heap.size W w') := fun W => by
    have h := strings_Split1 rest 32 W hr
    rw [hp] at h
    exact h.mono fun e w' h => ⟨h.1, h.2.1, h.2.2.1⟩
  clear HC hcut hp
  go_enter Tryz.func68, Tryz.ntmps68
  go_wp2_with fail
  refine HK.out.mono ?_
  rintro e w1 ⟨rfl, b1⟩
  go_wp2_with fail
  refine (HSP.out _).mono ?_
  rintro e w2 ⟨rfl, o2, b2⟩
  have l2 := later_trans b1 b2
  have y0 : w2.cell? ⟨w1.heap.size, 0, none⟩ = some (.string f) := own_str1 o2 0 (by simp)
  have L2 := Lib.hid l2
  clear o2 b1 b2 l2
  go_wp2_with fail
  refine (HCC.out _ L2.out).mono ?_
  rintro e w3 ⟨rfl, h3⟩
  go_wp2_with fail
  go_ret
  exact lineQ.pre L2.out ⟨rfl, h3⟩

set_option maxRecDepth 100000 in
set_option maxHeartbeats 1600000 in
theorem line_two (B d : Nat) (s' : Dsk) (vH : Value) (line wd rest f g a : ByteArray) (w : World) (hz : line.size ≤ maxLen) (hr : rest.size ≤ 1000000000) (hcut : cutAt 32 line = some (wd, rest)) (hp : partsB 32 rest = [f, g])
    (q_0 : (wd.toList == [108, 101, 116, 116, 101, 114, 115]) = false) (q_1 : (wd.toList == [112, 108, 97, 110]) = false) (q_2 : (wd.toList == [102, 111, 114, 119, 97, 114, 100, 115]) = false) (q_3 : (wd.toList == [110, 101, 116]) = false)
    (HC : ∀ W, Below w.heap.size w W → Calls Tryz.prog 138 #[.pointer (some ⟨d, 0, none⟩), .string wd, .string f, .string g] W (lineQ B d s' vH a W)) :
    Calls Tryz.prog 68 #[.pointer (some ⟨d, 0, none⟩), .string line] w (lineQ B d s' vH a w) := by
  have HK : Hid (Calls Tryz.prog 130 #[.string line, .string ⟨#[32]⟩] w fun e w' => e = .returned (.tuple #[.string wd, .string rest, .bool true]) ∧ Below w.heap.size w w') := (strings_Cut1 line 32 w hz).mono fun e w' h => by
    obtain ⟨hb, ⟨h, _⟩ | ⟨p, q, h, he⟩⟩ := h
    · rw [hcut] at h; cases h
    · rw [hcut] at h; cases h; exact ⟨he, hb⟩
  have HCC := Lib.hid HC
  have HSP : Hid (∀ W : World, Calls Tryz.prog 65 #[.string rest, .string ⟨#[32]⟩] W fun e w' => e = .returned (.slice (some ⟨W.heap.size, 0, none⟩) 2 2) ∧ own 9 W.heap.size w' (.slice (some ⟨W.heap.size, 0, none⟩) 2 2) [f, g] ∧ Below W.heap.size W w') := fun W => by
    have h := strings_Split1 rest 32 W hr
    rw [hp] at h
    exact h.mono fun e w' h => ⟨h.1, h.2.1, h.2.2.1⟩
  clear HC hcut hp
  go_enter Tryz.func68, Tryz.ntmps68
  go_wp2_with fail
  refine HK.out.mono ?_
  rintro e w1 ⟨rfl, b1⟩
  go_wp2_with fail
  refine (HSP.out _).mono ?_
  rintro e w2 ⟨rfl, o2, b2⟩
  have l2 := later_trans b1 b2
  have y0 : w2.cell? ⟨w1.heap.size, 0, none⟩ = some (.string f) := own_str1 o2 0 (by simp)
  have y1 : w2.cell? ⟨w1.heap.size, 1, none⟩ = some (.string g) := own_str1 o2 1 (by simp)
  have L2 := Lib.hid l2
  clear o2 b1 b2 l2
  have HQ : Hid (∀ W, Below w2.heap.size w2 W → Calls Tryz.prog 138 #[.pointer (some ⟨d, 0, none⟩), .string wd, .string f, .string g] W fun e W' => e = .returned (.string a) ∧ lineQ B d s' vH a w e W') := fun W hW =>
    (HCC.out W (later_trans L2.out hW)).mono fun e W' h => ⟨h.1, lineQ.pre (later_trans L2.out hW) h⟩
  have z0 := fun W (hW : Below w2.heap.size w2 W) => (hW.cell (p := ⟨w1.heap.size, 0, none⟩) (block_of_cell y0)).trans y0
  have z1 := fun W (hW : Below w2.heap.size w2 W) => (hW.cell (p := ⟨w1.heap.size, 1, none⟩) (block_of_cell y1)).trans y1
  have ld := later_drew (Below.refl w2.heap.size w2)
  clear y0 y1
  go_wp2_with fail
  go_still_tail 8, (by kernel_rfl)
  change wpList _ _ _ _ _ w2.drew
  generalize w2.drew = w3 at ld ⊢
  go_wp2_with fail
  refine (HQ.out _ ld).mono ?_
  rintro e w4 ⟨rfl, h4⟩
  go_wp2_with fail
  go_ret
  exact h4


/-! ### The network's lines -/
def tailW (n : Int) : ByteArray := ⟨#[32]⟩ ++ endW n
set_option maxRecDepth 100000 in
set_option maxHeartbeats 800000 in
theorem desk_path (B d : Nat) (s : Dsk) (vH : Value) (st c : ByteArray) (w : World) (hD : dskAt B w d s vH) (hc : c.size ≤ maxLen) (hn : (pathR s.net st c).2 = 0 ∨ (pathR s.net st c).2 = 1 ∨ (pathR s.net st c).2 = 2) (hl : ((pathR s.net st c).1.map (nameAt s.net)).length ≤ 1000) (hz : ∀ p ∈ (pathR s.net st c).1.map (nameAt s.net), p.size ≤ 1000) (hsz : (listT ((pathR s.net st c).1.map (nameAt s.net))).size ≤ 10000000) :
    Calls Tryz.prog 216 #[.pointer (some ⟨d, 0, none⟩), .string st, .string c] w (lineQ B d s vH (listT ((pathR s.net st c).1.map (nameAt s.net)) ++ tailW (pathR s.net st c).2) w) := by
  have HD := Lib.hid hD
  obtain ⟨_, _, _, vN, os, ⟨_, _, _, _, _, _, _, c7⟩, _, _, _, _, _, hN, _⟩ := dsk_cells hD
  have HR := Lib.hid (impl_RoutePath vN s.net st c w hN.rd hc)
  obtain ⟨n, hnn⟩ : ∃ n, (pathR s.net st c).2 = n := ⟨_, rfl⟩
  obtain ⟨ps, hps⟩ : ∃ ps, (pathR s.net st c).1.map (nameAt s.net) = ps := ⟨_, rfl⟩
  rw [hnn] at HR hn ⊢
  rw [hps] at HR hl hz hsz ⊢
  have HZ := Lib.hid hz
  clear hD hnn hps hN hz
  go_enter Tryz.func216, Tryz.ntmps216
  go_wp2_with fail
  refine HR.out.mono ?_
  rintro e w1 ⟨v1, rfl, o1, b1⟩
  have HO1 := Lib.hid o1
  obtain ⟨A1, n1, c1, rfl, -, -, -, -⟩ := o1.rd
  clear o1
  have HL := Lib.hid (impl_listText _ ps w1 HO1.out.rd (by omega) HZ.out)
  go_wp2_with fail
  refine HL.out.mono ?_
  rintro e w2 ⟨rfl, b2⟩
  have l2 := Lib.hid (later_trans b1 b2)
  clear b1 b2
  generalize listT ps = L at *
  rcases hn with hn | hn | hn
  all_goals
    subst hn
    go_wp2_with fail
    go_ret
    exact lineQ.of_read HD.out rfl l2.out

set_option maxRecDepth 100000 in
set_option maxHeartbeats 1600000 in
theorem desk_faults (B d : Nat) (s : Dsk) (vH : Value) (st : ByteArray) (w : World) (hD : dskAt B w d s vH) (hst : 0 ≤ offI s.net st) (hz : ∀ p ∈ fpS s.net st, p.size ≤ 100) :
    Calls Tryz.prog 211 #[.pointer (some ⟨d, 0, none⟩), .string st] w (lineQ B d s vH (listT ((fpS s.net st).map (· ++ ⟨#[42]⟩))) w) := by
  have HD := Lib.hid hD
  obtain ⟨_, _, _, vN, os, ⟨_, _, _, _, _, _, _, c7⟩, _, _, _, _, _, hN, _⟩ := dsk_cells hD
  have HNR := Lib.hid hN.rd
  have hlen := fpS_len s.net st
  obtain ⟨r, hr⟩ : ∃ r, offI s.net st = r := ⟨_, rfl⟩
  have HO := Lib.hid (impl_officeOf vN s.net st w hN.rd)
  rw [hr] at HO hst
  have HF := Lib.hid (fun W h => impl_FaultyPrefixes vN s.net st W (HNR.out.on h))
  obtain ⟨F, hF⟩ : ∃ F, fpS s.net st = F := ⟨_, rfl⟩
  rw [hF] at HF hlen hz ⊢
  have HZ := Lib.hid hz
  clear hD hr hF hN hz
  have q7 := fun W (h : Below w.heap.size w W) => (h.cell (p := ⟨d, 7, none⟩) (block_of_cell c7)).trans c7
  have hr0 : ¬ r < 0 := by omega
  obtain ⟨i0, hi, hz0, hz1, hz2⟩ := info_parts Tryz.infoStr
  go_enter Tryz.func211, Tryz.ntmps211
  go_wp2_with fail
  refine HO.out.mono ?_
  rintro e w1 ⟨rfl, b1⟩
  go_wp2_with fail
  refine (HF.out _ b1).mono ?_
  rintro e w2 ⟨v2, rfl, o2, b2⟩
  have l2 := later_trans b1 b2
  obtain ⟨A2, n2, c2, rfl, hn2, hc2, hm2, hr2⟩ := o2.rd
  subst hn2
  have HRF := Lib.hid hr2
  unfold maxLen at hm2
  have HL2 := Lib.hid l2
  clear o2 hr2 b1 b2 q7 c7
  have ho0 : own (α := ByteArray) 9 w2.heap.size w2 (.slice none 0 0) ((F.take 0).map (· ++ ⟨#[42]⟩)) := own.nil_ _ _ _
  have HO0 := Lib.hid ho0
  have l0 := Below.refl w2.heap.size w2
  clear ho0 l2
  go_wp2_with fail
  go_loopw [5, 22] (fun v i wr => ∃ k : Nat, k ≤ F.length ∧ i = .int .i64 k ∧ Below w2.heap.size w2 wr ∧ own 9 w2.heap.size wr v ((F.take k).map (· ++ ⟨#[42]⟩))) (fun _ i _ => F.length - (intOf i).toNat)
  case atStart => exact ⟨0, Nat.zero_le _, rfl, l0, HO0.out⟩
  case round =>
    obtain ⟨k, hk, rfl, lr, ho⟩ := hrel
    obtain ⟨w3, rfl⟩ : ∃ w3 : World, w3 = wr := ⟨_, rfl⟩
    clear l0
    have HOW := Lib.hid ho
    obtain ⟨Av, m, cp, rfl, hm, _, _, _⟩ := ho.rd
    have hml : m = k := by rw [hm, List.length_map, List.length_take]; omega
    by_cases hlt : k < F.length
    · obtain ⟨b, o, rfl, hb, hx, y1⟩ := rdA.strU HRF.out k hlt
      have y1 := y1 w3 lr
      have HTK : Hid ((F.take (k + 1)).map (· ++ (⟨#[42]⟩ : ByteArray)) = (F.take k).map (· ++ (⟨#[42]⟩ : ByteArray)) ++ [F[k] ++ ⟨#[42]⟩]) := by show _ = _; rw [List.take_succ_eq_append_getElem hlt, List.map_append]; rfl
      have hxz := HZ.out _ (List.getElem_mem hlt)
      have HLG : Hid (((F.take k).map (· ++ (⟨#[42]⟩ : ByteArray))).length = m) := hm.symm
      generalize F[k] = x at *
      generalize (F.take k).map (· ++ (⟨#[42]⟩ : ByteArray)) = gs at *
      have hki : (k : Int) < (F.length : Int) := by omega
      have hki0 : (0 : Int) ≤ (k : Int) := by omega
      have hz3 := lr.size
      have hgs : gs.length ≤ 100000000 := by have := HLG.out; omega
      have hx42 : x.size + (⟨#[42]⟩ : ByteArray).size ≤ 9223372036854775807 := by show _ + 1 ≤ _; omega
      have HXS : Hid ((x ++ (⟨#[42]⟩ : ByteArray)).size ≤ maxLen) := by show _ ≤ _; rw [ByteArray.size_append]; unfold maxLen; show _ + 1 ≤ _; omega
      have HML := Lib.hid hml
      clear ho hm hml
      go_wp2_with (at_builtin; refine wpList_append1' (α := ByteArray) rfl (.tmp 26) (.tmp 29) 23 rfl w2.heap.size 9 i0 _ 16 Tryz.underlying23 hi hz0 hz1 hz2 rfl (by decide) (.slice Av m cp) gs (x ++ ⟨#[42]⟩) rfl (HOW.out.alloc _) ⟨w3.heap.size, 0, none⟩ 1 [.string (x ++ ⟨#[42]⟩)] rfl ⟨HXS.out, rfl⟩ (news_at w3 _ [.string (x ++ ⟨#[42]⟩)]) (by unfold maxLen; omega) (by omega) (by simp; omega) ?_; intro g cap w4 ho4 hg4 ha4 hl4)
      have hb4 : Below w2.heap.size w2 w4 := lr.trans ((((Below.refl w3.heap.size w3).alloc (Nat.le_refl _) _).mono hz3).trans (below_append (HOW.out.alloc _) hg4 (by simp; omega)))
      have HO4 := Lib.hid ho4
      clear ho4 hg4
      go_wp2
      go_roundw
      case rel => exact ⟨k + 1, by omega, by go_num, hb4, by rw [HTK.out]; exact HO4.out⟩
      case measure => simp [intOf]; omega
    · have HE := Lib.hid (show k = F.length by omega)
      have HOE : Hid (own 9 w2.heap.size w3 (.slice Av m cp) (F.map (· ++ (⟨#[42]⟩ : ByteArray)))) := by
        show own _ _ _ _ _
        have := HOW.out
        rwa [HE.out, List.take_length] at this
      have HLT := Lib.hid (impl_listText _ _ w3 HOE.out.rd (by rw [List.length_map]; omega) (fun p hp => by
        obtain ⟨x, hx, rfl⟩ := List.mem_map.1 hp
        have := HZ.out x hx
        rw [ByteArray.size_append]
        show _ + 1 ≤ _
        omega))
      clear ho hm hml
      go_wp2_with fail
      refine HLT.out.mono ?_
      rintro e w4 ⟨rfl, b4⟩
      have l4 := Lib.hid (later_trans (later_trans HL2.out lr) b4)
      go_wp2_with fail
      go_ret
      exact lineQ.of_read HD.out rfl l4.out

/-! ### The words -/
set_option maxRecDepth 100000 in
set_option maxHeartbeats 800000 in
theorem word_net (B d : Nat) (s : Dsk) (vH : Value) (w : World) (hD : dskAt B w d s vH) :
    Calls Tryz.prog 131 #[.pointer (some ⟨d, 0, none⟩), .string netW] w (lineQ B d s vH (fmtN s.net) w) := by
  have HD := Lib.hid hD
  obtain ⟨_, _, _, vN, os, ⟨_, _, _, _, _, _, _, c7⟩, _, _, _, _, _, hN, _⟩ := dsk_cells hD
  have HF := Lib.hid (impl_FormatNetwork vN s.net w hN.rd)
  clear hD hN
  have q_0 : (netW.toList == [108, 101, 116, 116, 101, 114, 115]) = false := by rw [ByteArray.toList_eq]; decide
  have q_1 : (netW.toList == [115, 111, 114, 116]) = false := by rw [ByteArray.toList_eq]; decide
  have q_2 : (netW.toList == [115, 101, 113, 117, 101, 110, 99, 101]) = false := by rw [ByteArray.toList_eq]; decide
  have q_3 : (netW.toList == [115, 101, 97, 108]) = false := by rw [ByteArray.toList_eq]; decide
  have q_4 : (netW.toList == [112, 108, 97, 110]) = false := by rw [ByteArray.toList_eq]; decide
  have q_5 : (netW.toList == [109, 111, 118, 101, 100]) = false := by rw [ByteArray.toList_eq]; decide
  have q_6 : (netW.toList == [102, 111, 114, 119, 97, 114, 100, 115]) = false := by rw [ByteArray.toList_eq]; decide
  have q_7 : (netW.toList == [100, 105, 114, 101, 99, 116]) = false := by rw [ByteArray.toList_eq]; decide
  have q_8 : (netW.toList == [101, 110, 100, 108, 101, 115, 115]) = false := by rw [ByteArray.toList_eq]; decide
  have q_9 : (netW.toList == [104, 101, 108, 100]) = false := by rw [ByteArray.toList_eq]; decide
  have q_10 : (netW.toList == [100, 97, 121]) = false := by rw [ByteArray.toList_eq]; decide
  have q_11 : (netW.toList == [116, 114, 97, 121, 115]) = false := by rw [ByteArray.toList_eq]; decide
  have q_t : (netW.toList == [110, 101, 116]) = true := by rw [ByteArray.toList_eq]; decide
  generalize netW = wd at *
  go_enter Tryz.func131, Tryz.ntmps131
  go_wp2_with fail
  refine HF.out.mono ?_
  rintro e w1 ⟨rfl, b1⟩
  go_wp2_with fail
  go_ret
  exact lineQ.of_read HD.out rfl b1
set_option maxRecDepth 100000 in
set_option maxHeartbeats 800000 in
theorem one_faults (B d : Nat) (s' : Dsk) (vH : Value) (f a : ByteArray) (w : World) (HC : Calls Tryz.prog 211 #[.pointer (some ⟨d, 0, none⟩), .string f] w (lineQ B d s' vH a w)) :
    Calls Tryz.prog 137 #[.pointer (some ⟨d, 0, none⟩), .string faultsW, .string f] w (lineQ B d s' vH a w) := by
  have HCC := Lib.hid HC; clear HC
  have q_0 : (faultsW.toList == [112, 97, 115, 115]) = false := by rw [ByteArray.toList_eq]; decide
  have q_1 : (faultsW.toList == [99, 111, 117, 110, 116]) = false := by rw [ByteArray.toList_eq]; decide
  have q_2 : (faultsW.toList == [114, 97, 110, 107]) = false := by rw [ByteArray.toList_eq]; decide
  have q_3 : (faultsW.toList == [108, 111, 97, 100, 115]) = false := by rw [ByteArray.toList_eq]; decide
  have q_4 : (faultsW.toList == [115, 116, 97, 121]) = false := by rw [ByteArray.toList_eq]; decide
  have q_5 : (faultsW.toList == [114, 101, 115, 111, 108, 118, 101]) = false := by rw [ByteArray.toList_eq]; decide
  have q_6 : (faultsW.toList == [104, 111, 108, 100]) = false := by rw [ByteArray.toList_eq]; decide
  have q_7 : (faultsW.toList == [115, 105, 122, 101]) = false := by rw [ByteArray.toList_eq]; decide
  have q_8 : (faultsW.toList == [102, 97, 116, 101]) = false := by rw [ByteArray.toList_eq]; decide
  have q_t : (faultsW.toList == [102, 97, 117, 108, 116, 115]) = true := by rw [ByteArray.toList_eq]; decide
  generalize faultsW = wd at *
  go_enter Tryz.func137, Tryz.ntmps137
  go_wp2_with fail
  refine HCC.out.mono ?_
  rintro e w1 ⟨rfl, h1⟩
  go_wp2_with fail
  go_ret
  exact ⟨rfl, h1⟩
set_option maxRecDepth 100000 in
set_option maxHeartbeats 800000 in
theorem two_path (B d : Nat) (s' : Dsk) (vH : Value) (f g a : ByteArray) (w : World) (HC : Calls Tryz.prog 216 #[.pointer (some ⟨d, 0, none⟩), .string f, .string g] w (lineQ B d s' vH a w)) :
    Calls Tryz.prog 138 #[.pointer (some ⟨d, 0, none⟩), .string pathW, .string f, .string g] w (lineQ B d s' vH a w) := by
  have HCC := Lib.hid HC; clear HC
  have q_0 : (pathW.toList == [115, 119, 97, 112]) = false := by rw [ByteArray.toList_eq]; decide
  have q_1 : (pathW.toList == [102, 111, 114, 119, 97, 114, 100]) = false := by rw [ByteArray.toList_eq]; decide
  have q_t : (pathW.toList == [112, 97, 116, 104]) = true := by rw [ByteArray.toList_eq]; decide
  generalize pathW = wd at *
  go_enter Tryz.func138, Tryz.ntmps138
  go_wp2_with fail
  refine HCC.out.mono ?_
  rintro e w1 ⟨rfl, h1⟩
  go_wp2_with fail
  go_ret
  exact ⟨rfl, h1⟩

end Go.Proofs.YtpinkbodbedajaaGreatDoor

namespace Go.Proofs.YtpinkbodbedajaaGreatDoor
open Go.RowKit

def codeW : ByteArray := ⟨#[99, 111, 100, 101]⟩
def barsW : ByteArray := ⟨#[98, 97, 114, 115]⟩
def readW : ByteArray := ⟨#[114, 101, 97, 100]⟩
set_option maxRecDepth 100000 in
set_option maxHeartbeats 800000 in
theorem one_code (B d : Nat) (s : Dsk) (vH : Value) (f a : ByteArray) (w : World) (hD : dskAt B w d s vH) (HC : Calls Tryz.prog 212 #[.string f] w fun e w' => e = .returned (.string a) ∧ Below w.heap.size w w') :
    Calls Tryz.prog 137 #[.pointer (some ⟨d, 0, none⟩), .string codeW, .string f] w (lineQ B d s vH a w) := by
  have HCC := Lib.hid HC; clear HC
  have HD := Lib.hid hD; clear hD
  have q_0 : (codeW.toList == [112, 97, 115, 115]) = false := by rw [ByteArray.toList_eq]; decide
  have q_1 : (codeW.toList == [99, 111, 117, 110, 116]) = false := by rw [ByteArray.toList_eq]; decide
  have q_2 : (codeW.toList == [114, 97, 110, 107]) = false := by rw [ByteArray.toList_eq]; decide
  have q_3 : (codeW.toList == [108, 111, 97, 100, 115]) = false := by rw [ByteArray.toList_eq]; decide
  have q_4 : (codeW.toList == [115, 116, 97, 121]) = false := by rw [ByteArray.toList_eq]; decide
  have q_5 : (codeW.toList == [114, 101, 115, 111, 108, 118, 101]) = false := by rw [ByteArray.toList_eq]; decide
  have q_6 : (codeW.toList == [104, 111, 108, 100]) = false := by rw [ByteArray.toList_eq]; decide
  have q_7 : (codeW.toList == [115, 105, 122, 101]) = false := by rw [ByteArray.toList_eq]; decide
  have q_8 : (codeW.toList == [102, 97, 116, 101]) = false := by rw [ByteArray.toList_eq]; decide
  have q_9 : (codeW.toList == [102, 97, 117, 108, 116, 115]) = false := by rw [ByteArray.toList_eq]; decide
  have q_t : (codeW.toList == [99, 111, 100, 101]) = true := by rw [ByteArray.toList_eq]; decide
  generalize codeW = wd at *
  go_enter Tryz.func137, Tryz.ntmps137
  go_wp2_with fail
  refine HCC.out.mono ?_
  rintro e w1 ⟨rfl, h1⟩
  have H1 := Lib.hid h1; clear h1
  go_wp2_with fail
  go_ret
  exact lineQ.of_read HD.out rfl H1.out
set_option maxRecDepth 100000 in
set_option maxHeartbeats 800000 in
theorem one_bars (B d : Nat) (s : Dsk) (vH : Value) (f a : ByteArray) (o : Bool) (w : World) (hD : dskAt B w d s vH) (HC : Calls Tryz.prog 24 #[.string f] w fun e w' => e = .returned (.tuple #[.string a, .bool o]) ∧ Below w.heap.size w w') :
    Calls Tryz.prog 137 #[.pointer (some ⟨d, 0, none⟩), .string barsW, .string f] w (lineQ B d s vH a w) := by
  have HCC := Lib.hid HC; clear HC
  have HD := Lib.hid hD; clear hD
  have q_0 : (barsW.toList == [112, 97, 115, 115]) = false := by rw [ByteArray.toList_eq]; decide
  have q_1 : (barsW.toList == [99, 111, 117, 110, 116]) = false := by rw [ByteArray.toList_eq]; decide
  have q_2 : (barsW.toList == [114, 97, 110, 107]) = false := by rw [ByteArray.toList_eq]; decide
  have q_3 : (barsW.toList == [108, 111, 97, 100, 115]) = false := by rw [ByteArray.toList_eq]; decide
  have q_4 : (barsW.toList == [115, 116, 97, 121]) = false := by rw [ByteArray.toList_eq]; decide
  have q_5 : (barsW.toList == [114, 101, 115, 111, 108, 118, 101]) = false := by rw [ByteArray.toList_eq]; decide
  have q_6 : (barsW.toList == [104, 111, 108, 100]) = false := by rw [ByteArray.toList_eq]; decide
  have q_7 : (barsW.toList == [115, 105, 122, 101]) = false := by rw [ByteArray.toList_eq]; decide
  have q_8 : (barsW.toList == [102, 97, 116, 101]) = false := by rw [ByteArray.toList_eq]; decide
  have q_9 : (barsW.toList == [102, 97, 117, 108, 116, 115]) = false := by rw [ByteArray.toList_eq]; decide
  have q_10 : (barsW.toList == [99, 111, 100, 101]) = false := by rw [ByteArray.toList_eq]; decide
  have q_t : (barsW.toList == [98, 97, 114, 115]) = true := by rw [ByteArray.toList_eq]; decide
  generalize barsW = wd at *
  go_enter Tryz.func137, Tryz.ntmps137
  go_wp2_with fail
  refine HCC.out.mono ?_
  rintro e w1 ⟨rfl, h1⟩
  have H1 := Lib.hid h1; clear h1
  go_wp2_with fail
  go_ret
  exact lineQ.of_read HD.out rfl H1.out
set_option maxRecDepth 100000 in
set_option maxHeartbeats 800000 in
theorem one_read (B d : Nat) (s : Dsk) (vH : Value) (f a : ByteArray) (o : Bool) (w : World) (hD : dskAt B w d s vH) (HC : Calls Tryz.prog 213 #[.string f] w fun e w' => e = .returned (.tuple #[.string a, .bool o]) ∧ Below w.heap.size w w') :
    Calls Tryz.prog 137 #[.pointer (some ⟨d, 0, none⟩), .string readW, .string f] w (lineQ B d s vH a w) := by
  have HCC := Lib.hid HC; clear HC
  have HD := Lib.hid hD; clear hD
  have q_0 : (readW.toList == [112, 97, 115, 115]) = false := by rw [ByteArray.toList_eq]; decide
  have q_1 : (readW.toList == [99, 111, 117, 110, 116]) = false := by rw [ByteArray.toList_eq]; decide
  have q_2 : (readW.toList == [114, 97, 110, 107]) = false := by rw [ByteArray.toList_eq]; decide
  have q_3 : (readW.toList == [108, 111, 97, 100, 115]) = false := by rw [ByteArray.toList_eq]; decide
  have q_4 : (readW.toList == [115, 116, 97, 121]) = false := by rw [ByteArray.toList_eq]; decide
  have q_5 : (readW.toList == [114, 101, 115, 111, 108, 118, 101]) = false := by rw [ByteArray.toList_eq]; decide
  have q_6 : (readW.toList == [104, 111, 108, 100]) = false := by rw [ByteArray.toList_eq]; decide
  have q_7 : (readW.toList == [115, 105, 122, 101]) = false := by rw [ByteArray.toList_eq]; decide
  have q_8 : (readW.toList == [102, 97, 116, 101]) = false := by rw [ByteArray.toList_eq]; decide
  have q_9 : (readW.toList == [102, 97, 117, 108, 116, 115]) = false := by rw [ByteArray.toList_eq]; decide
  have q_10 : (readW.toList == [99, 111, 100, 101]) = false := by rw [ByteArray.toList_eq]; decide
  have q_11 : (readW.toList == [98, 97, 114, 115]) = false := by rw [ByteArray.toList_eq]; decide
  have q_t : (readW.toList == [114, 101, 97, 100]) = true := by rw [ByteArray.toList_eq]; decide
  generalize readW = wd at *
  go_enter Tryz.func137, Tryz.ntmps137
  go_wp2_with fail
  refine HCC.out.mono ?_
  rintro e w1 ⟨rfl, h1⟩
  have H1 := Lib.hid h1; clear h1
  go_wp2_with fail
  go_ret
  exact lineQ.of_read HD.out rfl H1.out

/-- A line of a word and one field. -/
def lnOne (wd f : ByteArray) : ByteArray := wd ++ ⟨#[32]⟩ ++ f
theorem lnOne_size (wd f : ByteArray) : (lnOne wd f).size = wd.size + 1 + f.size := by
  unfold lnOne; simp only [ByteArray.size_append]; rfl
theorem lnOne_10 {wd f : ByteArray} (h1 : (10 : UInt8) ∉ wd.data.toList) (h2 : (10 : UInt8) ∉ f.data.toList) : (10 : UInt8) ∉ (lnOne wd f).data.toList := by
  unfold lnOne
  rw [ba_append, ba_append, List.mem_append, List.mem_append]
  rintro ((h | h) | h)
  · exact h1 h
  · exact absurd h (by decide)
  · exact h2 h
theorem fmtP_not {p : Plc} {c : UInt8} (h : c = 10 ∨ c = 32) : c ∉ (fmtP p).data.toList := fun m => by
  rcases fmtP_mem p _ m with h1 | h1
  · rcases h with rfl | rfl <;> simp at h1
  · rcases h with rfl | rfl <;> simp at h1
theorem code_not {s : ByteArray} (hs : isCode s = true) {c : UInt8} (h : c = 10 ∨ c = 32) : c ∉ s.data.toList := fun m => by
  have h1 := (code_mem hs).2 _ m
  rcases h with rfl | rfl <;> simp at h1
theorem bar_not {s : ByteArray} (hs : ∀ b ∈ s.data.toList, barCh b) {c : UInt8} (h : c = 10 ∨ c = 32) : c ∉ s.data.toList := fun m => by
  rcases h with rfl | rfl
  · exact absurd (hs _ m) (by unfold barCh; decide)
  · exact absurd (hs _ m) (by unfold barCh; decide)

theorem step_code (s : Dsk) {p : Plc} (hp : plcOk p = true) : StepOk BarsW (lnOne codeW (fmtP p)) s s (codeP p) := fun B d vH w _ _ hD => by
  have hz := fmtP_size p
  refine line_one B d s vH (lnOne codeW (fmtP p)) codeW (fmtP p) (fmtP p) _ w (by rw [lnOne_size, hz]; decide) (by omega) (cut_app (by decide)) (parts_one (fmtP_not (.inr rfl)))
    (by rw [ByteArray.toList_eq]; decide) (by rw [ByteArray.toList_eq]; decide) (by rw [ByteArray.toList_eq]; decide) (by rw [ByteArray.toList_eq]; decide) fun W hW =>
    one_code B d s vH (fmtP p) (codeP p) W (hD.below hW) (impl_codeOfText_yes (fmtP p) p W (Lib.hid fun V => ?_) hp)
  obtain ⟨h1, h2, h3, h4⟩ := fmtP_text p
  have := impl_ParsePlace_yes (fmtP p) (codeP p) V h1 h2 h3 h4 (codeP_code p)
  rw [placeN_code hp] at this
  exact this
theorem step_bars (s : Dsk) {c : ByteArray} (hc : isCode c = true) : StepOk BarsW (lnOne barsW c) s s (barsOf c.data.toList) := fun B d vH w hX _ hD => by
  have hz := (code_mem hc).1
  exact line_one B d s vH (lnOne barsW c) barsW c c _ w (by rw [lnOne_size, hz]; decide) (by omega) (cut_app (by decide)) (parts_one (code_not hc (.inr rfl)))
    (by rw [ByteArray.toList_eq]; decide) (by rw [ByteArray.toList_eq]; decide) (by rw [ByteArray.toList_eq]; decide) (by rw [ByteArray.toList_eq]; decide) fun W hW =>
    one_bars B d s vH c _ true W (hD.below hW) ((impl_BarsOf_yes c W hc (hX.on hW)).mono fun e w' h => ⟨h.1, by rw [← h.2]; exact Below.refl _ _⟩)
theorem step_read (s : Dsk) {b c : ByteArray} {ds : Nat → Nat} {u : Nat} (hB : Bars b ds u) (hu : u ≤ 8) (hch : ∀ x ∈ b.data.toList, barCh x) (hc : digC ds = c) : StepOk BarsW (lnOne readW b) s s c := fun B d vH w hX _ hD => by
  have hz := hB.size
  subst hc
  exact line_one B d s vH (lnOne readW b) readW b b _ w (by rw [lnOne_size, hz]; decide) (by omega) (cut_app (by decide)) (parts_one (bar_not hch (.inr rfl)))
    (by rw [ByteArray.toList_eq]; decide) (by rw [ByteArray.toList_eq]; decide) (by rw [ByteArray.toList_eq]; decide) (by rw [ByteArray.toList_eq]; decide) fun W hW =>
    one_read B d s vH b _ true W (hD.below hW) (impl_RecoverBars b ds u W hB hu (hX.on hW))

def codeLs (p : Plc) (g : Nat) : List ByteArray := [lnOne codeW (fmtP p), lnOne barsW (codeP p), lnOne readW (barsOf (codeP p).data.toList), lnOne readW (smudge (barsOf (codeP p).data.toList) g)]
def codeAs (p : Plc) : List ByteArray := [codeP p, barsOf (codeP p).data.toList, codeP p, codeP p]
theorem codeAll {p : Plc} : digs (codeP p).data.toList = true ∧ (codeP p).data.toList.length = 7 := by
  have h := codeP_code p
  unfold isCode at h
  rw [Bool.and_eq_true] at h
  exact ⟨h.2, by simpa using codeP_size p⟩
theorem run_code {p : Plc} (hp : plcOk p = true) {g : Nat} (hg : g < 8) (w : World) (hX : BarsW w) :
    Calls Tryz.prog 20 #[.string (linesT (codeLs p g))] w fun e w' => e = .returned (.string (linesT (codeAs p))) ∧ Below w.heap.size w w' := by
  have hc := codeP_code p
  obtain ⟨hd, hl⟩ := codeAll (p := p)
  have hB := bars_code hl hd
  have hS := bars_smudge hB hg
  have hz := codeP_size p
  have hf := fmtP_size p
  have hbz := hB.size
  have hsz := hS.size
  have hch := barsOf_ch hd
  have n0 := lnOne_size codeW (fmtP p)
  have n1 := lnOne_size barsW (codeP p)
  have n2 := lnOne_size readW (barsOf (codeP p).data.toList)
  have n3 := lnOne_size readW (smudge (barsOf (codeP p).data.toList) g)
  have k0 : codeW.size = 4 := rfl
  have k1 : barsW.size = 4 := rfl
  have k2 : readW.size = 4 := rfl
  refine run_lines BarsW (codeLs p g) (codeAs p) (fun _ => firstD) w rfl rfl (by show 4 ≤ 100; decide) (fun l h => ?_) (fun l h => ?_) (fun a h => ?_) ?_ ?_ (fun W hW => hX.on hW) (fun k hk => ?_)
  · simp only [codeLs, List.mem_cons, List.not_mem_nil, or_false] at h
    rcases h with rfl | rfl | rfl | rfl
    · exact lnOne_10 (by decide) (fmtP_not (.inl rfl))
    · exact lnOne_10 (by decide) (code_not hc (.inl rfl))
    · exact lnOne_10 (by decide) (bar_not hch (.inl rfl))
    · exact lnOne_10 (by decide) (bar_not (smudge_ch hch) (.inl rfl))
  · simp only [codeLs, List.mem_cons, List.not_mem_nil, or_false] at h
    rcases h with rfl | rfl | rfl | rfl <;> omega
  · simp only [codeAs, List.mem_cons, List.not_mem_nil, or_false] at h
    rcases h with rfl | rfl | rfl | rfl <;> omega
  · simp only [codeLs, linesT_cons, linesT_nil, ByteArray.size_append]
    show _ + 1 + (_ + 1 + (_ + 1 + (_ + 1 + 0))) ≤ _
    omega
  · simp only [codeAs, linesT_cons, linesT_nil, ByteArray.size_append]
    show _ + 1 + (_ + 1 + (_ + 1 + (_ + 1 + 0))) ≤ _
    omega
  · match k, hk with
    | 0, _ => exact step_code firstD hp
    | 1, _ => exact step_bars firstD hc
    | 2, _ => exact step_read firstD hB (Nat.le_refl _) hch (digC_code hc)
    | 3, _ => exact step_read firstD hS (by omega) (smudge_ch hch) (digC_code hc)
    | k + 4, hk => exact absurd hk (by unfold codeLs; simp)

end Go.Proofs.YtpinkbodbedajaaGreatDoor
