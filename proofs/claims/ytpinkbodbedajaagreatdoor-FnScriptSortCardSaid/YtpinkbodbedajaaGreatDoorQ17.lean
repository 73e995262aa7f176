/- ZB ZI ZF JI JK KG KA KH -/
import Derived.Test.YtpinkbodbedajaaGreatDoorQ16
import Derived.Test.YtpinkbodbedajaaGreatDoorQ12
import Derived.Test.YtpinkbodbedajaaGreatDoorQ8
import Derived.Test.YtpinkbodbedajaaGreatDoorQ11
import Derived.Test.YtpinkbodbedajaaGreatDoorQ15
namespace Go.Proofs.YtpinkbodbedajaaGreatDoor
open Go.RowKit

theorem own_kd {α : Type} [Flat α] {T base B d : Nat} {w w' : World} {v vH : Value} {xs : List α} {s : Dsk} (h : own T base w v xs) (hD : dskAt B w d s vH) (hT : T ≠ 104) (hA : apart vH v) (hK : Kd d vH w w') : own T base w' v xs :=
  h.keepBlk fun k e => by
    refine hK.block k (h.blk k e).2 (fun e2 => ?_) fun e2 => ?_
    · subst e2
      obtain ⟨c1, h1⟩ := own_obj h e
      obtain ⟨c2, h2⟩ := hD.obj
      rw [h2] at h1
      injection h1 with h1
      injection h1 with _ h1 _
      exact hT h1.symm
    · unfold apart at hA
      rcases hA with hA | hA
      · rw [← e2] at hA; cases hA
      · exact hA (by rw [← e2, e])
theorem builder_obj {T e B b : Nat} {bs : List Value} {w : World} (h : Lib.IsBuilderF T e B b bs w) : ∃ (cur : Array Value) (fz : Nat × Nat), w.heap[b]? = some (.cells cur T fz) := by
  rcases h with ⟨_, _, h, _⟩ | ⟨_, _, h, _⟩ <;> exact ⟨_, _, h⟩
theorem own_others {α : Type} [Flat α] {T base b : Nat} {w w' : World} {v : Value} {xs : List α} (h : own T base w v xs) (hO : Lib.OthersKept 5 (some b) w w') (hb : ∃ (cur : Array Value) (fz : Nat × Nat), w.heap[b]? = some (.cells cur 107 fz)) (h1 : T ≠ 5) (h2 : T ≠ 107) : own T base w' v xs :=
  h.keepT fun k cur hc => by
    obtain ⟨cb, fb, hb⟩ := hb
    rw [hO k _ hc (fun e' => by
      injection e' with e'
      subst e'
      rw [hb] at hc
      injection hc with hc
      injection hc with _ hc _
      exact h2 hc.symm) fun c fz e' => by
        injection e' with _ e' _
        exact h1 e', hc]
theorem apart_heldN {α : Type} [El α] {T base : Nat} {w : World} {v vH vH' : Value} {xs : List α} (hA : apart vH v) (hN : heldN w vH vH') (ho : own T base w v xs) : apart vH' v := by
  unfold apart at *
  rcases hN with h | h
  · rw [h]; exact hA
  · cases hv : vH'.ownBlock with
    | none => exact .inl rfl
    | some k =>
      refine .inr fun e => ?_
      have h1 := h k hv
      have h2 := (ho.blk k e.symm).2
      omega
theorem strCells_app (a b : ByteArray) : Lib.strCells (a ++ b) = Lib.strCells a ++ Lib.strCells b := by
  rw [Lib.strCells_eq, Lib.strCells_eq, Lib.strCells_eq, ba_append, Lib.byteCells_append]
def bld (B b : Nat) (o : ByteArray) (w : World) : Prop := Lib.IsBuilderF 107 5 B b (Lib.strCells o) w

theorem bld_write (B b : Nat) (o p : ByteArray) (w : World) (h : bld B b o w) (hlen : o.size + p.size ≤ 140737488355328) (hBw : B ≤ w.heap.size) :
    Calls Tryz.prog 67 #[.pointer (some ⟨b, 0, none⟩), .string p] w fun e w' => e = .returned (.tuple #[.int .i64 p.size, .nilIface]) ∧ bld B b (o ++ p) w' ∧ Below B w w' ∧ Lib.OthersKept 5 (some b) w w' :=
  (Any.Builder_WriteString_k (ρ := Tryz.lays156_ren) { Tryz.lays156 with } Tryz.Builder_Extra_156 B b (Lib.strCells o) p w h (by rw [Lib.strCells_length]; exact hlen) hBw).mono fun e w' h => ⟨h.1, .inr (by rw [strCells_app]; exact h.2.1), h.2.2.1, h.2.2.2⟩
theorem bld_len (B b : Nat) (o : ByteArray) (w : World) (h : bld B b o w) :
    Calls Tryz.prog 66 #[.pointer (some ⟨b, 0, none⟩)] w fun e w' => e = .returned (.int .i64 o.size) ∧ w = w' :=
  (Tryz.Builder_Len_f B b (Lib.strCells o) w h).mono fun e w' h => ⟨by rw [h.1, Lib.strCells_length], h.2.symm⟩
theorem bld_string (B b : Nat) (o : ByteArray) (w : World) (h : bld B b o w) (hBw : B ≤ w.heap.size) :
    Calls Tryz.prog 69 #[.pointer (some ⟨b, 0, none⟩)] w fun e w' => e = .returned (.string o) ∧ Below B w w' :=
  (Tryz.Builder_String_any_k B b o.data.toList w h hBw).mono fun e w' h => ⟨by rw [h.1], h.2.2.1⟩

def firstD : Dsk := ⟨[], ⟨⟨4, 2, [⟨#[48, 48, 48, 48, 48, 48, 48]⟩]⟩, [], [], 10⟩, [⟨⟨#[97]⟩, []⟩]⟩

theorem own_str1 {T B g n c : Nat} {w : World} {ps : List ByteArray} (h : own T B w (.slice (some ⟨g, 0, none⟩) n c) ps) (k : Nat) (hk : k < ps.length) : w.cell? ⟨g, k, none⟩ = some (.string ps[k]) := by
  obtain ⟨A, n', c', hv, _, _, _, hr⟩ := h.rd
  injection hv with e1 _ _
  subst e1
  obtain ⟨b, o, e, _, _, h1⟩ := hr.str k hk
  injection e with e
  injection e with e1 e2
  subst e1 e2
  simpa using h1
theorem block_of_cell {w : World} {p : Addr} {u : Value} (h : w.cell? p = some u) : p.block < w.heap.size := World.block_lt_of_cell? _ _ h
theorem empty_tests {x : ByteArray} (h : x.size = 0) : x.toList.isEmpty = true ∧ (x.toList == []) = true := by
  have he : x.toList.isEmpty = true := by rw [ByteArray.toList_eq, List.isEmpty_iff_length_eq_zero]; simpa using h
  exact ⟨he, by rw [List.isEmpty_iff.1 he]; rfl⟩
theorem nonempty_tests {x : ByteArray} (h : x.size ≠ 0) : x.toList.isEmpty = false ∧ (x.toList == []) = false := by
  have he : x.toList.isEmpty = false := by rw [ByteArray.toList_eq, Bool.eq_false_iff, Ne, List.isEmpty_iff_length_eq_zero]; simpa using h
  refine ⟨he, ?_⟩
  cases hq : (x.toList == [])
  · rfl
  · rw [beq_iff_eq] at hq; rw [hq] at he; cases he
theorem orNo_empty {a : ByteArray} (h : a.size = 0) : orNo a = ⟨#[110, 111]⟩ := by unfold orNo; rw [sEq_empty.2 h, if_pos rfl]
theorem orNo_size (a : ByteArray) : (orNo a).size ≤ a.size + 2 := by
  unfold orNo
  split
  · show 2 ≤ _; omega
  · omega

theorem first_worlds (w : World) : Below w.heap.size w ((((w.alloc (Obj.cells #[.string ⟨#[48, 48, 48, 48, 48, 48, 48]⟩] 9)).alloc (Obj.cells #[.string ⟨#[97]⟩, .slice none 0 0] 102)).alloc (Obj.cells #[.slice none 0 0, .int .i64 4, .int .i64 2, .slice (some ⟨w.heap.size, 0, none⟩) 1 1, .slice none 0 0, .slice none 0 0, .int .i64 10, .slice (some ⟨w.heap.size + 1, 0, none⟩) 1 1] 104)).alloc (Obj.cells #[.pointer none, .slice none 0 0] 107)) ∧ dskAt w.heap.size ((((w.alloc (Obj.cells #[.string ⟨#[48, 48, 48, 48, 48, 48, 48]⟩] 9)).alloc (Obj.cells #[.string ⟨#[97]⟩, .slice none 0 0] 102)).alloc (Obj.cells #[.slice none 0 0, .int .i64 4, .int .i64 2, .slice (some ⟨w.heap.size, 0, none⟩) 1 1, .slice none 0 0, .slice none 0 0, .int .i64 10, .slice (some ⟨w.heap.size + 1, 0, none⟩) 1 1] 104)).alloc (Obj.cells #[.pointer none, .slice none 0 0] 107)) (w.heap.size + 1 + 1) firstD (.slice none 0 0) ∧ bld w.heap.size (w.heap.size + 1 + 1 + 1) ⟨#[]⟩ ((((w.alloc (Obj.cells #[.string ⟨#[48, 48, 48, 48, 48, 48, 48]⟩] 9)).alloc (Obj.cells #[.string ⟨#[97]⟩, .slice none 0 0] 102)).alloc (Obj.cells #[.slice none 0 0, .int .i64 4, .int .i64 2, .slice (some ⟨w.heap.size, 0, none⟩) 1 1, .slice none 0 0, .slice none 0 0, .int .i64 10, .slice (some ⟨w.heap.size + 1, 0, none⟩) 1 1] 104)).alloc (Obj.cells #[.pointer none, .slice none 0 0] 107)) ∧ ((((w.alloc (Obj.cells #[.string ⟨#[48, 48, 48, 48, 48, 48, 48]⟩] 9)).alloc (Obj.cells #[.string ⟨#[97]⟩, .slice none 0 0] 102)).alloc (Obj.cells #[.slice none 0 0, .int .i64 4, .int .i64 2, .slice (some ⟨w.heap.size, 0, none⟩) 1 1, .slice none 0 0, .slice none 0 0, .int .i64 10, .slice (some ⟨w.heap.size + 1, 0, none⟩) 1 1] 104)).alloc (Obj.cells #[.pointer none, .slice none 0 0] 107)).heap.size = w.heap.size + 1 + 1 + 1 + 1 := by
  have z1 : (w.alloc (Obj.cells #[.string ⟨#[48, 48, 48, 48, 48, 48, 48]⟩] 9)).heap.size = w.heap.size + 1 := by simp
  have z2 : ((w.alloc (Obj.cells #[.string ⟨#[48, 48, 48, 48, 48, 48, 48]⟩] 9)).alloc (Obj.cells #[.string ⟨#[97]⟩, .slice none 0 0] 102)).heap.size = w.heap.size + 1 + 1 := by simp
  have z3 : (((w.alloc (Obj.cells #[.string ⟨#[48, 48, 48, 48, 48, 48, 48]⟩] 9)).alloc (Obj.cells #[.string ⟨#[97]⟩, .slice none 0 0] 102)).alloc (Obj.cells #[.slice none 0 0, .int .i64 4, .int .i64 2, .slice (some ⟨w.heap.size, 0, none⟩) 1 1, .slice none 0 0, .slice none 0 0, .int .i64 10, .slice (some ⟨w.heap.size + 1, 0, none⟩) 1 1] 104)).heap.size = w.heap.size + 1 + 1 + 1 := by simp
  have z4 : ((((w.alloc (Obj.cells #[.string ⟨#[48, 48, 48, 48, 48, 48, 48]⟩] 9)).alloc (Obj.cells #[.string ⟨#[97]⟩, .slice none 0 0] 102)).alloc (Obj.cells #[.slice none 0 0, .int .i64 4, .int .i64 2, .slice (some ⟨w.heap.size, 0, none⟩) 1 1, .slice none 0 0, .slice none 0 0, .int .i64 10, .slice (some ⟨w.heap.size + 1, 0, none⟩) 1 1] 104)).alloc (Obj.cells #[.pointer none, .slice none 0 0] 107)).heap.size = w.heap.size + 1 + 1 + 1 + 1 := by simp
  have o1 : own (α := ByteArray) 9 w.heap.size (w.alloc (Obj.cells #[.string ⟨#[48, 48, 48, 48, 48, 48, 48]⟩] 9)) (.slice (some ⟨w.heap.size, 0, none⟩) 1 1) [⟨#[48, 48, 48, 48, 48, 48, 48]⟩] := own.made1 w 9 [.string ⟨#[48, 48, 48, 48, 48, 48, 48]⟩] _ ⟨by unfold maxLen; decide, rfl⟩ (Nat.le_refl _)
  have o2 : own (α := OfV) 102 w.heap.size ((w.alloc (Obj.cells #[.string ⟨#[48, 48, 48, 48, 48, 48, 48]⟩] 9)).alloc (Obj.cells #[.string ⟨#[97]⟩, .slice none 0 0] 102)) (.slice (some ⟨w.heap.size + 1, 0, none⟩) 1 1) [⟨⟨#[97]⟩, .slice none 0 0⟩] := by
    have h := own.made1 (α := OfV) (base := w.heap.size) (w.alloc (Obj.cells #[.string ⟨#[48, 48, 48, 48, 48, 48, 48]⟩] 9)) 102 [.string ⟨#[97]⟩, .slice none 0 0] ⟨⟨#[97]⟩, .slice none 0 0⟩ ⟨rfl, by unfold maxLen; decide, rfl⟩ (by rw [z1]; omega)
    rw [z1] at h
    exact h
  have h3 : (((w.alloc (Obj.cells #[.string ⟨#[48, 48, 48, 48, 48, 48, 48]⟩] 9)).alloc (Obj.cells #[.string ⟨#[97]⟩, .slice none 0 0] 102)).alloc (Obj.cells #[.slice none 0 0, .int .i64 4, .int .i64 2, .slice (some ⟨w.heap.size, 0, none⟩) 1 1, .slice none 0 0, .slice none 0 0, .int .i64 10, .slice (some ⟨w.heap.size + 1, 0, none⟩) 1 1] 104)).heap[w.heap.size + 1 + 1]? = some (Obj.cells #[.slice none 0 0, .int .i64 4, .int .i64 2, .slice (some ⟨w.heap.size, 0, none⟩) 1 1, .slice none 0 0, .slice none 0 0, .int .i64 10, .slice (some ⟨w.heap.size + 1, 0, none⟩) 1 1] 104 (0, 0)) := by
    have := World.alloc_heap_new ((w.alloc (Obj.cells #[.string ⟨#[48, 48, 48, 48, 48, 48, 48]⟩] 9)).alloc (Obj.cells #[.string ⟨#[97]⟩, .slice none 0 0] 102)) (Obj.cells #[.slice none 0 0, .int .i64 4, .int .i64 2, .slice (some ⟨w.heap.size, 0, none⟩) 1 1, .slice none 0 0, .slice none 0 0, .int .i64 10, .slice (some ⟨w.heap.size + 1, 0, none⟩) 1 1] 104)
    rwa [z2] at this
  have h4 : ((((w.alloc (Obj.cells #[.string ⟨#[48, 48, 48, 48, 48, 48, 48]⟩] 9)).alloc (Obj.cells #[.string ⟨#[97]⟩, .slice none 0 0] 102)).alloc (Obj.cells #[.slice none 0 0, .int .i64 4, .int .i64 2, .slice (some ⟨w.heap.size, 0, none⟩) 1 1, .slice none 0 0, .slice none 0 0, .int .i64 10, .slice (some ⟨w.heap.size + 1, 0, none⟩) 1 1] 104)).alloc (Obj.cells #[.pointer none, .slice none 0 0] 107)).heap[w.heap.size + 1 + 1]? = some (Obj.cells #[.slice none 0 0, .int .i64 4, .int .i64 2, .slice (some ⟨w.heap.size, 0, none⟩) 1 1, .slice none 0 0, .slice none 0 0, .int .i64 10, .slice (some ⟨w.heap.size + 1, 0, none⟩) 1 1] 104 (0, 0)) := (Below.heap_alloc _ _ _ (by rw [z3]; omega)).trans h3
  have h5 : ((((w.alloc (Obj.cells #[.string ⟨#[48, 48, 48, 48, 48, 48, 48]⟩] 9)).alloc (Obj.cells #[.string ⟨#[97]⟩, .slice none 0 0] 102)).alloc (Obj.cells #[.slice none 0 0, .int .i64 4, .int .i64 2, .slice (some ⟨w.heap.size, 0, none⟩) 1 1, .slice none 0 0, .slice none 0 0, .int .i64 10, .slice (some ⟨w.heap.size + 1, 0, none⟩) 1 1] 104)).alloc (Obj.cells #[.pointer none, .slice none 0 0] 107)).heap[w.heap.size + 1 + 1 + 1]? = some (Obj.cells #[.pointer none, .slice none 0 0] 107 (0, 0)) := by
    have := World.alloc_heap_new (((w.alloc (Obj.cells #[.string ⟨#[48, 48, 48, 48, 48, 48, 48]⟩] 9)).alloc (Obj.cells #[.string ⟨#[97]⟩, .slice none 0 0] 102)).alloc (Obj.cells #[.slice none 0 0, .int .i64 4, .int .i64 2, .slice (some ⟨w.heap.size, 0, none⟩) 1 1, .slice none 0 0, .slice none 0 0, .int .i64 10, .slice (some ⟨w.heap.size + 1, 0, none⟩) 1 1] 104)) (Obj.cells #[.pointer none, .slice none 0 0] 107)
    rwa [z3] at this
  refine ⟨((((Below.refl _ w).alloc (Nat.le_refl _) _).alloc (by rw [z1]; omega) _).alloc (by rw [z2]; omega) _).alloc (by rw [z3]; omega) _, ?_, ?_, z4⟩
  · refine ⟨.slice none 0 0, .slice (some ⟨w.heap.size, 0, none⟩) 1 1, .slice none 0 0, .slice (some ⟨w.heap.size + 1, 0, none⟩) 1 1, [⟨⟨#[97]⟩, .slice none 0 0⟩], h4, own.nil_ _ _ _, ((o1.alloc _).alloc _).alloc _, own.nil_ _ _ _, own.nil_ _ _ _, ⟨(o2.alloc _).alloc _, rfl, fun k h h' => ?_, fun j k hj hk hne => ?_, fun k h => ?_⟩, .inr (by simp [Value.ownBlock])⟩
    · have hk : k = 0 := by simp at h; omega
      subst hk
      exact ⟨rfl, own.nil_ _ _ _⟩
    · simp at hj hk; omega
    · have hk : k = 0 := by simp at h; omega
      subst hk
      exact .inl rfl
  · exact .inl ⟨by omega, .slice none 0 0, h5, World.ownsRowF_nil _ _ _ _, by simp [Value.ownBlock]⟩

set_option maxRecDepth 100000 in
set_option maxHeartbeats 3200000 in
theorem impl_RunScript (X : World → Prop) (t : ByteArray) (w : World) (ls : List ByteArray) (ds : Nat → Dsk) (ans : Nat → ByteArray) (ht : t.size ≤ 20000) (hls : partsB 10 t = ls) (hX : ∀ W, Below w.heap.size w W → X W) (h0 : ds 0 = firstD)
    (hstep : ∀ k (h : k < ls.length), ls[k].size ≠ 0 → k < 100 → (outK ans ls k).size ≤ 40000 → StepOk X ls[k] (ds k) (ds (k + 1)) (ans k) ∧ (ans k).size ≤ 2000000000)
    (hskip : ∀ k (h : k < ls.length), ls[k].size = 0 → ds (k + 1) = ds k) :
    Calls Tryz.prog 20 #[.string t] w fun e w' => e = .returned (.string (outA ans 0 ⟨#[]⟩ ls)) ∧ Below w.heap.size w w' := by
  have HX := Lib.hid hX; have H0 := Lib.hid h0; have HST := Lib.hid hstep; have HSK := Lib.hid hskip
  clear hX h0 hstep hskip
  obtain ⟨OUT, hO⟩ : ∃ O, outA ans 0 ⟨#[]⟩ ls = O := ⟨_, rfl⟩
  have HOUT : Hid (outA ans 0 (outK ans ls 0) (ls.drop 0) = OUT) := hO
  rw [hO]
  clear hO
  have HSP : Hid (∀ W : World, Calls Tryz.prog 65 #[.string t, .string ⟨#[10]⟩] W fun e w' => e = .returned (.slice (some ⟨W.heap.size, 0, none⟩) ls.length ls.length) ∧ own 9 W.heap.size w' (.slice (some ⟨W.heap.size, 0, none⟩) ls.length ls.length) ls ∧ Below W.heap.size W w' ∧ w'.heap.size = W.heap.size + 1) := fun W => by
    rw [← hls]; exact strings_Split1 t 10 W (by omega)
  have HFW := Lib.hid (first_worlds w)
  have ht1 : ¬ (20000 : Int) < (t.size : Int) := by omega
  go_enter Tryz.func20, Tryz.ntmps20
  go_wp2_with fail
  obtain ⟨W4, hW4⟩ : ∃ W, W = ((((w.alloc (Obj.cells #[.string ⟨#[48, 48, 48, 48, 48, 48, 48]⟩] 9)).alloc (Obj.cells #[.string ⟨#[97]⟩, .slice none 0 0] 102)).alloc (Obj.cells #[.slice none 0 0, .int .i64 4, .int .i64 2, .slice (some ⟨w.heap.size, 0, none⟩) 1 1, .slice none 0 0, .slice none 0 0, .int .i64 10, .slice (some ⟨w.heap.size + 1, 0, none⟩) 1 1] 104)).alloc (Obj.cells #[.pointer none, .slice none 0 0] 107)) := ⟨_, rfl⟩
  rw [← hW4] at HFW ⊢
  clear hW4
  obtain ⟨l4, d4, u4, z4⟩ := HFW.out
  have HSPW := HSP.out W4
  rw [z4] at HSPW
  refine HSPW.mono ?_
  rintro e w5 ⟨rfl, o5, b5, _⟩
  have D5 := d4.below (by rw [z4]; exact b5)
  have U5 : bld w.heap.size (w.heap.size + 1 + 1 + 1) ⟨#[]⟩ w5 := builder_keep u4 fun k cur e' fz hc _ => b5.block k (by have := (Array.getElem?_eq_some_iff.1 hc).1; omega)
  have l5 : Below w.heap.size w w5 := l4.trans (b5.mono (by omega))
  rw [← H0.out] at D5
  have HD5 := Lib.hid D5; have HU5 := Lib.hid U5; have HO5 := Lib.hid (o5.base_ (show w.heap.size ≤ w.heap.size + 1 + 1 + 1 + 1 by omega)); have HL5 := Lib.hid l5
  have HAP5 : Hid (apart (.slice none 0 0) (.slice (some ⟨w.heap.size + 1 + 1 + 1 + 1, 0, none⟩) ls.length ls.length)) := .inl rfl
  have hlen : ls.length ≤ 20001 := by rw [← hls]; have := parts_lenZ 10 t; omega
  clear D5 U5 o5 b5 l5 l4 d4 u4 z4 HSPW HSP HFW hls
  go_wp2_with fail
  go_loopw [20] (fun i wr => ∃ (k : Nat) (vH : Value), k ≤ ls.length ∧ i = .int .i64 k ∧ Hid (Below w.heap.size w wr) ∧ Hid (dskAt w.heap.size wr (w.heap.size + 1 + 1) (ds k) vH) ∧ Hid (bld w.heap.size (w.heap.size + 1 + 1 + 1) (outK ans ls k) wr) ∧ Hid (own 9 w.heap.size wr (.slice (some ⟨w.heap.size + 1 + 1 + 1 + 1, 0, none⟩) ls.length ls.length) ls) ∧ Hid (apart vH (.slice (some ⟨w.heap.size + 1 + 1 + 1 + 1, 0, none⟩) ls.length ls.length)) ∧ Hid (outA ans k (outK ans ls k) (ls.drop k) = OUT) ∧ (outK ans ls k).size ≤ 40000 + 2000000003) (fun i _ => ls.length - (intOf i).toNat)
  case atStart => exact ⟨0, .slice none 0 0, Nat.zero_le _, rfl, HL5.out, HD5.out, HU5.out, HO5.out, HAP5.out, HOUT.out, by show 0 ≤ _; omega⟩
  case round =>
    obtain ⟨k, vH, hk, rfl, HL, HD, HU, HO, HAP, HQ, hoz⟩ := hrel
    obtain ⟨W, rfl⟩ : ∃ W : World, W = wr := ⟨_, rfl⟩
    have hWs := HL.out.size
    clear HL5 HD5 HU5 HO5 HAP5
    by_cases hlt : k < ls.length
    · have hki : (k : Int) < (ls.length : Int) := by omega
      have hki0 : (0 : Int) ≤ (k : Int) := by omega
      have y1 := own_str1 HO.out k hlt
      have HDR : Hid (ls.drop k = ls[k] :: ls.drop (k + 1)) := List.drop_eq_getElem_cons hlt
      have HSTK := Lib.hid (HST.out k hlt)
      have HSKK := Lib.hid (HSK.out k hlt)
      have HKS := Lib.hid (outK_skip (ans := ans) hlt)
      have HKT := Lib.hid (outK_step (ans := ans) hlt)
      obtain ⟨o, ho⟩ : ∃ o, outK ans ls k = o := ⟨_, rfl⟩
      rw [ho] at HU HQ hoz HSTK HKS HKT
      have HOK := Lib.hid ho
      clear ho
      generalize ls[k] = x at *
      by_cases he : x.size = 0
      · obtain ⟨e1, e2⟩ := empty_tests he
        have HE := Lib.hid he
        clear he
        go_wp2_with fail
        go_roundw
        case rel => exact ⟨k + 1, vH, by omega, by go_num, HL.out, by rw [HSKK.out HE.out]; exact HD.out, by show bld _ _ _ _; rw [HKS.out HE.out]; exact HU.out, HO.out, HAP.out, by show _ = _; rw [HKS.out HE.out, ← HQ.out, HDR.out, outA_skip HE.out], by rw [HKS.out HE.out]; exact hoz⟩
        case measure => simp [intOf]; omega
      obtain ⟨e1, e2⟩ := nonempty_tests he
      by_cases h100 : 100 ≤ k
      · have hk1 : (100 : Int) ≤ (k : Int) := by omega
        go_wp2_with fail
        refine (bld_write _ _ o _ W HU.out (by show o.size + 5 ≤ _; omega) hWs).mono ?_
        rintro e w1 ⟨rfl, u1, b1, _⟩
        have HU1 := Lib.hid u1
        have HL1 := Lib.hid (HL.out.trans b1)
        have hs1 := b1.size
        clear u1 b1
        go_wp2_with fail
        refine (bld_string _ _ _ w1 HU1.out (by omega)).mono ?_
        rintro e w2 ⟨rfl, b2⟩
        have HL2 := Lib.hid (HL1.out.trans b2)
        clear b2
        go_wp2_with fail
        go_ret
        exact ⟨ret_str (by rw [← HQ.out, HDR.out]; exact (outA_full he (by omega)).symm), HL2.out⟩
      have hk1 : ¬ (100 : Int) ≤ (k : Int) := by omega
      go_wp2_with fail
      refine (bld_len _ _ o W HU.out).mono ?_
      rintro e _ ⟨rfl, rfl⟩
      by_cases ho4 : 40000 < o.size
      · have ho5 : (40000 : Int) < (o.size : Int) := by omega
        go_wp2_with fail
        refine (bld_write _ _ o _ W HU.out (by show o.size + 5 ≤ _; omega) hWs).mono ?_
        rintro e w1 ⟨rfl, u1, b1, _⟩
        have HU1 := Lib.hid u1
        have HL1 := Lib.hid (HL.out.trans b1)
        have hs1 := b1.size
        clear u1 b1
        go_wp2_with fail
        refine (bld_string _ _ _ w1 HU1.out (by omega)).mono ?_
        rintro e w2 ⟨rfl, b2⟩
        have HL2 := Lib.hid (HL1.out.trans b2)
        clear b2
        go_wp2_with fail
        go_ret
        exact ⟨ret_str (by rw [← HQ.out, HDR.out]; exact (outA_full he (by omega)).symm), HL2.out⟩
      have ho5 : ¬ (40000 : Int) < (o.size : Int) := by omega
      obtain ⟨hSt, haz⟩ := HSTK.out he (by omega) (by omega)
      have HCL := Lib.hid (hSt w.heap.size (w.heap.size + 1 + 1) vH W (HX.out W HL.out) hWs HD.out)
      clear hSt
      go_wp2_with fail
      refine HCL.out.mono ?_
      rintro e w1 ⟨rfl, vH', d1, k1, n1⟩
      have HD1 := Lib.hid d1
      have HU1 := Lib.hid (builder_kd HU.out HD.out k1)
      have HO1 := Lib.hid (own_kd HO.out HD.out (by decide) HAP.out k1)
      have HAP1 := Lib.hid (apart_heldN HAP.out n1 HO.out)
      have HL1 := Lib.hid (HL.out.trans (k1.toBelow (by omega) HD.out.lt fun j hj => (HD.out.held.blk j hj).1))
      have hs1 : w.heap.size ≤ w1.heap.size := HL1.out.size
      clear d1 k1 n1 y1
      by_cases ha : (ans k).size = 0
      · obtain ⟨a1, a2⟩ := empty_tests ha
        have HA := Lib.hid (orNo_empty ha)
        clear ha
        · skip
          go_wp2_with fail
          refine (bld_write _ _ o _ w1 HU1.out (by simp only [ByteArray.size_append]; first | (show o.size + 3 ≤ _; omega) | (show o.size + (_ + 1) ≤ _; omega)) hs1).mono ?_
          rintro e w2 ⟨rfl, u2, b2, ok2⟩
          have HB1 := Lib.hid (builder_obj HU1.out)
          have HU2 := Lib.hid u2
          have HD2 := Lib.hid (dsk_others HD1.out ok2 HB1.out)
          have HO2 := Lib.hid (own_others HO1.out ok2 HB1.out (by decide) (by decide))
          have HL2 := Lib.hid (HL1.out.trans b2)
          clear u2 b2 ok2
          go_wp2_with fail
          go_roundw
          case rel => exact ⟨k + 1, vH', by omega, by go_num, HL2.out, HD2.out, by show bld _ _ _ _; rw [HKT.out he, HA.out]; exact HU2.out, HO2.out, HAP1.out, by show _ = _; rw [HKT.out he, ← HQ.out, HDR.out, outA_step he (by omega) (by omega)], by rw [HKT.out he]; have := orNo_size (ans k); simp only [ByteArray.size_append]; show o.size + (_ + 1) ≤ _; omega⟩
          case measure => simp [intOf]; omega
      · obtain ⟨a1, a2⟩ := nonempty_tests ha
        have HA := Lib.hid (orNo_pos (show 1 ≤ (ans k).size by omega))
        have hadd : (ans k).size + (⟨#[10]⟩ : ByteArray).size ≤ 9223372036854775807 := by show _ + 1 ≤ _; omega
        clear ha
        · skip
          go_wp2_with fail
          refine (bld_write _ _ o _ w1 HU1.out (by simp only [ByteArray.size_append]; first | (show o.size + 3 ≤ _; omega) | (show o.size + (_ + 1) ≤ _; omega)) hs1).mono ?_
          rintro e w2 ⟨rfl, u2, b2, ok2⟩
          have HB1 := Lib.hid (builder_obj HU1.out)
          have HU2 := Lib.hid u2
          have HD2 := Lib.hid (dsk_others HD1.out ok2 HB1.out)
          have HO2 := Lib.hid (own_others HO1.out ok2 HB1.out (by decide) (by decide))
          have HL2 := Lib.hid (HL1.out.trans b2)
          clear u2 b2 ok2
          go_wp2_with fail
          go_roundw
          case rel => exact ⟨k + 1, vH', by omega, by go_num, HL2.out, HD2.out, by show bld _ _ _ _; rw [HKT.out he, HA.out]; exact HU2.out, HO2.out, HAP1.out, by show _ = _; rw [HKT.out he, ← HQ.out, HDR.out, outA_step he (by omega) (by omega)], by rw [HKT.out he]; have := orNo_size (ans k); simp only [ByteArray.size_append]; show o.size + (_ + 1) ≤ _; omega⟩
          case measure => simp [intOf]; omega
    · have HE : Hid (ls.drop k = []) := List.drop_eq_nil_of_le (by omega)
      go_wp2_with fail
      refine (bld_string _ _ _ W HU.out hWs).mono ?_
      rintro e w2 ⟨rfl, b2⟩
      have HL2 := Lib.hid (HL.out.trans b2)
      clear b2
      go_wp2_with fail
      go_ret
      exact ⟨ret_str (by rw [← HQ.out, HE.out, outA]), HL2.out⟩

end Go.Proofs.YtpinkbodbedajaaGreatDoor

namespace Go.Proofs.YtpinkbodbedajaaGreatDoor
open Go.RowKit

theorem linesT_size_mem : ∀ {ls : List ByteArray} {l : ByteArray}, l ∈ ls → l.size ≤ (linesT ls).size
  | x :: xs, l, h => by
    rw [linesT_cons]
    simp only [ByteArray.size_append]
    rcases List.mem_cons.1 h with h | h
    · subst h; omega
    · have := linesT_size_mem h; omega
theorem outA_lines (ans : Nat → ByteArray) : ∀ (ls rs : List ByteArray) (k : Nat) (o : ByteArray), ls.length = rs.length → k + ls.length ≤ 100 → (∀ l ∈ ls, l.size ≠ 0) → (∀ a ∈ rs, 1 ≤ a.size) → (o ++ linesT rs).size ≤ 40000 → (∀ i (h : i < rs.length), ans (k + i) = rs[i]) →
    outA ans k o (ls ++ [⟨#[]⟩]) = o ++ linesT rs
  | [], [], k, o, _, _, _, _, _, _ => by
    rw [List.nil_append, outA_skip rfl, linesT_nil]
    apply ba_ext
    rw [ba_append]
    simp [outA]
  | [], _ :: _, _, _, h, _, _, _, _, _ => by simp at h
  | _ :: _, [], _, _, h, _, _, _, _, _ => by simp at h
  | l :: ls, a :: rs, k, o, hl, hk, hn, ha, hz, hA => by
    rw [linesT_cons] at hz
    simp only [ByteArray.size_append] at hz
    simp only [List.length_cons] at hl hk
    have e0 : ans k = a := hA 0 (by simp)
    have h1 := ha a (by simp)
    rw [List.cons_append, outA_step (hn l (by simp)) (by omega) (by omega), e0, orNo_pos h1,
      outA_lines ans ls rs (k + 1) _ (by omega) (by omega) (fun x hx => hn x (List.mem_cons_of_mem _ hx)) (fun x hx => ha x (List.mem_cons_of_mem _ hx)) (by simp only [ByteArray.size_append]; omega)
        (fun i h => by
          have := hA (i + 1) (by simp; omega)
          rw [show k + 1 + i = k + (i + 1) by omega, this]
          rfl), linesT_cons]
    apply ba_ext
    simp only [ba_append, List.append_assoc]
/-- The state ahead of line k; it stays after the last one. -/
def upTo (n : Nat) (D : Nat → Dsk) (k : Nat) : Dsk := if k ≤ n then D k else D n
theorem run_lines (X : World → Prop) (ls rs : List ByteArray) (D : Nat → Dsk) (w : World) (hlen : ls.length = rs.length) (h0 : D 0 = firstD) (h100 : ls.length ≤ 100) (h10 : ∀ l ∈ ls, (10 : UInt8) ∉ l.data.toList) (hne : ∀ l ∈ ls, l.size ≠ 0)
    (ha : ∀ a ∈ rs, 1 ≤ a.size) (hT : (linesT ls).size ≤ 20000) (hA : (linesT rs).size ≤ 40000) (hX : ∀ W, Below w.heap.size w W → X W)
    (hstep : ∀ k (h : k < ls.length), StepOk X ls[k] (D k) (D (k + 1)) (rs[k]'(by omega))) :
    Calls Tryz.prog 20 #[.string (linesT ls)] w fun e w' => e = .returned (.string (linesT rs)) ∧ Below w.heap.size w w' := by
  have h := impl_RunScript X (linesT ls) w (ls ++ [⟨#[]⟩]) (upTo ls.length D) (fun k => rs.getD k ⟨#[]⟩) hT (linesT_parts ls h10) hX (by unfold upTo; rw [if_pos (Nat.zero_le _)]; exact h0)
    (fun k hk hz _ _ => by
      rw [List.length_append, List.length_singleton] at hk
      by_cases hlt : k < ls.length
      · have e1 : (ls ++ [(⟨#[]⟩ : ByteArray)])[k]'(by simp; omega) = ls[k] := List.getElem_append_left hlt
        have e2 : rs.getD k ⟨#[]⟩ = rs[k]'(by omega) := by rw [List.getD_eq_getElem?_getD, List.getElem?_eq_getElem (by omega)]; rfl
        rw [e1, e2]
        unfold upTo
        rw [if_pos (by omega), if_pos (by omega)]
        refine ⟨hstep k hlt, ?_⟩
        have := linesT_size_mem (List.getElem_mem (show k < rs.length by omega))
        omega
      · exfalso
        apply hz
        rw [List.getElem_append_right (by omega)]
        have : k - ls.length = 0 := by omega
        simp only [this]
        rfl)
    (fun k hk hz => by
      rw [List.length_append, List.length_singleton] at hk
      by_cases hlt : k < ls.length
      · exfalso
        have e1 : (ls ++ [(⟨#[]⟩ : ByteArray)])[k]'(by simp; omega) = ls[k] := List.getElem_append_left hlt
        rw [e1] at hz
        exact hne _ (List.getElem_mem hlt) hz
      · obtain rfl : k = ls.length := by omega
        unfold upTo
        rw [if_neg (by omega), if_pos (Nat.le_refl _)])
  rw [outA_lines _ ls rs 0 ⟨#[]⟩ hlen (by omega) hne ha (by
    have e : (⟨#[]⟩ : ByteArray).size = 0 := rfl
    rw [ByteArray.size_append, e]; omega) (fun i hi => by rw [Nat.zero_add]; show rs.getD i _ = _; rw [List.getD_eq_getElem?_getD, List.getElem?_eq_getElem hi]; rfl)] at h
  have e0 : (⟨#[]⟩ : ByteArray) ++ linesT rs = linesT rs := by
    apply ba_ext; rw [ba_append]; simp
  rw [e0] at h
  exact h

end Go.Proofs.YtpinkbodbedajaaGreatDoor

namespace Go.Proofs.YtpinkbodbedajaaGreatDoor
open Go.RowKit

/-- What a line's call leaves. -/
def lineQ (B d : Nat) (s' : Dsk) (vH : Value) (a : ByteArray) (w : World) (e : Ending) (w' : World) : Prop := e = .returned (.string a) ∧ ∃ vH', dskAt B w' d s' vH' ∧ Kd d vH w w' ∧ heldN w vH vH'
theorem lineQ.pre {B d : Nat} {s' : Dsk} {vH : Value} {a : ByteArray} {w W w' : World} {e : Ending} (hb : Below w.heap.size w W) (h : lineQ B d s' vH a W e w') : lineQ B d s' vH a w e w' := by
  obtain ⟨h1, vH', h2, h3, h4⟩ := h
  refine ⟨h1, vH', h2, (Kd.of_below hb).trans h3, ?_⟩
  rcases h4 with h4 | h4
  · exact .inl h4
  · exact .inr fun k hk => Nat.le_trans hb.size (h4 k hk)
theorem lineQ.post {B d : Nat} {s' : Dsk} {vH : Value} {a : ByteArray} {w w1 w' : World} {e : Ending} (h : lineQ B d s' vH a w e w1) (hb : Below w1.heap.size w1 w') : lineQ B d s' vH a w e w' := by
  obtain ⟨h1, vH', h2, h3, h4⟩ := h
  exact ⟨h1, vH', h2.below hb, h3.trans (Kd.of_below hb), h4⟩
theorem lineQ.of_read {B d : Nat} {s : Dsk} {vH : Value} {a : ByteArray} {w w' : World} {e : Ending} (hD : dskAt B w d s vH) (he : e = .returned (.string a)) (hb : Below w.heap.size w w') : lineQ B d s vH a w e w' :=
  ⟨he, vH, hD.below hb, Kd.of_below hb, heldN.refl _ _⟩

/-! ### The forms of a line -/
set_option maxRecDepth 100000 in
set_option maxHeartbeats 800000 in
theorem line_word (B d : Nat) (s' : Dsk) (vH : Value) (line a : ByteArray) (w : World) (hz : line.size ≤ maxLen) (hcut : cutAt 32 line = none)
    (HC : ∀ W, Below w.heap.size w W → Calls Tryz.prog 131 #[.pointer (some ⟨d, 0, none⟩), .string line] W (lineQ B d s' vH a W)) :
    Calls Tryz.prog 68 #[.pointer (some ⟨d, 0, none⟩), .string line] w (lineQ B d s' vH a w) := by
  have HK : Hid (Calls Tryz.prog 130 #[.string line, .string ⟨#[32]⟩] w fun e w' => e = .returned (.tuple #[.string line, .string ⟨#[]⟩, .bool false]) ∧ Below w.heap.size w w') := (strings_Cut1 line 32 w hz).mono fun e w' h => by
    obtain ⟨hb, ⟨_, he⟩ | ⟨p, q, h, _⟩⟩ := h
    · exact ⟨he, hb⟩
    · rw [hcut] at h; cases h
  have HCC := Lib.hid HC
  clear HC hcut
  go_enter Tryz.func68, Tryz.ntmps68
  go_wp2_with fail
  refine HK.out.mono ?_
  rintro e w1 ⟨rfl, b1⟩
  go_wp2_with fail
  refine (HCC.out _ b1).mono ?_
  rintro e w2 ⟨rfl, h2⟩
  go_wp2_with fail
  go_ret
  exact lineQ.pre b1 ⟨rfl, h2⟩

set_option maxRecDepth 100000 in
set_option maxHeartbeats 1600000 in
theorem line_one (B d : Nat) (s' : Dsk) (vH : Value) (line wd rest f a : ByteArray) (w : World) (hz : line.size ≤ maxLen) (hr : rest.size ≤ 1000000000) (hcut : cutAt 32 line = some (wd, rest)) (hp : partsB 32 rest = [f])
    (q_0 : (wd.toList == [108, 101, 116, 116, 101, 114, 115]) = false) (q_1 : (wd.toList == [112, 108, 97, 110]) = false) (q_2 : (wd.toList == [102, 111, 114, 119, 97, 114, 100, 115]) = false) (q_3 : (wd.toList == [110, 101, 116]) = false)
    (HC : ∀ W, Below w.heap.size w W → Calls Tryz.prog 137 #[.pointer (some ⟨d, 0, none⟩), .string wd, .string f] W (lineQ B d s' vH a W)) :
    Calls Tryz.prog 68 #[.pointer (some ⟨d, 0, none⟩), .string line] w (lineQ B d s' vH a w) := by
  have HK : Hid (Calls Tryz.prog 130 #[.string line, .string ⟨#[32]⟩] w fun e w' => e = .returned (.tuple #[.string wd, .string rest, .bool true]) ∧ Below w.heap.size w w') := (strings_Cut1 line 32 w hz).mono fun e w' h => by
    obtain ⟨hb, ⟨h, _⟩ | ⟨p, q, h, he⟩⟩ := h
    · rw [hcut] at h; cases h
    · rw [hcut] at h; cases h; exact ⟨he, hb⟩
  have HCC := Lib.hid HC
  have HSP : Hid (∀ W : World, Calls Tryz.prog 65 #[.string rest, .string ⟨#[32]⟩] W fun e w' => e = .returned (.slice (some ⟨W.heap.size, 0, none⟩) 1 1) ∧ own 9 W.heap.size w' (.slice (some ⟨W.heap.size, 0, none⟩) 1 1) [f] ∧ Below W.heap.size W w') := fun W => by
    have h := strings_Split1 rest 32 W hr
    rw [hp] at h
    exact h.mono fun e w' h => ⟨h.1, h.2.1, h.2.2.1⟩
  clear HC hcut hp
  go_enter Tryz.func68, Tryz.ntmps68
  go_wp2_with fail
  refine HK.out.mono ?_
  rintro e w1 ⟨rfl, b1⟩
  go_wp2_with fail
  refine (HSP.out _).mono ?_
  rintro e w2 ⟨rfl, o2, b2⟩
  have l2 := later_trans b1 b2
  have y0 : w2.cell? ⟨w1.heap.size, 0, none⟩ = some (.string f) := own_str1 o2 0 (by simp)
  have L2 := Lib.hid l2
  clear o2 b1 b2 l2
  go_wp2_with fail
  refine (HCC.out _ L2.out).mono ?_
  rintro e w3 ⟨rfl, h3⟩
  go_wp2_with fail
  go_ret
  exact lineQ.pre L2.out ⟨rfl, h3⟩

/-! ### The network's lines -/
/-! ### The words -/
end Go.Proofs.YtpinkbodbedajaaGreatDoor

namespace Go.Proofs.YtpinkbodbedajaaGreatDoor
open Go.RowKit

/-- A line of a word and one field. -/
def lnOne (wd f : ByteArray) : ByteArray := wd ++ ⟨#[32]⟩ ++ f
theorem lnOne_size (wd f : ByteArray) : (lnOne wd f).size = wd.size + 1 + f.size := by
  unfold lnOne; simp only [ByteArray.size_append]; rfl
theorem lnOne_10 {wd f : ByteArray} (h1 : (10 : UInt8) ∉ wd.data.toList) (h2 : (10 : UInt8) ∉ f.data.toList) : (10 : UInt8) ∉ (lnOne wd f).data.toList := by
  unfold lnOne
  rw [ba_append, ba_append, List.mem_append, List.mem_append]
  rintro ((h | h) | h)
  · exact h1 h
  · exact absurd h (by decide)
  · exact h2 h
end Go.Proofs.YtpinkbodbedajaaGreatDoor

namespace Go.Proofs.YtpinkbodbedajaaGreatDoor
open Go.RowKit

end Go.Proofs.YtpinkbodbedajaaGreatDoor

namespace Go.Proofs.YtpinkbodbedajaaGreatDoor
open Go.RowKit

/-- The digit of a letter's code. -/
def digI (d : Nat) (x : Ltr) : Int := (((x.code.data.toList.getD d 48).toNat - 48 : Nat) : Int)
def bpOk (xs : List Ltr) (dg : Int) : Bool := okB xs && (decide (0 ≤ dg) && decide (dg < 7))
def bpBins (xs : List Ltr) (dg : Int) : List (List Ltr) := if bpOk xs dg then binsOf (digI dg.toNat) 10 xs else []
theorem bpBins_no {xs : List Ltr} {dg : Int} (h : bpOk xs dg = false) : bpBins xs dg = [] := by unfold bpBins; rw [h]; rfl
theorem bpBins_yes {xs : List Ltr} {dg : Int} (h : bpOk xs dg = true) : bpBins xs dg = binsOf (digI dg.toNat) 10 xs := by unfold bpBins; rw [if_pos h]
theorem digI_at {x : Ltr} {d : Nat} (h : isCode x.code = true) (hd : d < 7) : ∃ hz : d < x.code.size, 48 ≤ (x.code[d]).toNat ∧ (x.code[d]).toNat ≤ 57 ∧ digI d x = (((x.code[d]).toNat - 48 : Nat) : Int) := by
  obtain ⟨h7, hm⟩ := code_mem h
  have hz : d < x.code.size := by omega
  have hl : d < x.code.data.toList.length := by simpa using hz
  have e : x.code[d] = x.code.data.toList[d] := rfl
  have hb := hm _ (List.getElem_mem hl)
  refine ⟨hz, by rw [e]; exact hb.1, by rw [e]; exact hb.2, ?_⟩
  unfold digI
  rw [List.getD_eq_getElem?_getD, List.getElem?_eq_getElem hl, e]
  rfl

set_option maxRecDepth 100000 in
set_option maxHeartbeats 3200000 in
theorem impl_BinPass (vb : Value) (xs : List Ltr) (dg : Int) (w : World) (hb : rd w w.heap.size vb xs) :
    Calls Tryz.prog 98 #[vb, .int .i64 dg] w fun e w' => ∃ vB vs, e = .returned (.tuple #[vB, .bool (bpOk xs dg)]) ∧ isLL 29 89 w.heap.size w' vB (bpBins xs dg) vs ∧ Below w.heap.size w w' := by
  have HV := Lib.hid hb
  obtain ⟨A, n, cp, rfl, hn, hc, hmx, hr⟩ := hb
  subst hn
  unfold maxLen at hmx
  have HR := Lib.hid hr
  have HNO : Hid (okB xs = false ∨ dg < 0 ∨ 7 ≤ dg → bpOk xs dg = false) := fun h => by
    unfold bpOk
    rcases h with h | h | h
    · rw [h]; rfl
    · rw [decide_eq_false (show ¬ 0 ≤ dg by omega)]; simp
    · rw [decide_eq_false (show ¬ dg < 7 by omega)]; simp
  obtain ⟨i0, hi, hzz, hz1, hz2⟩ := info_parts Tryz.infoRow
  have hmk10 := make_row (P := Tryz.prog) 37 29 i0 _ Tryz.underlying37 hi hzz 10 (by rw [hz2]; omega) (by omega)
  have hmk : ∀ W : World, Sem.run Tryz.prog (Instr.makeSlice 37 (.int .i64 10) (.int .i64 10)) W = .ok (.slice (some ⟨W.heap.size, 0, none⟩) 10 10) (W.alloc (Obj.cells (madeCells #[.slice none 0 0] 10) 29)) := fun W => by
    have h := hmk10 W
    rw [hz1] at h
    exact h
  clear hmk10 hr
  obtain ⟨i1, ji, jz0, jz1, jz2⟩ := info_parts Tryz.infoLtr
  go_enter Tryz.func98, Tryz.ntmps98
  go_wp2_with fail
  refine (impl_BatchValid _ xs _ HV.out).mono ?_
  cases hok : okB xs
  · rintro e w0 ⟨rfl, l0⟩
    have HQ := Lib.hid (HNO.out (.inl hok))
    have HL0 := Lib.hid l0
    clear hok l0
    go_wp2_with fail
    go_ret2
    exact ⟨.slice none 0 0, [], by rw [HQ.out]; rfl, by rw [bpBins_no HQ.out]; exact isLL_nil _ _ _ _, HL0.out⟩
  rintro e w0 ⟨rfl, l0⟩
  by_cases hd0 : dg < 0
  · have HQ := Lib.hid (HNO.out (.inr (.inl hd0)))
    have HL0 := Lib.hid l0
    clear hok l0
    go_wp2_with fail
    go_ret2
    exact ⟨.slice none 0 0, [], by rw [HQ.out]; rfl, by rw [bpBins_no HQ.out]; exact isLL_nil _ _ _ _, HL0.out⟩
  by_cases hd7 : 7 ≤ dg
  · have HQ := Lib.hid (HNO.out (.inr (.inr hd7)))
    have HL0 := Lib.hid l0
    clear hok l0
    go_wp2_with fail
    go_ret2
    exact ⟨.slice none 0 0, [], by rw [HQ.out]; rfl, by rw [bpBins_no HQ.out]; exact isLL_nil _ _ _ _, HL0.out⟩
  obtain ⟨dd, rfl⟩ := Int.eq_ofNat_of_zero_le (show 0 ≤ dg by omega)
  have hdd : dd < 7 := by omega
  have HYES : Hid (bpOk xs (dd : Int) = true) := by show _ = _; unfold bpOk; rw [hok, decide_eq_true (show (0 : Int) ≤ (dd : Int) by omega), decide_eq_true (show (dd : Int) < 7 by omega)]; rfl
  have HBI : Hid (bpBins xs (dd : Int) = binsOf (digI dd) 10 xs) := bpBins_yes HYES.out
  have h60 := (okB_iff.1 hok).1
  have HF : Hid (∀ k (h : k < xs.length), ∃ hz : dd < xs[k].code.size, 48 ≤ (xs[k].code[dd]).toNat ∧ (xs[k].code[dd]).toNat ≤ 57 ∧ digI dd xs[k] = (((xs[k].code[dd]).toNat - 48 : Nat) : Int)) := fun k h => digI_at ((okB_iff.1 hok).2 k h).2.2.1 hdd
  clear hok
  obtain ⟨f, HFF⟩ : ∃ f : Ltr → Int, Hid (f = digI dd) := ⟨_, rfl⟩
  rw [← HFF.out] at HBI HF
  have l00 := Below.refl w0.heap.size w0
  go_wp2_with fail
  have hoz := made_nil_row (α := Ltr) w0 29 89 10 w0.heap.size (Nat.le_refl _) (by unfold maxLen; omega)
  have lz : Below w0.heap.size w0 (w0.alloc (Obj.cells (madeCells #[.slice none 0 0] 10) 29)) := later_alloc l00 _
  generalize (w0.alloc (Obj.cells (madeCells #[.slice none 0 0] 10) 29)) = wz at *
  obtain ⟨vs0, hoz⟩ := hoz
  obtain ⟨G, hG⟩ : ∃ G, w0.heap.size = G := ⟨_, rfl⟩
  have HGG := Lib.hid hG
  have HOZ : Hid (isLL 29 89 w0.heap.size wz (.slice (some ⟨G, 0, none⟩) 10 10) (List.replicate 10 ([] : List Ltr)) vs0) := by rw [← hG]; exact hoz
  rw [hG]
  clear hoz hG hmk
  have HL0 := Lib.hid l0; clear l0 l00
  go_loopw [24] (fun i wr => ∃ (k : Nat) (vs : List Value), k ≤ xs.length ∧ i = .int .i64 k ∧ Below w0.heap.size w0 wr ∧ isLL 29 89 w0.heap.size wr (.slice (some ⟨G, 0, none⟩) 10 10) (binsOf f 10 (xs.take k)) vs) (fun i _ => xs.length - (intOf i).toNat)
  case atStart =>
    refine ⟨0, vs0, Nat.zero_le _, rfl, lz, ?_⟩
    rw [List.take_zero, binsOf_nil]
    exact HOZ.out
  case round =>
    obtain ⟨k, vs, hk, rfl, lr, hB⟩ := hrel
    obtain ⟨w1, rfl⟩ : ∃ w1 : World, w1 = wr := ⟨_, rfl⟩
    have HB := Lib.hid hB
    clear lz HOZ hB
    have hs1 := lr.size
    by_cases hlt : k < xs.length
    · obtain ⟨b, o, rfl, hb, ⟨hxi, hxc⟩, c1, c2⟩ := HR.out.ltrU k hlt
      obtain ⟨hcz, hc1, hc2, hcf⟩ := HF.out k hlt
      have HFXK := Lib.hid hcf
      obtain ⟨x, hx⟩ : ∃ x, x = xs[k] := ⟨_, rfl⟩
      have HX := Lib.hid hx
      have hcz' : dd < x.code.size := by rw [hx]; exact hcz
      have hb1 : 48 ≤ (x.code[dd]).toNat ∧ (x.code[dd]).toNat ≤ 57 := by simp only [hx]; exact ⟨hc1, hc2⟩
      have hfx : f xs[k] = (((x.code[dd]).toNat - 48 : Nat) : Int) := by rw [hcf]; simp only [hx]
      rw [← hx] at c1 c2 hxi hxc
      clear hx hcf hc1 hc2 HFXK
      obtain ⟨bb, hbb⟩ : ∃ bb, x.code[dd] = bb := ⟨_, rfl⟩
      rw [hbb] at hb1 hfx
      obtain ⟨d, hd⟩ : ∃ d : Nat, d = bb.toNat - 48 := ⟨_, rfl⟩
      rw [← hd] at hfx
      have hdN : d < 10 := by omega
      have HD : Hid (f xs[k] = (d : Int)) := hfx
      clear hfx
      have hki : (k : Int) < (xs.length : Int) := by omega
      have hlb : d < (binsOf f 10 (xs.take k)).length := by rw [binsOf_len]; exact hdN
      have HS1 := Lib.hid (binsOf_step (f := f) (n := 10) (d := d) hlt HD.out hlb)
      have c1' := c1 w1 (later_trans HL0.out lr)
      have c2' := c2 w1 (later_trans HL0.out lr)
      clear c1 c2
      obtain ⟨wl, hwl⟩ : ∃ wl : World, wl = w1.alloc (Obj.cells #[.int .i64 x.id, .string x.code] 89) := ⟨_, rfl⟩
      have x0 := box_cells hwl 0 (.int .i64 x.id) rfl wl (Below.refl _ _)
      have x1 := box_cells hwl 1 (.string x.code) rfl wl (Below.refl _ _)
      have hBL := (box_later hwl).1
      have ll := later_trans lr hBL
      have hll : w1.heap.size < wl.heap.size := (box_later hwl).2
      have HB3 := Lib.hid (HB.out.below hBL)
      have HWL := Lib.hid hwl; clear hwl hBL
      obtain ⟨hlv, hov, hgv⟩ : ∃ hlv : d < vs.length, own 89 w0.heap.size wl vs[d] (binsOf f 10 (xs.take k))[d] ∧ apart vs[d] (.slice (some ⟨G, 0, none⟩) 10 10) := by
        obtain ⟨z1, z2, z3, z4, z5⟩ := HB3.out
        exact ⟨by omega, z3 d (by omega) hlb, z5 d (by omega)⟩
      have hcG : wl.cell? ⟨G, d, none⟩ = some vs[d] := own_cellv HB3.out.1 d hlv
      have hfG : wl.frozen? ⟨G, d, none⟩ = false := HB3.out.1.freeAt d
      have hzl : (binsOf f 10 (xs.take k))[d].length ≤ 1000 := by
        rw [binsOf_get]
        have := filter_len_le (fun x => f x == (d : Int)) xs k
        omega
      obtain ⟨zs, hzs⟩ : ∃ zs, zs = (binsOf f 10 (xs.take k))[d] := ⟨_, rfl⟩
      have HZS := Lib.hid hzs
      rw [← hzs] at hov hzl
      clear hzs
      obtain ⟨u, hu⟩ : ∃ u, u = vs[d] := ⟨_, rfl⟩
      have HU := Lib.hid hu
      rw [← hu] at hov hgv hcG
      clear hu
      obtain ⟨Au, mu, cu, rfl, hmu, _, _, _⟩ := hov.rd
      subst hmu
      have HOV := Lib.hid hov; clear hov
      have HGV := Lib.hid hgv; clear hgv
      have hdn : (d : Int) < 10 := by omega
      have hGs : some G ≠ (Value.slice Au zs.length cu).ownBlock := by
        have h := HGV.out
        unfold apart at h
        rcases h with h | h
        · rw [h]; simp
        · exact fun e => h e.symm
      have HGS := Lib.hid hGs; clear hGs
      have hGlt : G < wl.heap.size := (HB3.out.1.blk G rfl).2
      have w1' : IntKind.wrap .u8 ((bb.toNat : Int) - 48) = (d : Int) := by simp [IntKind.wrap, IntKind.bits, IntKind.signed]; omega
      have w2' : IntKind.i64.wrap (d : Int) = (d : Int) := IntWalk.i64_in _ (by omega)
      have hddi : (dd : Int) < (x.code.size : Int) := by omega
      clear hb1 hd
      have hG0 : w0.heap.size ≤ G := Nat.le_of_eq HGG.out
      go_wp2_with fail
      rw [← HWL.out]
      go_region_law (go_loud ((refine step_append1 (α := Ltr) (by rfl) (.tmp 39) (.tmp 41) 29 (by rfl) w0.heap.size 89 i1 _ 24 Tryz.underlying29 ji jz0 jz1 jz2 rfl (by decide) (.slice Au zs.length cu) zs x (by rfl) ((HOV.out.alloc _).drew) ⟨wl.heap.size, 0, none⟩ 1 (Ltr.cells x) (by rfl) ⟨⟨hxi, hxc⟩, rfl⟩ (news_drew wl _ (Ltr.cells x)) (by unfold maxLen; omega) (by omega) (by simp; omega) ?_; intro g cap w4 ho4 hg4 ha4 hl4; have hcG4 : w4.cell? ⟨G, d, none⟩ = some (.slice Au zs.length cu) := (hg4.cell_far ⟨G, d, none⟩ (by simp; omega) HGS.out).trans (by go_simp); have hfG4 : w4.frozen? ⟨G, d, none⟩ = false := (hg4.frozen_far ⟨G, d, none⟩ (by simp; omega) HGS.out).trans (by go_simp))))
      all_goals
        have hWD : Below wl.heap.size wl (wl.alloc (Obj.cells #[Value.int IntKind.i64 x.id, Value.string x.code] 89)).drew := later_drew (later_alloc (Below.refl _ _) _)
        obtain ⟨p1, _, _⟩ := place_step (o := .slice none 0 0) (rest := ([] : List Ltr)) HB3.out (own.nil_ _ _ _) ⟨.inl rfl, fun k hk => .inl rfl⟩ hWD hlv hlb HU.out HZS.out ho4 hg4 ha4
        have p4 := place_later (G := G) (d := d) (g := g) (m := zs.length + 1) (cap := cap) (later_drew (later_alloc ll (Obj.cells #[Value.int IntKind.i64 x.id, Value.string x.code] 89))) hg4 (fun j hj => (HOV.out.blk j hj).1) hG0
        have P1 := Lib.hid p1
        clear p1 hWD
        go_wp2_with fail
        go_roundw
        case rel => exact ⟨k + 1, _, by omega, by go_num, p4, by rw [HS1.out, ← HX.out]; exact P1.out⟩
        case measure => simp [intOf]; omega
    · have HE := Lib.hid (show k = xs.length by omega)
      go_wp2_with fail
      go_ret2
      have hB := HB.out
      rw [HE.out, List.take_length] at hB
      exact ⟨_, vs, by rw [HYES.out]; rfl, by rw [HBI.out]; exact hB.base_ HL0.out.size, later_trans HL0.out lr⟩

end Go.Proofs.YtpinkbodbedajaaGreatDoor

namespace Go.Proofs.YtpinkbodbedajaaGreatDoor
open Go.RowKit

def negB (t : ByteArray) : Bool := Lib.hasPrefix t.data.toList [45]
def absB (t : ByteArray) : ByteArray := ⟨(Lib.trimPrefix t.data.toList [45]).toArray⟩
def zeroB (d : ByteArray) : Bool := d.data.toList.head? == some 48
def nOk (d : ByteArray) (ng : Bool) : Bool := (decide (d.size ≠ 0) && (decide (d.size ≤ 17) && digs d.data.toList)) && !(zeroB d && (decide (1 < d.size) || ng))
def nVal (d : ByteArray) (ng : Bool) : Int := if nOk d ng then (if ng then -(numL d.data.toList : Int) else (numL d.data.toList : Int)) else 0
def numOk (t : ByteArray) : Bool := nOk (absB t) (negB t)
def numV (t : ByteArray) : Int := nVal (absB t) (negB t)
theorem zeroB_at {d : ByteArray} (h : 0 < d.size) : zeroB d = (d[0] == 48) := by
  have hl : 0 < d.data.toList.length := by simpa using h
  unfold zeroB
  obtain ⟨b, l, hbl⟩ : ∃ b l, d.data.toList = b :: l := by
    cases hq : d.data.toList with
    | nil => rw [hq] at hl; simp at hl
    | cons b l => exact ⟨b, l, rfl⟩
  have e : d[0] = d.data.toList[0] := rfl
  rw [e]
  simp only [hbl]
  simp
theorem nVal_no {d : ByteArray} {ng : Bool} (h : nOk d ng = false) : nVal d ng = 0 := by unfold nVal; rw [h]; rfl
theorem nVal_bound {d : ByteArray} {ng : Bool} : -100000000000000000 < nVal d ng ∧ nVal d ng < 100000000000000000 := by
  unfold nVal
  split
  · rename_i h
    unfold nOk at h
    simp only [Bool.and_eq_true, decide_eq_true_iff] at h
    have h1 := numL_lt d.data.toList.length d.data.toList h.1.2.2 rfl
    have h2 : d.data.toList.length ≤ 17 := by have := h.1.2.1; simpa using this
    have h3 : 10 ^ d.data.toList.length ≤ 10 ^ 17 := Nat.pow_le_pow_right (by decide) h2
    split <;> omega
  · omega

set_option maxRecDepth 100000 in
set_option maxHeartbeats 1600000 in
theorem impl_parseNumber (t : ByteArray) (w : World) (ht : t.size ≤ maxLen) :
    Calls Tryz.prog 197 #[.string t] w fun e w' => e = .returned (.tuple #[.int .i64 (numV t), .bool (numOk t)]) ∧ w = w' := by
  have HC : Hid (∀ W : World, Calls Tryz.prog 247 #[.string t, .string ⟨#[45]⟩] W fun e w' => e = .returned (.tuple #[.string (absB t), .bool (negB t)]) ∧ W = w') := fun W => (Tryz.strings_CutPrefix t ⟨#[45]⟩ W).mono fun e w' h => ⟨h.1, h.2.symm⟩
  have hdz : (absB t).size ≤ maxLen := by
    have h1 : (Lib.trimPrefix t.data.toList [45]).length ≤ t.data.toList.length := by
      unfold Lib.trimPrefix
      split
      · simp
      · exact Nat.le_refl _
    have h2 : t.data.toList.length = t.size := by simp
    show (Lib.trimPrefix t.data.toList [45]).toArray.size ≤ _
    rw [List.size_toArray]
    omega
  unfold numV numOk
  generalize absB t = d at *
  generalize negB t = ng at *
  have HA := Lib.hid (fun W => impl_allDigits d W hdz)
  have HN := Lib.hid (fun W => impl_digitsNumber d W)
  unfold maxLen at hdz
  by_cases h0 : d.size = 0
  · have HO : Hid (nOk d ng = false) := by show _ = _; unfold nOk; simp [h0]
    have HV := Lib.hid (nVal_no HO.out)
    obtain ⟨e1, e2⟩ := empty_tests h0
    rw [HO.out, HV.out]
    clear h0
    go_enter Tryz.func197, Tryz.ntmps197
    go_wp2_with fail
    refine (HC.out _).mono ?_
    rintro e _ ⟨rfl, rfl⟩
    go_wp2_with fail
    go_ret2
    exact ⟨rfl, rfl⟩
  obtain ⟨e1, e2⟩ := nonempty_tests h0
  by_cases h17 : 17 < d.size
  · have HO : Hid (nOk d ng = false) := by show _ = _; unfold nOk; rw [decide_eq_false (show ¬ d.size ≤ 17 by omega)]; simp
    have HV := Lib.hid (nVal_no HO.out)
    rw [HO.out, HV.out]
    go_enter Tryz.func197, Tryz.ntmps197
    go_wp2_with fail
    refine (HC.out _).mono ?_
    rintro e _ ⟨rfl, rfl⟩
    go_wp2_with fail
    go_ret2
    exact ⟨rfl, rfl⟩
  cases hdd : digs d.data.toList
  · have HO : Hid (nOk d ng = false) := by show _ = _; unfold nOk; rw [hdd]; simp
    have HV := Lib.hid (nVal_no HO.out)
    rw [HO.out, HV.out]
    rw [hdd] at HA
    clear hdd
    go_enter Tryz.func197, Tryz.ntmps197
    go_wp2_with fail
    refine (HC.out _).mono ?_
    rintro e _ ⟨rfl, rfl⟩
    go_wp2_with (go_at_call 143; refine (HA.out _).mono ?_; rintro e _ ⟨rfl, rfl⟩)
    go_ret2
    exact ⟨rfl, rfl⟩
  have HN2 := Lib.hid (fun W => HN.out W hdd (by omega))
  have hnl := numL_lt d.data.toList.length d.data.toList hdd rfl
  have hlz : d.data.toList.length = d.size := by simp
  have h3 : 10 ^ d.data.toList.length ≤ 10 ^ 17 := Nat.pow_le_pow_right (by decide) (by omega)
  have hn : numL d.data.toList ≤ 100000000000000000 := by omega
  have hz0 := zeroB_at (d := d) (by omega)
  have HO0 : Hid (nOk d ng = !(zeroB d && (decide (1 < d.size) || ng))) := by show _ = _; unfold nOk; rw [hdd, decide_eq_true (show d.size ≠ 0 from h0), decide_eq_true (show d.size ≤ 17 by omega)]; simp
  have HV0 : Hid (nVal d ng = if nOk d ng then (if ng then -(numL d.data.toList : Int) else (numL d.data.toList : Int)) else 0) := rfl
  rw [hdd] at HA
  generalize numL d.data.toList = n at *
  clear hdd hnl h3 HN
  have hd0 : 0 < d.size := by omega
  obtain ⟨b, hbe⟩ : ∃ b, d[0] = b := ⟨_, rfl⟩
  rw [hbe] at hz0
  have hdi : (0 : Int) < (d.size : Int) := by omega
  generalize zeroB d = zb at *
  generalize nOk d ng = ok at *
  generalize nVal d ng = vv at *
  have wn : IntKind.i64.wrap (-(n : Int)) = -(n : Int) := IntWalk.i64_in _ (by omega)
  by_cases hb : b = 48
  · subst hb
    have HZ : Hid (zb = true) := by show _ = _; rw [hz0]; rfl
    clear hz0
    by_cases h1 : 1 < d.size
    · have HO : Hid (ok = false) := by show _ = _; rw [HO0.out, HZ.out, decide_eq_true h1]; rfl
      have HV : Hid (vv = 0) := by show _ = _; rw [HV0.out, HO.out]; rfl
      rw [HO.out, HV.out]
      go_enter Tryz.func197, Tryz.ntmps197
      go_wp2_with fail
      refine (HC.out _).mono ?_
      rintro e _ ⟨rfl, rfl⟩
      go_wp2_with (go_at_call 143; refine (HA.out _).mono ?_; rintro e _ ⟨rfl, rfl⟩)
      go_ret2
      exact ⟨rfl, rfl⟩
    · cases ng
      · have HO : Hid (ok = true) := by show _ = _; rw [HO0.out, HZ.out, decide_eq_false h1]; rfl
        have HV : Hid (vv = (n : Int)) := by show _ = _; rw [HV0.out, HO.out]; rfl
        rw [HO.out, HV.out]
        go_enter Tryz.func197, Tryz.ntmps197
        go_wp2_with fail
        refine (HC.out _).mono ?_
        rintro e _ ⟨rfl, rfl⟩
        go_wp2_with (first | (go_at_call 143; refine (HA.out _).mono ?_; rintro e _ ⟨rfl, rfl⟩) | (go_at_call 248; refine (HN2.out _).mono ?_; rintro e _ ⟨rfl, rfl⟩))
        go_ret2
        exact ⟨rfl, rfl⟩
      · have HO : Hid (ok = false) := by show _ = _; rw [HO0.out, HZ.out]; simp
        have HV : Hid (vv = 0) := by show _ = _; rw [HV0.out, HO.out]; rfl
        rw [HO.out, HV.out]
        go_enter Tryz.func197, Tryz.ntmps197
        go_wp2_with fail
        refine (HC.out _).mono ?_
        rintro e _ ⟨rfl, rfl⟩
        go_wp2_with (go_at_call 143; refine (HA.out _).mono ?_; rintro e _ ⟨rfl, rfl⟩)
        go_ret2
        exact ⟨rfl, rfl⟩
  · have hbn : ((b.toNat : Int) == 48) = false := beq_eq_false_iff_ne.2 fun h => hb (UInt8.toNat_inj.1 (by show b.toNat = 48; omega))
    have HZ : Hid (zb = false) := by show _ = _; rw [hz0]; exact beq_eq_false_iff_ne.2 hb
    have HO : Hid (ok = true) := by show _ = _; rw [HO0.out, HZ.out]; rfl
    clear hz0 hb
    cases ng
    · have HV : Hid (vv = (n : Int)) := by show _ = _; rw [HV0.out, HO.out]; rfl
      rw [HO.out, HV.out]
      go_enter Tryz.func197, Tryz.ntmps197
      go_wp2_with fail
      refine (HC.out _).mono ?_
      rintro e _ ⟨rfl, rfl⟩
      go_wp2_with (first | (go_at_call 143; refine (HA.out _).mono ?_; rintro e _ ⟨rfl, rfl⟩) | (go_at_call 248; refine (HN2.out _).mono ?_; rintro e _ ⟨rfl, rfl⟩))
      go_ret2
      exact ⟨rfl, rfl⟩
    · have HV : Hid (vv = -(n : Int)) := by show _ = _; rw [HV0.out, HO.out]; rfl
      rw [HO.out, HV.out]
      go_enter Tryz.func197, Tryz.ntmps197
      go_wp2_with fail
      refine (HC.out _).mono ?_
      rintro e _ ⟨rfl, rfl⟩
      go_wp2_with (first | (go_at_call 143; refine (HA.out _).mono ?_; rintro e _ ⟨rfl, rfl⟩) | (go_at_call 248; refine (HN2.out _).mono ?_; rintro e _ ⟨rfl, rfl⟩))
      go_ret2
      exact ⟨rfl, rfl⟩

/-- The number of a field; -1 if it is none. -/
def fieldN (t : ByteArray) : Int := if numOk t then numV t else -1
set_option maxRecDepth 100000 in
theorem impl_fieldNumber (t : ByteArray) (w : World) (ht : t.size ≤ maxLen) :
    Calls Tryz.prog 201 #[.string t] w fun e w' => e = .returned (.int .i64 (fieldN t)) ∧ w = w' := by
  have HN := Lib.hid (fun W => impl_parseNumber t W ht)
  have HF : Hid (fieldN t = if numOk t then numV t else -1) := rfl
  generalize numV t = n at *
  generalize fieldN t = r at *
  cases h : numOk t
  · rw [h] at HN HF
    rw [show r = -1 from HF.out]
    clear h
    go_enter Tryz.func201, Tryz.ntmps201
    go_wp2_with fail
    refine (HN.out _).mono ?_
    rintro e _ ⟨rfl, rfl⟩
    go_wp2_with fail
    go_ret
    exact ⟨rfl, rfl⟩
  · rw [h] at HN HF
    rw [show r = n from HF.out]
    clear h
    go_enter Tryz.func201, Tryz.ntmps201
    go_wp2_with fail
    refine (HN.out _).mono ?_
    rintro e _ ⟨rfl, rfl⟩
    go_wp2_with fail
    go_ret
    exact ⟨rfl, rfl⟩

end Go.Proofs.YtpinkbodbedajaaGreatDoor

namespace Go.Proofs.YtpinkbodbedajaaGreatDoor
open Go.RowKit

def spL (xs : List Ltr) (dg : Int) : List Ltr := if bpOk xs dg then (binsOf (digI dg.toNat) 10 xs).flatten else []
theorem spL_no {xs : List Ltr} {dg : Int} (h : bpOk xs dg = false) : spL xs dg = [] := by unfold spL; rw [h]; rfl
theorem spL_yes {xs : List Ltr} {dg : Int} (h : bpOk xs dg = true) : spL xs dg = (binsOf (digI dg.toNat) 10 xs).flatten := by unfold spL; rw [if_pos h]
theorem bpOk_ok {xs : List Ltr} {dg : Int} (h : bpOk xs dg = true) : okB xs = true ∧ 0 ≤ dg ∧ dg < 7 := by
  unfold bpOk at h
  simp only [Bool.and_eq_true, decide_eq_true_iff] at h
  exact ⟨h.1, h.2.1, h.2.2⟩
theorem sp_collect {xs : List Ltr} {dg : Int} (h : bpOk xs dg = true) : collectOk (bpBins xs dg) = true ∧ collected (bpBins xs dg) = spL xs dg := by
  have hc : collectOk (bpBins xs dg) = true := by
    unfold collectOk
    rw [bpBins_yes h, binsOf_len, okB_binsOf _ _ (bpOk_ok h).1]
    rfl
  exact ⟨hc, by rw [collected_yes hc, spL_yes h, bpBins_yes h]⟩
theorem spL_ok {xs : List Ltr} {dg : Int} (h : bpOk xs dg = true) : okB (spL xs dg) = true := by
  rw [spL_yes h]; exact okB_binsOf _ _ (bpOk_ok h).1

set_option maxRecDepth 100000 in
set_option maxHeartbeats 800000 in
theorem impl_SortPass (vb : Value) (xs : List Ltr) (dg : Int) (w : World) (hb : rd w w.heap.size vb xs) :
    Calls Tryz.prog 38 #[vb, .int .i64 dg] w fun e w' => ∃ v', e = .returned (.tuple #[v', .bool (bpOk xs dg)]) ∧ own 89 w.heap.size w' v' (spL xs dg) ∧ Below w.heap.size w w' := by
  have HB := Lib.hid (impl_BinPass vb xs dg w hb)
  obtain ⟨A, n, cp, rfl, hn, hc, hmx, hr⟩ := hb
  clear hr hn hc hmx
  go_enter Tryz.func38, Tryz.ntmps38
  go_wp2_with fail
  refine HB.out.mono ?_
  cases hk : bpOk xs dg
  · rintro e w1 ⟨vB, vs, rfl, hL, b1⟩
    have HL1 := Lib.hid b1
    have HS := Lib.hid (spL_no hk)
    have HK := Lib.hid hk
    clear hL b1 hk
    go_wp2_with fail
    go_ret2
    exact ⟨.slice none 0 0, by rw [HK.out]; rfl, by rw [HS.out]; exact own.nil_ _ _ _, HL1.out⟩
  · rintro e w1 ⟨vB, vs, rfl, hL, b1⟩
    have HL1 := Lib.hid b1
    obtain ⟨c1, c2⟩ := sp_collect hk
    have HC := Lib.hid (impl_CollectBins vB (bpBins xs dg) w1 (ownLL.rd ⟨_, hL⟩))
    rw [c1, c2] at HC
    have HK := Lib.hid hk
    clear c1 c2 hL b1 hk
    go_wp2_with fail
    refine HC.out.mono ?_
    rintro e w2 ⟨v2, rfl, o2, b2⟩
    have HO2 := Lib.hid (o2.base_ HL1.out.size)
    have HL2 := Lib.hid (later_trans HL1.out b2)
    obtain ⟨A2, n2, c2, rfl, -, -, -, -⟩ := o2.rd
    clear o2 b2
    go_wp2_with fail
    go_ret2
    exact ⟨_, by rw [HK.out]; rfl, HO2.out, HL2.out⟩

/-- A number told: nothing for -1. -/
def numT (n : Int) : ByteArray := if n = -1 then ⟨#[]⟩ else ⟨(Lib.itoa n).toArray⟩
theorem strconv_ItoaI (n : Int) (w : World) (hn : isI64 n) (ht : TabW w) :
    Calls Tryz.prog 56 #[.int .i64 n] w fun e w' => e = .returned (.string ⟨(Lib.itoa n).toArray⟩) ∧ Below w.heap.size w w' := by
  refine (Tryz.strconv_Itoa n hn.1 hn.2 w ht).mono ?_
  rintro e w' ⟨rfl, k, os, rfl⟩
  exact ⟨rfl, below_grow w k os⟩
set_option maxRecDepth 100000 in
theorem impl_numberText (n : Int) (w : World) (hn : isI64 n) (ht : TabW w) :
    Calls Tryz.prog 193 #[.int .i64 n] w fun e w' => e = .returned (.string (numT n)) ∧ Below w.heap.size w w' := by
  have HI := Lib.hid (fun W h => strconv_ItoaI n W hn (ht.on (w' := W) h))
  by_cases h1 : n = -1
  · subst h1
    go_enter Tryz.func193, Tryz.ntmps193
    go_wp2_with fail
    go_ret
    exact ⟨rfl, Below.refl _ _⟩
  · have hq : (n == -1) = false := beq_eq_false_iff_ne.2 h1
    have HT : Hid (numT n = ⟨(Lib.itoa n).toArray⟩) := by show _ = _; unfold numT; rw [if_neg h1]
    clear h1 hn
    go_enter Tryz.func193, Tryz.ntmps193
    go_wp2_with fail
    refine (HI.out _ (Below.refl _ _)).mono ?_
    rintro e w1 ⟨rfl, b1⟩
    go_wp2_with fail
    go_ret
    exact ⟨ret_str HT.out.symm, b1⟩
end Go.Proofs.YtpinkbodbedajaaGreatDoor
