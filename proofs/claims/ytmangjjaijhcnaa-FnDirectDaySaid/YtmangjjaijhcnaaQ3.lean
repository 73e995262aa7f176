/- E2 W1 D0 -/
import Derived.Test.YtmangjjaijhcnaaQ2
import Derived.Test.YtmangjjaijhcnaaQ1
import Derived.Laws.BitsAllLaws
import Derived.Laws.BitsLemmas
namespace Go.Proofs.Ytmangjjaijhcnaa
open Go.RowKit

theorem Try.infoLtr : (Try.prog.info? 55).map (fun i => (i.zero, i.size, i.bytes)) = some (some (.agg #[.int .i64 0, .string ⟨#[]⟩]), 2, 24) := by kernel_rfl

set_option maxHeartbeats 400000 in
theorem laws_toLetterS (v : Value) (xs : List Ltr) (w : World) (hv : rd w w.heap.size v xs) (hl : xs.length ≤ 1048576) :
    Calls Try.prog 20 #[v] w fun e w' => ∃ v', e = .returned v' ∧ own 55 w.heap.size w' v' xs ∧ Below w.heap.size w w' := by
  obtain ⟨A, n, c, rfl, hn, hc, hm, hr⟩ := hv
  subst hn
  unfold maxLen at hm
  have HR := Lib.hid hr; clear hr
  obtain ⟨i0, hi, hz0, hz1, hz2⟩ := info_parts Try.infoLtr
  have hmk := make_row (P := Try.prog) 29 55 i0 _ Try.underlying29 hi hz0 xs.length (by rw [hz2]; omega) (by omega)
  go_enter Try.func20, Try.ntmps20
  go_wp2
  have hf0 : filled 55 (w.alloc (Obj.cells (madeCells #[Value.int IntKind.i64 0, Value.string ⟨#[]⟩] (xs.length * 2)) 55)) w.heap.size xs.length 0 xs := filled.made w _ _ _ (by rw [size_madeCells]; rfl) xs
  have hb0 : Below w.heap.size w (w.alloc (Obj.cells (madeCells #[Value.int IntKind.i64 0, Value.string ⟨#[]⟩] (xs.length * 2)) 55)) := (Below.refl _ _).alloc (Nat.le_refl _) _
  generalize w.alloc (Obj.cells (madeCells #[Value.int IntKind.i64 0, Value.string ⟨#[]⟩] (xs.length * 2)) 55) = w0 at *
  clear hmk
  go_loopw [4] (fun i wr => ∃ k : Nat, k ≤ xs.length ∧ i = .int .i64 k ∧ Below w.heap.size w wr ∧ filled 55 wr w.heap.size xs.length k xs) (fun i _ => xs.length - (intOf i).toNat)
  case atStart => exact ⟨0, Nat.zero_le _, rfl, hb0, hf0⟩
  case round =>
    obtain ⟨k, hk, rfl, hbl, hf⟩ := hrel
    obtain ⟨w1, rfl⟩ : ∃ w1 : World, w1 = wr := ⟨_, rfl⟩
    clear hf0 hb0
    by_cases hlt : k < xs.length
    · obtain ⟨b, o, rfl, hb, hok, c1, c2⟩ := HR.out.ltr k hlt
      have HST := Lib.hid (fun (W : World) (hF : filled 55 W w.heap.size xs.length k xs) => hF.step hlt (Nat.le_refl _) (ecs := xs[k].cells) ⟨hok, rfl⟩)
      generalize xs[k] = x at *
      have c1' : w1.cell? ⟨b, o + k * 2, none⟩ = some (.int .i64 x.id) := (hbl.cell (p := ⟨b, o + k * 2, none⟩) hb).trans c1
      have c2' : w1.cell? ⟨b, o + k * 2 + 1, none⟩ = some (.string x.code) := (hbl.cell (p := ⟨b, o + k * 2 + 1, none⟩) hb).trans c2
      clear c1 c2
      have HF := Lib.hid hf; clear hf
      go_wp2_with fail
      refine (laws_toLetter _ _).mono ?_
      rintro e w2 ⟨rfl, hb3⟩
      have hf2 := HF.out.below hb3
      have hb2 := hbl.trans (hb3.mono hbl.size)
      obtain ⟨u0, g0⟩ := hf2.cell (j := k * 2) (by show _ < _ * 2; omega)
      obtain ⟨u1, g1⟩ := hf2.cell (j := k * 2 + 1) (by show _ < _ * 2; omega)
      have f0 := hf2.free (k * 2)
      have f1 := hf2.free (k * 2 + 1)
      have HF2 := Lib.hid hf2; clear hf2
      go_wp2_with fail
      go_roundw
      case rel => exact ⟨k + 1, by omega, by go_num, hb2.trans (setAll_below x.cells w2 (k * 2) _ (Nat.le_refl _)), HST.out w2 HF2.out⟩
      case measure => simp [intOf]; omega
    · have HE := Lib.hid (show k = xs.length by omega)
      have HF := Lib.hid hf; clear hf
      go_wp2
      go_ret
      exact ⟨_, rfl, (HE.out ▸ HF.out : filled _ _ _ _ xs.length _).own rfl (Nat.le_refl _) (by unfold maxLen; omega), hbl⟩

/-- The decimal digits of a number; none of 0. -/
def dec10 : Nat → List UInt8
  | 0 => []
  | n + 1 => dec10 ((n + 1) / 10) ++ [UInt8.ofNat (48 + (n + 1) % 10)]
  decreasing_by omega
theorem dec10_len (n : Nat) : (dec10 n).length ≤ n := by
  induction n using Nat.strongRecOn with
  | _ n ih =>
    cases n with
    | zero => simp [dec10]
    | succ n =>
      have := ih ((n + 1) / 10) (by omega)
      rw [dec10, List.length_append, List.length_singleton]
      omega
theorem dec10_step {n : Nat} (h : 0 < n) : dec10 n = dec10 (n / 10) ++ [UInt8.ofNat (48 + n % 10)] := by
  cases n with
  | zero => omega
  | succ n => rw [dec10]
/-- 'markText': the letter m and the digits of k. -/
def markB (k : Nat) : ByteArray := if k = 0 then ⟨#[109, 48]⟩ else ⟨(109 :: dec10 k).toArray⟩

/-- 'byte(n)' -/
def b8 (n : Int) : UInt8 := UInt8.ofNat n.toNat
/-- 'string([]byte{x})' -/
theorem byteString (W : World) (n : Int) : (convert 22 9 (.slice (some ⟨W.heap.size, 0, none⟩) 1 1)).run Try.prog (W.alloc (.cells #[.int .u8 n] 5)) = .ok (.string ⟨#[b8 n]⟩) (W.alloc (.cells #[.int .u8 n] 5)) := by
  rw [run_convert_bytes_string _ _ _ 5 _ _ _ Try.underlying22 Try.underlying5 Try.underlying9]
  rw [run_bytesToString _ _ _ _ [n] (by
    refine run_loadCells_list _ _ [Value.int .u8 n] fun j v hj => ?_
    rw [add_lit, Nat.zero_add, cell_new]
    simpa using hj)]
  rfl
theorem ba_ext {a b : ByteArray} (h : a.data.toList = b.data.toList) : a = b := WideShapes.bytes_inj h
theorem ba_append (a b : ByteArray) : (a ++ b).data.toList = a.data.toList ++ b.data.toList := by simp

set_option maxHeartbeats 400000 in
theorem laws_markText (k : Nat) (w : World) (hk : k ≤ 1099511627776) :
    Calls Try.prog 80 #[.int .i64 k] w fun e w' => e = .returned (.string (markB k)) ∧ Below w.heap.size w w' := by
  have hbs := byteString
  go_enter Try.func80, Try.ntmps80
  by_cases h0 : k = 0
  · subst h0
    go_wp2
    go_ret
    exact ⟨rfl, Below.refl _ _⟩
  · have h1 : (0 : Int) < (k : Int) := by omega
    go_wp2
    go_loopw [0, 3] (fun n t wr => ∃ (m : Nat) (s : ByteArray), m ≤ k ∧ n = .int .i64 m ∧ t = .string s ∧ Below w.heap.size w wr ∧ Hid (dec10 k = dec10 m ++ s.data.toList)) (fun n _ _ => (intOf n).toNat)
    case atStart => exact ⟨k, _, Nat.le_refl _, rfl, rfl, Below.refl _ _, by show _ = _; simp⟩
    case round =>
      obtain ⟨m, s, hm, rfl, rfl, hbl, HD⟩ := hrel
      obtain ⟨w1, rfl⟩ : ∃ w1 : World, w1 = wr := ⟨_, rfl⟩
      have hsz : s.size ≤ 1099511627776 := by
        have h2 := dec10_len k
        rw [HD.out, List.length_append] at h2
        have h3 : s.data.toList.length = s.size := by rw [Array.length_toList]; rfl
        omega
      by_cases hm0 : 0 < m
      · have hmi : (0 : Int) < (m : Int) := by omega
        have hst := Lib.hid (dec10_step hm0)
        go_wp2
        go_roundw
        case rel =>
          refine ⟨m / 10, _, by omega, by go_num, rfl, hbl.alloc hbl.size _, ?_⟩
          show _ = _
          rw [HD.out, hst.out, ba_append, List.append_assoc]
          have hq : (48 + (m : Int) % 10).toNat = 48 + m % 10 := by omega
          show _ = _ ++ ([b8 (48 + (m : Int) % 10)] ++ _)
          unfold b8
          rw [hq]
        case measure => simp [intOf]; omega
      · have HE := Lib.hid (show m = 0 by omega)
        go_wp2
        go_ret
        refine ⟨ret_str ?_, hbl⟩
        have := HD.out
        rw [HE.out] at this
        unfold markB
        rw [if_neg h0, this]
        apply ba_ext
        simp [dec10]

end Go.Proofs.Ytmangjjaijhcnaa

namespace Go.Proofs.Ytmangjjaijhcnaa
open Go.RowKit

theorem flatten_set {α : Type} {n : Nat} : ∀ {l : List (List α)} (_ : ∀ x ∈ l, x.length = n) {k j : Nat} (hk : k < l.length) (_ : j < n) (u : α), l.flatten.set (k * n + j) u = (l.set k ((l[k]).set j u)).flatten
  | [], _, k, j, hk, _, _ => absurd hk (Nat.not_lt_zero k)
  | x :: l, h, 0, j, _, hj, u => by
    have hx := h x (List.mem_cons_self ..)
    simp only [Nat.zero_mul, Nat.zero_add, List.flatten_cons, List.getElem_cons_zero, List.set_cons_zero]
    rw [List.set_append_left _ _ (by omega)]
  | x :: l, h, k + 1, j, hk, hj, u => by
    have hx := h x (List.mem_cons_self ..)
    simp only [List.flatten_cons, List.getElem_cons_succ, List.set_cons_succ]
    rw [List.set_append_right _ _ (by rw [hx, Nat.add_mul]; omega), hx, show (k + 1) * n + j - n = k * n + j by rw [Nat.add_mul]; omega,
      flatten_set (fun y hy => h y (List.mem_cons_of_mem _ hy)) (by simpa using hk) hj u]

section
variable {α : Type} [Flat α] {T : TypeId} {base : Nat} {w w' : World} {xs : List α} {g n c : Nat}
theorem own.setCell (h : own T base w (.slice (some ⟨g, 0, none⟩) n c) xs) {k j : Nat} (hk : k < xs.length) (hj : j < El.size α) (u : Value) (y : α)
    (he : ∀ ecs, El.el w w.heap.size xs[k] ecs → El.el w w.heap.size y (ecs.set j u)) :
    own T base (w.setCell ⟨g, k * El.size α + j, none⟩ u) (.slice (some ⟨g, 0, none⟩) n c) (xs.set k y) := by
  obtain ⟨css, ⟨h1, h2⟩, h3, h4⟩ := h
  have hcs : ∀ x ∈ css, x.length = El.size α := fun x hx => by
    obtain ⟨i, hi, rfl⟩ := List.getElem_of_mem hx
    exact El.len (h4 i (by omega) hi)
  refine ⟨css.set k ((css[k]'(by omega)).set j u), ⟨?_, .inr ?_⟩, by simp [h3], fun i hi hi' => ?_⟩
  · rw [← flatten_set hcs (by omega) hj u, List.length_set, List.length_set]
    exact h1
  · rcases h2 with ⟨h2, _⟩ | ⟨g', cap, cur, hv, hg, hh, hc, hm, hs, ht⟩
    · injection h2 with h2
      cases h2
    · injection hv with e1 e2 e3
      injection e1 with e1
      injection e1 with e1
      subst e1 e2 e3
      have hkn : k * El.size α + El.size α ≤ xs.length * El.size α := by
        rw [← Nat.succ_mul]
        exact Nat.mul_le_mul_right _ (by omega)
      refine ⟨g, c, cur.setIfInBounds (k * El.size α + j) u, by simp, hg, by simp [World.setCell, Array.getElem?_modify, hh], by simpa using hc, hm, by simpa using hs, ?_⟩
      rw [← flatten_set hcs (by omega) hj u, ← ht, List.length_set, Array.toList_setIfInBounds]
      rw [List.take_set]
  · by_cases hik : i = k
    · subst hik
      simp only [List.getElem_set_self]
      exact Flat.free (he _ (h4 i (by simpa using hi) (by omega)))
    · rw [List.getElem_set_ne (by omega), List.getElem_set_ne (by omega)]
      exact Flat.free (h4 i (by simpa using hi) (by simpa using hi'))
/-- The cells of an owned row lie in its block. -/
theorem own.cellAt (h : own T base w (.slice (some ⟨g, 0, none⟩) n c) xs) {j : Nat} (hj : j < xs.length * El.size α) : ∃ u, w.cell? ⟨g, j, none⟩ = some u := by
  obtain ⟨css, ⟨h1, h2⟩, h3, h4⟩ := h
  rcases h2 with ⟨h2, _⟩ | ⟨g', cap, cur, hv, hg, hh, hc, hm, hs, ht⟩
  · injection h2 with h2
    cases h2
  · injection hv with e1 e2 e3
    injection e1 with e1
    injection e1 with e1
    subst e1
    have hle : xs.length * El.size α ≤ cap * El.size α := Nat.mul_le_mul_right _ hc
    exact ⟨cur[j]'(by omega), by rw [cell_of_row _ _ _ _ _ _ hh]; exact Array.getElem?_eq_getElem _⟩
theorem own.freeAt (h : own T base w (.slice (some ⟨g, 0, none⟩) n c) xs) (j : Nat) : w.frozen? ⟨g, j, none⟩ = false := by
  obtain ⟨css, ⟨h1, h2⟩, h3, h4⟩ := h
  rcases h2 with ⟨h2, _⟩ | ⟨g', cap, cur, hv, hg, hh, hc, hm, hs, ht⟩
  · injection h2 with h2
    cases h2
  · injection hv with e1 e2 e3
    injection e1 with e1
    injection e1 with e1
    subst e1
    simp [World.frozen?, hh]
end

/-! 'Only the row, and what is new, has turned.' -/
theorem grown_drewN {a w : World} {row : Option Nat} (h : a.grownBy w row) (n : Nat) : a.grownBy (w.drewN n) row := ⟨h.os, h.tape, h.output, h.size, h.block⟩
theorem grown_below {a w w' : World} {row : Option Nat} (h : a.grownBy w row) (hb : Below w.heap.size w w') : a.grownBy w' row :=
  ⟨hb.os.trans h.os, hb.tape.trans h.tape, hb.output.trans h.output, Nat.le_trans h.size hb.size, fun i hi hne => (hb.block i (Nat.lt_of_lt_of_le hi h.size)).trans (h.block i hi hne)⟩
theorem grown_setCell {a w : World} {g : Nat} (h : a.grownBy w (some g)) {p : Addr} (hp : p.block = g ∨ a.heap.size ≤ p.block) (u : Value) : a.grownBy (w.setCell p u) (some g) :=
  ⟨h.os, h.tape, h.output, by simpa [World.setCell] using h.size, fun i hi hne => (Below.heap_setCell w p u i (by
    rintro rfl
    rcases hp with hp | hp
    · exact hne (by rw [hp])
    · omega)).trans (h.block i hi hne)⟩
theorem below_of_grown {a w : World} {row : Option Nat} {B : Nat} (h : a.grownBy w row) (hB : B ≤ a.heap.size) (hr : ∀ k, row = some k → B ≤ k) : Below B a w :=
  (Below.refl B a).grown h hB hr

/-- 'out := []T{}' -/
theorem own.made0 {α : Type} [El α] (w : World) (T : TypeId) {base : Nat} (hb : base ≤ w.heap.size) : own T base (w.alloc (.cells #[] T)) (.slice (some ⟨w.heap.size, 0, none⟩) 0 0) ([] : List α) :=
  ⟨[], World.ownsRow_made w #[] 0 hb (Nat.zero_le _) (by simp), rfl, fun k h => absurd h (Nat.not_lt_zero k)⟩
/-- The cells of a block just made, as a list. -/
theorem news_at (w : World) (T : TypeId) (cs : List Value) : ∀ j u, cs[j]? = some u → (w.alloc (.cells cs.toArray T)).cell? ((⟨w.heap.size, 0, none⟩ : Addr).add j) = some u := fun j u hu => by
  rw [add_lit, Nat.zero_add, cell_new]
  simpa using hu
theorem below_append {base : Nat} {w w' : World} {v : Value} {α : Type} [El α] {T : TypeId} {xs : List α} (h : own T base w v xs) (hg : w.grownBy w' v.ownBlock) (hb : base ≤ w.heap.size) : Below base w w' :=
  below_of_grown hg hb fun k hk => (h.blk k hk).1

/-- Two rows in two blocks. -/
def apart (v v' : Value) : Prop := v.ownBlock = none ∨ v.ownBlock ≠ v'.ownBlock
theorem apart_lt {α β : Type} [El α] [El β] {T T' : TypeId} {b b' : Nat} {w w' : World} {v v' : Value} {xs : List α} {ys : List β} (h : own T b w v xs) (h' : own T' b' w' v' ys) (hle : w.heap.size ≤ b') : apart v v' := by
  unfold apart
  cases hv : v.ownBlock with
  | none => exact .inl rfl
  | some k =>
    refine .inr fun e => ?_
    have h1 := (h.blk k hv).2
    have h2 := (h'.blk k e.symm).1
    omega
theorem apart_gt {α β : Type} [El α] [El β] {T T' : TypeId} {b b' : Nat} {w w' : World} {v v' : Value} {xs : List α} {ys : List β} (h : own T b w v xs) (h' : own T' b' w' v' ys) (hle : w'.heap.size ≤ b) : apart v v' := by
  unfold apart
  cases hv : v.ownBlock with
  | none => exact .inl rfl
  | some k =>
    refine .inr fun e => ?_
    have h1 := (h.blk k hv).1
    have h2 := (h'.blk k e.symm).2
    omega
theorem below_mark {α : Type} [El α] {T : TypeId} {b : Nat} {w0 w w' : World} {v : Value} {xs : List α} (h : own T b w v xs) (hg : w.grownBy w' v.ownBlock) (hb : w0.heap.size ≤ b) (hw : Below w0.heap.size w0 w) : Below w0.heap.size w0 w' :=
  hw.grown hg hw.size fun k hk => Nat.le_trans hb (h.blk k hk).1

end Go.Proofs.Ytmangjjaijhcnaa

namespace Go.Proofs.Ytmangjjaijhcnaa
open Go.RowKit

instance elByte : El UInt8 where
  size := 1
  el _ _ x cs := cs = [.int .u8 x.toNat]
  len h := by rw [h]; rfl
  more h _ := h
  keep h _ := h
  one h := by rw [h]; intro u hu; simp at hu; rw [hu]; rfl
instance flatByte : Flat UInt8 where
  free h := h
instance elInt : El Int where
  size := 1
  el _ _ x cs := isI64 x ∧ cs = [.int .i64 x]
  len h := by rw [h.2]; rfl
  more h _ := h
  keep h _ := h
  one h := by rw [h.2]; intro u hu; simp at hu; rw [hu]; rfl
instance flatInt : Flat Int where
  free h := h
theorem rdA.byte {w : World} {B : Nat} {A : Option Addr} {xs : List UInt8} (h : rdA w B A xs) (k : Nat) (hk : k < xs.length) :
    ∃ b o, A = some ⟨b, o, none⟩ ∧ b < B ∧ w.cell? ⟨b, o + k, none⟩ = some (.int .u8 (xs[k]).toNat) := by
  obtain ⟨b, o, cs, hA, hb, rfl, hc⟩ := h k hk
  exact ⟨b, o, hA, hb, by simpa [El.size] using hc 0 _ rfl⟩
theorem rdA.int {w : World} {B : Nat} {A : Option Addr} {xs : List Int} (h : rdA w B A xs) (k : Nat) (hk : k < xs.length) :
    ∃ b o, A = some ⟨b, o, none⟩ ∧ b < B ∧ isI64 xs[k] ∧ w.cell? ⟨b, o + k, none⟩ = some (.int .i64 xs[k]) := by
  obtain ⟨b, o, cs, hA, hb, ⟨hi, rfl⟩, hc⟩ := h k hk
  exact ⟨b, o, hA, hb, hi, by simpa [El.size] using hc 0 _ rfl⟩

/-- Block g is a source at its place p, over at most 2000 bytes that lie below g. -/
def rdr (w : World) (g p : Nat) : Prop :=
  ∃ (A : Option Addr) (n c : Nat) (bs : List UInt8), w.heap[g]? = some (.cells #[.slice A n c, .int .i64 (p : Int)] 123 (0, 0)) ∧ n = bs.length ∧ n ≤ 2000 ∧ n ≤ c ∧ c ≤ maxLen ∧ rdA w g A bs
theorem rdr.lt {w : World} {g p : Nat} (h : rdr w g p) : g < w.heap.size := by
  obtain ⟨_, _, _, _, h1, _⟩ := h
  exact (Array.getElem?_eq_some_iff.1 h1).1
theorem rdr.below {w w' : World} {g p : Nat} (h : rdr w g p) (hb : Below w.heap.size w w') : rdr w' g p := by
  have hlt := h.lt
  obtain ⟨A, n, c, bs, h1, h2, h3, h4, h5, h6⟩ := h
  exact ⟨A, n, c, bs, (hb.block g hlt).trans h1, h2, h3, h4, h5, h6.keep fun p hp => hb.cell (Nat.lt_trans hp hlt)⟩
/-- Only the source, and what is new, has turned. -/
theorem rdr.grown {w w' : World} {g p g' : Nat} (h : rdr w g p) (hg : w.grownBy w' (some g')) (hlt : g < g') : rdr w' g p := by
  have hlt' := h.lt
  obtain ⟨A, n, c, bs, h1, h2, h3, h4, h5, h6⟩ := h
  refine ⟨A, n, c, bs, (hg.block g hlt' (fun e => by injection e; omega)).trans h1, h2, h3, h4, h5, h6.keep fun q hq => ?_⟩
  exact World.cell?_of_block (hg.block q.block (by omega) (fun e => by injection e; omega))

theorem xor_nonneg (a b : Nat) (ha : a < 9223372036854775808) (hb : b < 9223372036854775808) : ∃ c : Nat, bits .xor .i64 (a : Int) (b : Int) = (c : Int) ∧ c < 9223372036854775808 := by
  have hx : a ^^^ b < 2 ^ 63 := Nat.xor_lt_two_pow (by omega) (by omega)
  have h1 : ∀ a : Nat, a < 9223372036854775808 → (BitVec.ofInt 64 (a : Int)).toNat = a := fun a ha => by
    rw [BitVec.ofInt_natCast, BitVec.toNat_ofNat]; exact Nat.mod_eq_of_lt (by omega)
  refine ⟨a ^^^ b, ?_, by omega⟩
  show IntKind.i64.wrap ((BitVec.ofInt 64 (a : Int) ^^^ BitVec.ofInt 64 (b : Int)).toNat : Int) = _
  rw [BitVec.toNat_xor, h1 a ha, h1 b hb, IntKind.wrap_i64]
  omega

/-- What 'pick' gives. -/
def picked (n x : Int) : Prop := (n < 1 → x = 0) ∧ (1 ≤ n → 0 ≤ x ∧ x < n)

set_option maxHeartbeats 1000000 in
theorem rd_pick (g p : Nat) (n : Int) (w : World) (hr : rdr w g p) (hp : p ≤ 1099511627776) (hn : isI64 n) :
    Calls Try.prog 84 #[.pointer (some ⟨g, 0, none⟩), .int .i64 n] w fun e w' => ∃ x : Int, e = .returned (.int .i64 x) ∧ picked n x ∧ rdr w' g (p + 1) ∧ w.grownBy w' (some g) := by
  have hlt := hr.lt
  obtain ⟨n1, n2⟩ := hn
  obtain ⟨A, m, c, bs, h1, rfl, h3, h4, h5, h6⟩ := hr
  have g0 : w.cell? ⟨g, 0, none⟩ = some (.slice A bs.length c) := by rw [cell_of_row _ _ _ _ _ _ h1]; rfl
  have g1 : w.cell? ⟨g, 1, none⟩ = some (.int .i64 p) := by rw [cell_of_row _ _ _ _ _ _ h1]; rfl
  have f0 : w.frozen? ⟨g, 1, none⟩ = false := by simp [World.frozen?, h1]
  have hr1 : rdr (w.setCell ⟨g, 1, none⟩ (.int .i64 ((p : Int) + 1))) g (p + 1) :=
    ⟨A, bs.length, c, bs, by simp [World.setCell, Array.getElem?_modify, h1], rfl, h3, h4, h5, h6.keep fun q hq => World.cell?_setCell_other _ _ _ _ (fun e => by subst e; simp at hq)⟩
  have hgr : w.grownBy (w.setCell ⟨g, 1, none⟩ (.int .i64 ((p : Int) + 1))) (some g) := grown_setCell (World.grownBy.refl _ _) (.inl rfl) _
  have HR := Lib.hid hr1; clear hr1
  have H6 := Lib.hid h6; clear h6
  have H1 := Lib.hid h1; clear h1
  have HG := Lib.hid hgr; clear hgr
  unfold maxLen at h5
  go_enter Try.func84, Try.ntmps84
  by_cases hn0 : n < 1
  · have HP : Hid (picked n 0) := ⟨fun _ => rfl, fun h => absurd hn0 (Int.not_lt.2 h)⟩
    go_wp2
    go_ret
    exact ⟨0, rfl, HP.out, HR.out, HG.out⟩
  by_cases hl0 : bs.length = 0
  · have hl0' : ((bs.length : Int) == 0) = true := by simp [hl0]
    have HL := Lib.hid hl0; clear hl0
    have HP : Hid (picked n 0) := ⟨fun _ => rfl, fun h => ⟨Int.le_refl _, Int.lt_of_lt_of_le (by decide) h⟩⟩
    go_wp2
    go_ret
    exact ⟨0, rfl, HP.out, HR.out, HG.out⟩
  have hl0' : ((bs.length : Int) == 0) = false := beq_eq_false_iff_ne.2 (by omega)
  by_cases hpl : p < bs.length
  · obtain ⟨b, o, rfl, hb, c1⟩ := H6.out.byte p hpl
    have hby : (bs[p].toNat : Int) ≤ 255 := by have := bs[p].toNat_lt; omega
    generalize bs[p] = u at *
    have c2 : (w.setCell ⟨g, 1, none⟩ (.int .i64 ((p : Int) + 1))).cell? ⟨b, o + p, none⟩ = some (.int .u8 u.toNat) := (World.cell?_setCell_other _ _ _ _ (fun e => by injection e; omega)).trans c1
    have hmod : 0 ≤ (u.toNat : Int) % n ∧ (u.toNat : Int) % n < n := ⟨Int.emod_nonneg _ (by omega), Int.emod_lt_of_pos _ (by omega)⟩
    have HM := Lib.hid hmod; clear hmod
    have HN := Lib.hid (Int.not_lt.1 hn0)
    go_wp2
    go_ret
    exact ⟨(u.toNat : Int) % n, rfl, ⟨fun h => absurd h (Int.not_lt.2 HN.out), fun _ => HM.out⟩, HR.out, HG.out⟩
  · have hL : 0 < bs.length := by omega
    have hm1 := Nat.mod_lt p hL
    have hm2 := Nat.mod_lt (p * 7 + 3) hL
    obtain ⟨b, o, rfl, hb, c1⟩ := H6.out.byte _ hm1
    obtain ⟨b', o', hA, _, d1⟩ := H6.out.byte _ hm2
    injection hA with hA
    injection hA with hA1 hA2
    subst hA1 hA2
    have hby1 : (bs[p % bs.length].toNat : Int) ≤ 255 := by have := bs[p % bs.length].toNat_lt; omega
    have hby2 : (bs[(p * 7 + 3) % bs.length].toNat : Int) ≤ 255 := by have := bs[(p * 7 + 3) % bs.length].toNat_lt; omega
    generalize bs[p % bs.length] = u at *
    generalize bs[(p * 7 + 3) % bs.length] = u' at *
    have hdv : p / bs.length ≤ p := Nat.div_le_self _ _
    have r1 : (p : Int).tmod (bs.length : Int) = ((p % bs.length : Nat) : Int) := by rw [Int.tmod_eq_emod_of_nonneg (by omega)]; rfl
    have r2 : ((p : Int) * 7 + 3).tmod (bs.length : Int) = (((p * 7 + 3) % bs.length : Nat) : Int) := by rw [Int.tmod_eq_emod_of_nonneg (by omega)]; rfl
    have r3 : (p : Int).tdiv (bs.length : Int) = ((p / bs.length : Nat) : Int) := by rw [Int.tdiv_eq_ediv_of_nonneg (by omega)]; rfl
    generalize hi1 : p % bs.length = i1 at *
    generalize hi2 : (p * 7 + 3) % bs.length = i2 at *
    generalize hi3 : p / bs.length = i3 at *
    clear hi1 hi2 hi3
    have c2 : (w.setCell ⟨g, 1, none⟩ (.int .i64 ((p : Int) + 1))).cell? ⟨b, o + i1, none⟩ = some (.int .u8 u.toNat) := (World.cell?_setCell_other _ _ _ _ (fun e => by injection e; omega)).trans c1
    have d2 : (w.setCell ⟨g, 1, none⟩ (.int .i64 ((p : Int) + 1))).cell? ⟨b, o + i2, none⟩ = some (.int .u8 u'.toNat) := (World.cell?_setCell_other _ _ _ _ (fun e => by injection e; omega)).trans d1
    have q1 : (i1 : Int) < (bs.length : Int) := by omega
    have q2 : (i2 : Int) < (bs.length : Int) := by omega
    go_wp2
    go_quiet (fail)
    have HN := Lib.hid (show 1 ≤ n by omega)
    go_wp2
    go_ret
    obtain ⟨y, hy, _⟩ := xor_nonneg (u.toNat * 131 + u'.toNat * 1117 + p * 29 + i3 * 53) ((u.toNat * 131 + u'.toNat * 1117 + p * 29 + i3 * 53) / 64) (by omega) (by omega)
    have hy' : bits BinOp.xor IntKind.i64 ((u.toNat : Int) * 131 + (u'.toNat : Int) * 1117 + (p : Int) * 29 + (i3 : Int) * 53) (((u.toNat : Int) * 131 + (u'.toNat : Int) * 1117 + (p : Int) * 29 + (i3 : Int) * 53) / 64) = (y : Int) := by
      rw [← hy]; congr 1
    refine ⟨_, rfl, ⟨fun h => absurd h (Int.not_lt.2 HN.out), fun h => ?_⟩, rdr.below HR.out (below_drewN (Below.refl _ _) nq), grown_drewN HG.out nq⟩
    rw [hy', Int.tmod_eq_emod_of_nonneg (by omega)]
    exact ⟨Int.emod_nonneg _ (by omega), Int.emod_lt_of_pos _ (by omega)⟩

end Go.Proofs.Ytmangjjaijhcnaa
