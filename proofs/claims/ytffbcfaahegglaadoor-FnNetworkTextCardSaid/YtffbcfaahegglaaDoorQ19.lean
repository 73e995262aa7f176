/- NG NH NI -/
import Derived.Test.YtffbcfaahegglaaDoorQ18
import Derived.Test.YtffbcfaahegglaaDoorQ12
import Derived.Test.YtffbcfaahegglaaDoorQ5
namespace Go.Proofs.YtffbcfaahegglaaDoor
open Go.RowKit

theorem Tryd.infoByte : (Tryd.prog.info? 5).map (fun i => (i.zero, i.size, i.bytes)) = some (some (.int .u8 0), 1, 1) := by kernel_rfl
theorem dgB_dec (d : Nat) (h : d < 10) : decB d = dgB d := by
  apply ba_ext
  show decL d = [UInt8.ofNat (48 + d)]
  unfold decL
  by_cases h0 : d = 0
  · subst h0; rfl
  · rw [if_neg h0, dec10_small (by omega) (by omega)]
    unfold b8
    rw [show (48 + (d : Int)).toNat = 48 + d by omega]

theorem byteString1 (W : World) (g : Nat) (n : Int) (h : W.cell? ⟨g, 0, none⟩ = some (.int .u8 n)) : (convert 33 9 (.slice (some ⟨g, 0, none⟩) 1 1)).run Tryd.prog W = .ok (.string ⟨#[b8 n]⟩) W := by
  rw [run_convert_bytes_string _ _ _ 5 _ _ _ Tryd.underlying33 Tryd.underlying5 Tryd.underlying9]
  rw [run_bytesToString _ _ _ _ [n] (by
    refine run_loadCells_list _ _ [Value.int .u8 n] fun j v hj => ?_
    match j, hj with
    | 0, hj =>
      simp at hj
      subst hj
      rw [add_lit]
      exact h
    | j + 1, hj => simp at hj)]
  rfl


end Go.Proofs.YtffbcfaahegglaaDoor

namespace Go.Proofs.YtffbcfaahegglaaDoor
open Go.RowKit

theorem take_any_succ {α : Type} {p : α → Bool} (xs : List α) (m : Nat) (h : m < xs.length) : (xs.take (m + 1)).any p = ((xs.take m).any p || p xs[m]) := by
  rw [List.take_succ_eq_append_getElem h, List.any_append]; simp
theorem any_at {α : Type} {p : α → Bool} (xs : List α) (m : Nat) (h : m < xs.length) (hp : p xs[m] = true) : xs.any p = true := List.any_eq_true.2 ⟨_, List.getElem_mem h, hp⟩




def fbPost (T : TypeId) (L : List ByteArray) (w : World) (e : Ending) (w' : World) : Prop := ∃ v', e = .returned v' ∧ own T w.heap.size w' v' L ∧ Below w.heap.size w w'
theorem ten_pow {f : Nat} (h : f ≤ 7) : 10 ^ f ≤ 10000000 := by
  have := Nat.pow_le_pow_right (n := 10) (by omega) h
  exact this


end Go.Proofs.YtffbcfaahegglaaDoor

namespace Go.Proofs.YtffbcfaahegglaaDoor
open Go.RowKit


theorem dec_is {d : Nat} (h : d < 10) {w : World} : Calls Tryd.prog 73 #[.int .i64 d] w fun e w' => e = .returned (.string (dgB d)) ∧ Below w.heap.size w w' := by
  rw [← dgB_dec d h]; exact spec_l9Dec d w (by omega)

theorem fpS_yes {net : List Ofc} {s : ByteArray} {q : Nat} (h : netOk net = true) (hq : offI net s = q) : fpS net s = faultsN net q 8 ⟨#[]⟩ := by
  unfold fpS
  rw [h, hq, decide_eq_true (by omega), Int.toNat_natCast]
  rfl
theorem fpS_no {net : List Ofc} {s : ByteArray} (h : (netOk net && decide (0 ≤ offI net s)) = false) : fpS net s = [] := by
  unfold fpS; rw [h]; rfl


end Go.Proofs.YtffbcfaahegglaaDoor
