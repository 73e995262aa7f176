/- B7 B8 B9 -/
import Derived.Test.YtmangjjaijhcnaaQ43
import Derived.IntWalk
import Derived.Test.YtmangjjaijhcnaaQ12
namespace Go.Proofs.Ytmangjjaijhcnaa
open Go.RowKit

/-- What PlanPass and RunPlan give. -/
def ppOk (p : Pln) (xs : List Ltr) (k : Int) : Bool := passOk p k && okB xs
def ppBins (p : Pln) (xs : List Ltr) (k : Int) : List (List Ltr) := if ppOk p xs k then binsOf (fun x => binI p x.code k.toNat) p.bins.toNat xs else []
def ppRest (p : Pln) (xs : List Ltr) (k : Int) : List Ltr := if ppOk p xs k then restOf (fun x => binI p x.code k.toNat) xs else []
def rpOk (p : Pln) (xs : List Ltr) : Bool := planOk p && okB xs
def rpRound (p : Pln) (xs : List Ltr) : List Ltr := if rpOk p xs then passesN p 0 p.passes.toNat xs else []
def rpRest (p : Pln) (xs : List Ltr) : List Ltr := if rpOk p xs then restOf (fun x => binI p x.code 0) xs else []
def binsOk (p : Pln) (xss : List (List Ltr)) (k : Int) : Bool := passOk p k && (xss.length == p.bins.toNat) && okB xss.flatten
def finished (p : Pln) (xss : List (List Ltr)) (k : Int) : List Ltr := if binsOk p xss k then passesN p (k.toNat + 1) (p.passes.toNat - (k.toNat + 1)) xss.flatten else []
theorem isLL_nil {α : Type} [El α] (T1 T2 base : Nat) (w : World) : isLL (α := α) T1 T2 base w (.slice none 0 0) [] [] :=
  ⟨own.nil_ _ _ _, rfl, fun k h => absurd h (Nat.not_lt_zero k), fun j k h => absurd h (Nat.not_lt_zero j), fun k h => absurd h (Nat.not_lt_zero k)⟩
theorem okB_len' {xs : List Ltr} (h : okB xs = true) : xs.length ≤ 60 := (okB_iff.1 h).1


set_option maxRecDepth 100000 in
set_option maxHeartbeats 800000 in
theorem impl_RunPlan (v vb : Value) (p : Pln) (xs : List Ltr) (w : World) (hv : rdP w w.heap.size v p) (hb : rd w w.heap.size vb xs) :
    Calls Try.prog 51 #[v, vb] w fun e w' => ∃ vL vO, e = .returned (.tuple #[vL, vO, .bool (rpOk p xs)]) ∧ own 55 w.heap.size w' vL (rpRound p xs) ∧ own 55 w.heap.size w' vO (rpRest p xs) ∧ apart vL vO ∧ Below w.heap.size w w' := by
  obtain ⟨A0, c0, e0⟩ := openP hv
  obtain ⟨w0, hw0⟩ : ∃ w0, w0 = w.alloc (Obj.cells #[.int .i64 p.bins, .int .i64 p.passes, .slice A0 p.order.length c0] 25) := ⟨_, rfl⟩
  have q0 := box_cells hw0 0 (.int .i64 p.bins) rfl
  have q1 := box_cells hw0 1 (.int .i64 p.passes) rfl
  have q2 := box_cells hw0 2 (.slice A0 p.order.length c0) rfl
  have HT := Lib.hid (box_later hw0).1
  have HP := Lib.hid (hv.on HT.out)
  have HB := Lib.hid (hb.on HT.out)
  subst e0
  have HW0 := Lib.hid hw0; clear hw0 hv hb
  have l0 := Below.refl w0.heap.size w0
  have hwlt : w.heap.size ≤ w0.heap.size := HT.out.size
  have HNO : Hid (∀ h : rpOk p xs = false, ∀ W : World, own 55 w.heap.size W (.slice none 0 0) (rpRound p xs) ∧ own 55 w.heap.size W (.slice none 0 0) (rpRest p xs)) := fun h W => by
    unfold rpRound rpRest; rw [h]; exact ⟨own.nil_ _ _ _, own.nil_ _ _ _⟩
  have HQ : Hid (rpOk p xs = (planOk p && okB xs)) := rfl
  go_enter Try.func51, Try.ntmps51
  go_wp2_with fail
  rw [← HW0.out]
  refine (impl_PlanValid _ p _ HP.out).mono ?_
  rintro e w1 ⟨rfl, b1⟩
  have l1 := later_trans l0 b1
  cases h1 : planOk p
  · have HF : Hid (rpOk p xs = false) := by show _ = _; rw [HQ.out, h1]; rfl
    clear h1
    go_wp2_with fail
    go_ret3
    exact ⟨_, _, ret_tup (by rw [HF.out] <;> rfl), (HNO.out HF.out _).1, (HNO.out HF.out _).2, .inl rfl, later_trans HT.out l1⟩
  obtain ⟨g1, g2, g3, g4, g5⟩ := planOk_bins h1
  have H1 := Lib.hid h1; clear h1
  go_wp2_with fail
  refine (impl_BatchValid _ xs _ (HB.out.on l1)).mono ?_
  rintro e w2 ⟨rfl, b2⟩
  have l2 := later_trans l1 b2
  cases h2 : okB xs
  · have HF : Hid (rpOk p xs = false) := by show _ = _; rw [HQ.out, h2, Bool.and_false]
    clear h2
    go_wp2_with fail
    go_ret3
    exact ⟨_, _, ret_tup (by rw [HF.out] <;> rfl), (HNO.out HF.out _).1, (HNO.out HF.out _).2, .inl rfl, later_trans HT.out l2⟩
  have hxl := okB_len' h2
  have HF : Hid (rpOk p xs = true) := by show _ = _; rw [HQ.out, h2, H1.out]; rfl
  clear h2
  obtain ⟨M, hM⟩ := Int.eq_ofNat_of_zero_le (show 0 ≤ p.passes by omega)
  have HMM := Lib.hid hM; clear hM
  have hm1 : 1 ≤ M ∧ M ≤ 4 := by have := HMM.out; omega
  have HY : Hid (rpRound p xs = passesN p 0 M xs ∧ rpRest p xs = outN p 0 M xs) := by
    unfold rpRound rpRest; rw [HF.out, HMM.out, Int.toNat_natCast]
    refine ⟨rfl, ?_⟩
    obtain ⟨M', rfl⟩ : ∃ M', M = M' + 1 := ⟨M - 1, by omega⟩
    rw [outN_first g1]; rfl
  have HD := Lib.hid (fun W (hW : Below w0.heap.size w0 W) => impl_doPasses _ _ p xs 0 M W (HP.out.on hW) (HB.out.on hW) g1 g2 hm1.2 (Nat.zero_le _) (by omega) (by omega))
  have HD2 : Hid (∀ W, Below w0.heap.size w0 W → Calls Try.prog 98 #[.agg #[.int .i64 p.bins, .int .i64 p.passes, .slice A0 p.order.length c0], vb, .int .i64 0, .int .i64 p.passes] W fun e w' => ∃ vL vO, e = .returned (.tuple #[vL, vO]) ∧ own 55 W.heap.size w' vL (passesN p 0 M xs) ∧ own 55 W.heap.size w' vO (outN p 0 M xs) ∧ apart vL vO ∧ Below W.heap.size W w') := fun W hW => by
    have h := HD.out W hW
    rw [← HMM.out] at h
    exact h
  clear HD
  go_wp2_with fail
  refine (HD2.out _ l2).mono ?_
  rintro e w3 ⟨vL, vO, rfl, hL, hO, hA, b3⟩
  have l3 := later_trans l2 b3
  have HL := Lib.hid hL; have HO := Lib.hid hO; have HA := Lib.hid hA
  clear hL hO hA
  go_wp2_with fail
  go_ret3
  exact ⟨_, _, ret_tup (by rw [HF.out] <;> rfl), by rw [HY.out.1]; exact HL.out.base_ (Nat.le_trans hwlt l2.size), by rw [HY.out.2]; exact HO.out.base_ (Nat.le_trans hwlt l2.size), HA.out, later_trans HT.out l3⟩


theorem binsOk_iff {p : Pln} {xss : List (List Ltr)} {k : Int} : binsOk p xss k = true ↔ passOk p k = true ∧ xss.length = p.bins.toNat ∧ okB xss.flatten = true := by
  unfold binsOk
  simp only [Bool.and_eq_true, beq_iff_eq, and_assoc]


end Go.Proofs.Ytmangjjaijhcnaa

namespace Go.Proofs.Ytmangjjaijhcnaa
open Go.RowKit


end Go.Proofs.Ytmangjjaijhcnaa

namespace Go.Proofs.Ytmangjjaijhcnaa
open Go.RowKit

/-- The numbers of the letters in wrong bins, of the first n bins. -/
def wrongRow (f : Ltr → Int) (i : Nat) (ys : List Ltr) : List Int := (ys.filter fun x => f x != (i : Int)).map Ltr.id
def wrongTo (f : Ltr → Int) (xss : List (List Ltr)) (n : Nat) : List Int := (List.range n).flatMap fun i => wrongRow f i (xss.getD i [])
theorem wrongTo_succ {f : Ltr → Int} {xss : List (List Ltr)} {n : Nat} (h : n < xss.length) : wrongTo f xss (n + 1) = wrongTo f xss n ++ wrongRow f n xss[n] := by
  unfold wrongTo
  rw [List.range_succ, List.flatMap_append]
  simp [h]
theorem wrongRow_len (f : Ltr → Int) (i : Nat) (ys : List Ltr) : (wrongRow f i ys).length ≤ ys.length := by
  unfold wrongRow; rw [List.length_map]; exact List.length_filter_le _ _
theorem wrongTo_len (f : Ltr → Int) (xss : List (List Ltr)) : ∀ n, n ≤ xss.length → (wrongTo f xss n).length ≤ (xss.take n).flatten.length
  | 0, _ => by simp [wrongTo]
  | n + 1, h => by
    rw [wrongTo_succ (by omega), List.length_append, List.take_succ_eq_append_getElem (by omega), List.flatten_append, List.length_append]
    have h1 := wrongTo_len f xss n (by omega)
    have h2 := wrongRow_len f n xss[n]
    simp only [List.flatten_cons, List.flatten_nil, List.append_nil]
    omega
theorem wrongRow_step {f : Ltr → Int} {i : Nat} {ys : List Ltr} {m : Nat} (h : m < ys.length) : wrongRow f i (ys.take (m + 1)) = if f ys[m] = (i : Int) then wrongRow f i (ys.take m) else wrongRow f i (ys.take m) ++ [ys[m].id] := by
  unfold wrongRow
  rw [List.take_succ_eq_append_getElem h, List.filter_append, List.map_append]
  by_cases hf : f ys[m] = (i : Int)
  · simp [hf]
  · simp [hf]
def wrongL (p : Pln) (xss : List (List Ltr)) (k : Int) : List Int := if binsOk p xss k then wrongTo (fun x => binI p x.code k.toNat) xss xss.length else []
theorem wrongL_no {p : Pln} {xss : List (List Ltr)} {k : Int} (h : binsOk p xss k = false) : wrongL p xss k = [] := by unfold wrongL; rw [h]; rfl
theorem wrongL_yes {p : Pln} {xss : List (List Ltr)} {k : Int} (h : binsOk p xss k = true) : wrongL p xss k = wrongTo (fun x => binI p x.code k.toNat) xss xss.length := by unfold wrongL; rw [if_pos h]


end Go.Proofs.Ytmangjjaijhcnaa
