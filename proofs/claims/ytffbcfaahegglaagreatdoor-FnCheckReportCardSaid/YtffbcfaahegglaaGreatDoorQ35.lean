/- FG SR1 SRG -/
import Derived.Test.YtffbcfaahegglaaGreatDoorQ25
import Derived.Test.YtffbcfaahegglaaGreatDoorQ17
import Derived.Test.YtffbcfaahegglaaGreatDoorQ44
import Derived.Test.YtffbcfaahegglaaGreatDoorQ14
namespace Go.Proofs.YtffbcfaahegglaaGreatDoor
open Go.RowKit

theorem split_at_ {c : UInt8} : ∀ {p q s t : List UInt8}, c ∉ p → c ∉ q → p ++ c :: s = q ++ c :: t → p = q ∧ s = t
  | [], [], _, _, _, _, h => by simpa using h
  | [], b :: q, _, _, _, hq, h => by
    simp only [List.nil_append, List.cons_append, List.cons.injEq] at h
    exact absurd (h.1 ▸ List.mem_cons_self) hq
  | a :: p, [], _, _, hp, _, h => by
    simp only [List.nil_append, List.cons_append, List.cons.injEq] at h
    exact absurd (h.1 ▸ List.mem_cons_self) hp
  | a :: p, b :: q, _, _, hp, hq, h => by
    simp only [List.cons_append, List.cons.injEq] at h
    obtain ⟨e1, e2⟩ := split_at_ (fun m => hp (List.mem_cons_of_mem _ m)) (fun m => hq (List.mem_cons_of_mem _ m)) h.2
    exact ⟨by rw [h.1, e1], e2⟩
theorem ofNat_dig (k : Nat) (h : k < 10) : (UInt8.ofNat (48 + k)).toNat = 48 + k := by
  rw [UInt8.toNat_ofNat']; omega
theorem dec10_dig : ∀ n, ∀ b ∈ dec10 n, 48 ≤ b.toNat ∧ b.toNat ≤ 57 := by
  intro n
  induction n using Nat.strongRecOn with
  | _ n ih =>
    intro b hb
    by_cases h0 : n = 0
    · subst h0; rw [dec10] at hb; exact absurd hb (by simp)
    · rw [dec10_step (by omega), List.mem_append, List.mem_singleton] at hb
      rcases hb with hb | rfl
      · exact ih (n / 10) (by omega) b hb
      · rw [ofNat_dig _ (by omega)]; omega
theorem decL_dig (n : Nat) : ∀ b ∈ decL n, 48 ≤ b.toNat ∧ b.toNat ≤ 57 := by
  unfold decL
  split
  · intro b hb
    rw [List.mem_singleton] at hb
    subst hb
    exact ⟨by decide, by decide⟩
  · exact dec10_dig n
theorem dec10_inj : ∀ m n, dec10 m = dec10 n → m = n := by
  intro m
  induction m using Nat.strongRecOn with
  | _ m ih =>
    intro n h
    by_cases hm : m = 0 <;> by_cases hn : n = 0
    · omega
    · rw [hm, dec10_step (n := n) (by omega), dec10] at h
      have := congrArg List.length h
      simp at this
    · rw [hn, dec10_step (n := m) (by omega), show dec10 0 = [] by rw [dec10]] at h
      have := congrArg List.length h
      simp at this
    · rw [dec10_step (n := m) (by omega), dec10_step (n := n) (by omega)] at h
      obtain ⟨h1, h2⟩ := List.append_inj' h rfl
      have h3 := ih (m / 10) (by omega) (n / 10) h1
      simp only [List.cons.injEq, and_true] at h2
      have h4 := congrArg UInt8.toNat h2
      rw [ofNat_dig _ (by omega), ofNat_dig _ (by omega)] at h4
      omega
theorem decL_inj {m n : Nat} (h : decL m = decL n) : m = n := by
  have key : ∀ k, k ≠ 0 → dec10 k ≠ [48] := fun k hk e => by
    rw [dec10_step (by omega)] at e
    have e2 : dec10 (k / 10) = [] ∧ UInt8.ofNat (48 + k % 10) = 48 := by
      cases hd : dec10 (k / 10) with
      | nil => rw [hd] at e; simpa using e
      | cons a l => rw [hd] at e; have := congrArg List.length e; simp at this
    have h4 := congrArg UInt8.toNat e2.2
    rw [ofNat_dig _ (by omega)] at h4
    have h5 : (48 : UInt8).toNat = 48 := rfl
    rw [h5] at h4
    by_cases h0 : k / 10 = 0
    · omega
    · rw [dec10_step (by omega)] at e2
      have := congrArg List.length e2.1
      simp at this
  unfold decL at h
  by_cases hm : m = 0 <;> by_cases hn : n = 0
  · omega
  · rw [if_pos hm, if_neg hn] at h; exact absurd h.symm (key n hn)
  · rw [if_neg hm, if_pos hn] at h; exact absurd h (key m hm)
  · rw [if_neg hm, if_neg hn] at h; exact dec10_inj m n h

def vL (x : Ltr) : Prop := 1 ≤ x.id ∧ x.id ≤ 9999 ∧ isCode x.code = true
theorem vL_of {xs : List Ltr} (h : okB xs = true) : ∀ x ∈ xs, vL x := fun x hx => by
  obtain ⟨k, hk, rfl⟩ := List.getElem_of_mem hx
  obtain ⟨h1, h2, h3, _⟩ := (okB_iff.1 h).2 k hk
  exact ⟨h1, h2, h3⟩
def txL (x : Ltr) : List UInt8 := decL x.id.toNat ++ 58 :: x.code.data.toList
theorem fmtL_tx (x : Ltr) : (fmtL x).data.toList = txL x := by
  unfold fmtL txL
  rw [ba_append, ba_append]
  simp [decB]
theorem code_dig {s : ByteArray} (h : isCode s = true) : ∀ b ∈ s.data.toList, 48 ≤ b.toNat ∧ b.toNat ≤ 57 := fun b hb => by
  unfold isCode digs at h
  rw [Bool.and_eq_true, List.all_eq_true] at h
  have := h.2 b hb
  unfold dig at this
  simpa [UInt8.le_iff_toNat_le] using this
theorem code_len {s : ByteArray} (h : isCode s = true) : s.data.toList.length = 7 := by
  unfold isCode at h
  rw [Bool.and_eq_true, beq_iff_eq] at h
  simpa using h.1
theorem txL_split {x y : Ltr} {s t : List UInt8} (hx : vL x) (hy : vL y) (h : txL x ++ s = txL y ++ t) : x = y ∧ s = t := by
  unfold txL at h
  rw [List.append_assoc, List.append_assoc, List.cons_append, List.cons_append] at h
  have no : ∀ n, (58 : UInt8) ∉ decL n := fun n hb => by
    have := (decL_dig n _ hb).2
    have h5 : (58 : UInt8).toNat = 58 := rfl
    omega
  obtain ⟨h1, h2⟩ := split_at_ (no _) (no _) h
  have h3 := decL_inj h1
  obtain ⟨h4, h5⟩ := List.append_inj h2 (by rw [code_len hx.2.2, code_len hy.2.2])
  obtain ⟨xi, xc⟩ := x
  obtain ⟨yi, yc⟩ := y
  have e1 := hx.1; have e2 := hy.1
  simp only at e1 e2 h3 h4
  have e3 : xi = yi := by omega
  have e4 : xc = yc := ba_ext h4
  rw [e3, e4]
  exact ⟨rfl, h5⟩
def txs : List Ltr → List UInt8
  | [] => []
  | [x] => txL x
  | x :: y :: l => txL x ++ 32 :: txs (y :: l)
theorem joinT_txs : ∀ xs : List Ltr, (joinT (xs.map fmtL) spT).data.toList = txs xs
  | [] => by simp [joinT_nil, txs]
  | [x] => by rw [List.map_cons, List.map_nil, joinT_one, fmtL_tx]; rfl
  | x :: y :: l => by
    have ih := joinT_txs (y :: l)
    unfold joinT Lib.join at ih ⊢
    have e : ∀ (a c : List UInt8) (m : List (List UInt8)) (sep : List UInt8), sep.intercalate (a :: c :: m) = a ++ sep ++ sep.intercalate (c :: m) := fun a c m sep => by
      simp [List.intercalate, List.intersperse]
    simp only [List.map_cons] at ih ⊢
    rw [e]
    show (_ ++ _ ++ _ : List UInt8) = _
    have ih' : (List.intercalate spT.data.toList ((fmtL y).data.toList :: (l.map fmtL).map (·.data.toList))) = txs (y :: l) := ih
    rw [ih', fmtL_tx]
    show txL x ++ [32] ++ txs (y :: l) = txL x ++ 32 :: txs (y :: l)
    rw [List.append_assoc]; rfl
theorem txs_cons (x : Ltr) (l : List Ltr) : ∃ s, txs (x :: l) = txL x ++ s ∧ (s = [] ↔ l = []) := by
  cases l with
  | nil => exact ⟨[], by simp [txs], by simp⟩
  | cons y l => exact ⟨32 :: txs (y :: l), rfl, by simp⟩
theorem txs_inj : ∀ xs ys : List Ltr, (∀ x ∈ xs, vL x) → (∀ y ∈ ys, vL y) → txs xs = txs ys → xs = ys
  | [], [], _, _, _ => rfl
  | [], y :: l, _, _, h => by
    obtain ⟨s, e, _⟩ := txs_cons y l
    rw [e] at h
    have := congrArg List.length h
    simp [txs, txL] at this
  | x :: l, [], _, _, h => by
    obtain ⟨s, e, _⟩ := txs_cons x l
    rw [e] at h
    have := congrArg List.length h
    simp [txs, txL] at this
  | [x], [y], hx, hy, h => by
    have h' : txL x ++ [] = txL y ++ [] := by simpa [txs] using h
    rw [(txL_split (hx x (by simp)) (hy y (by simp)) h').1]
  | [x], y :: z :: l, hx, hy, h => by
    have h' : txL x ++ [] = txL y ++ 32 :: txs (z :: l) := by simpa [txs] using h
    exact absurd (txL_split (hx x (by simp)) (hy y (by simp)) h').2 (by simp)
  | x :: z :: l, [y], hx, hy, h => by
    have h' : txL x ++ 32 :: txs (z :: l) = txL y ++ [] := by simpa [txs] using h
    exact absurd (txL_split (hx x (by simp)) (hy y (by simp)) h').2 (by simp)
  | x :: x' :: l, y :: y' :: m, hx, hy, h => by
    have h' : txL x ++ 32 :: txs (x' :: l) = txL y ++ 32 :: txs (y' :: m) := h
    obtain ⟨e1, e2⟩ := txL_split (hx x (by simp)) (hy y (by simp)) h'
    rw [List.cons.injEq] at e2
    rw [e1, txs_inj (x' :: l) (y' :: m) (fun u hu => hx u (List.mem_cons_of_mem _ hu)) (fun u hu => hy u (List.mem_cons_of_mem _ hu)) e2.2]
theorem txL_ch {x : Ltr} (h : vL x) : ∀ b ∈ txL x, 48 ≤ b.toNat ∧ b.toNat ≤ 58 := fun b hb => by
  unfold txL at hb
  rw [List.mem_append, List.mem_cons] at hb
  rcases hb with hb | rfl | hb
  · have := decL_dig _ b hb; omega
  · exact ⟨by decide, by decide⟩
  · have := code_dig h.2.2 b hb; omega
theorem txs_ch : ∀ xs : List Ltr, (∀ x ∈ xs, vL x) → ∀ b ∈ txs xs, b.toNat = 32 ∨ (48 ≤ b.toNat ∧ b.toNat ≤ 58)
  | [], _, b, hb => absurd hb (by simp [txs])
  | [x], hx, b, hb => .inr (txL_ch (hx x (by simp)) b hb)
  | x :: y :: l, hx, b, hb => by
    have hb' : b ∈ txL x ++ 32 :: txs (y :: l) := hb
    rw [List.mem_append, List.mem_cons] at hb'
    rcases hb' with h | rfl | h
    · exact .inr (txL_ch (hx x (by simp)) b h)
    · exact .inl rfl
    · exact txs_ch (y :: l) (fun u hu => hx u (List.mem_cons_of_mem _ hu)) b h
theorem fmtB_tx {xs : List Ltr} (h : okB xs = true) : (fmtB xs).data.toList = if xs.length = 0 then [45] else txs xs := by
  by_cases h0 : xs.length = 0
  · rw [fmtB_empty h h0, if_pos h0]
  · rw [fmtB_some h h0, if_neg h0, joinT_txs]
theorem fmtB_no47 {xs : List Ltr} (h : okB xs = true) : (47 : UInt8) ∉ (fmtB xs).data.toList := by
  rw [fmtB_tx h]
  split
  · decide
  · intro hb
    have := txs_ch xs (vL_of h) _ hb
    have h5 : (47 : UInt8).toNat = 47 := rfl
    omega
theorem fmtB_inj {xs ys : List Ltr} (hx : okB xs = true) (hy : okB ys = true) (h : fmtB xs = fmtB ys) : xs = ys := by
  have h' : (fmtB xs).data.toList = (fmtB ys).data.toList := by rw [h]
  rw [fmtB_tx hx, fmtB_tx hy] at h'
  have no : ∀ zs : List Ltr, okB zs = true → txs zs ≠ [45] := fun zs hz e => by
    have := txs_ch zs (vL_of hz) 45 (by rw [e]; simp)
    have h5 : (45 : UInt8).toNat = 45 := rfl
    omega
  by_cases a : xs.length = 0 <;> by_cases b : ys.length = 0
  · rw [List.length_eq_zero_iff.1 a, List.length_eq_zero_iff.1 b]
  · rw [if_pos a, if_neg b] at h'; exact absurd h'.symm (no ys hy)
  · rw [if_neg a, if_pos b] at h'; exact absurd h' (no xs hx)
  · rw [if_neg a, if_neg b] at h'; exact txs_inj xs ys (vL_of hx) (vL_of hy) h'
theorem all4_parts {r : Rpt} (h : okB (all4 r) = true) : okB r.round = true ∧ okB r.strange = true ∧ okB r.held = true ∧ okB r.stuck = true := by
  unfold all4 at h
  have e : ∀ {xs : List Ltr}, xs.Sublist (r.round ++ r.strange ++ r.held ++ r.stuck) → okB xs = true := fun hs => okB_sub h hs
  refine ⟨e ?_, e ?_, e ?_, e ?_⟩
  · exact ((List.sublist_append_left _ _).trans (List.sublist_append_left _ _)).trans (List.sublist_append_left _ _)
  · exact ((List.sublist_append_right _ _).trans (List.sublist_append_left _ _)).trans (List.sublist_append_left _ _)
  · exact (List.sublist_append_right _ _).trans (List.sublist_append_left _ _)
  · exact List.sublist_append_right _ _
/-- The text tells the report. -/
theorem fmtR_inj {x r : Rpt} (hx : okB (all4 x) = true) (h : fmtR r = fmtR x) : r = x := by
  have hr : okB (all4 r) = true := by
    cases hr : okB (all4 r)
    · rw [fmtR_no hr, fmtR_yes hx] at h
      have := congrArg ByteArray.size h
      simp only [ByteArray.size_append] at this
      have e1 : (⟨#[]⟩ : ByteArray).size = 0 := rfl
      have e2 : slT.size = 1 := rfl
      omega
    · rfl
  obtain ⟨a1, a2, a3, a4⟩ := all4_parts hx
  obtain ⟨b1, b2, b3, b4⟩ := all4_parts hr
  rw [fmtR_yes hr, fmtR_yes hx] at h
  have h' := congrArg (fun s : ByteArray => s.data.toList) h
  simp only [ba_append] at h'
  have e : slT.data.toList = [47] := rfl
  rw [e] at h'
  simp only [List.append_assoc, List.singleton_append] at h'
  obtain ⟨c1, h1⟩ := split_at_ (fmtB_no47 b1) (fmtB_no47 a1) h'
  obtain ⟨c2, h2⟩ := split_at_ (fmtB_no47 b2) (fmtB_no47 a2) h1
  obtain ⟨c3, c4⟩ := split_at_ (fmtB_no47 b3) (fmtB_no47 a3) h2
  obtain ⟨x0, x1, x2, x3⟩ := x
  obtain ⟨r0, r1, r2, r3⟩ := r
  simp only at *
  rw [fmtB_inj b1 a1 (ba_ext c1), fmtB_inj b2 a2 (ba_ext c2), fmtB_inj b3 a3 (ba_ext c3), fmtB_inj b4 a4 (ba_ext c4)]

end Go.Proofs.YtffbcfaahegglaaGreatDoor

namespace Go.Proofs.YtffbcfaahegglaaGreatDoor
open Go.RowKit

set_option maxRecDepth 100000 in
set_option maxHeartbeats 1600000 in
theorem so_reports (v v' : Value) (r : Rpt) (w : World) (hv : rdR w w.heap.size v r) (hv' : rdR w w.heap.size v' r) :
    Calls Tryz.prog 9 #[v, v'] w fun e w' => e = .returned (.bool true) ∧ Below w.heap.size w w' := by
  obtain ⟨A0, a0, A1, a1, A2, a2, A3, a3, e0⟩ := openR hv
  obtain ⟨B0, b0, B1, b1, B2, b2, B3, b3, e1⟩ := openR hv'
  obtain ⟨wa, hwa⟩ : ∃ wa, wa = w.alloc (Obj.cells #[.slice A0 r.round.length a0, .slice A1 r.strange.length a1, .slice A2 r.held.length a2, .slice A3 r.stuck.length a3] 31) := ⟨_, rfl⟩
  obtain ⟨wb, hwb⟩ : ∃ wb, wb = wa.alloc (Obj.cells #[.slice B0 r.round.length b0, .slice B1 r.strange.length b1, .slice B2 r.held.length b2, .slice B3 r.stuck.length b3] 31) := ⟨_, rfl⟩
  have q0 := fun W h => box_cells hwa 0 (.slice A0 r.round.length a0) rfl W (later_trans (box_later hwb).1 h)
  have q1 := fun W h => box_cells hwa 1 (.slice A1 r.strange.length a1) rfl W (later_trans (box_later hwb).1 h)
  have q2 := fun W h => box_cells hwa 2 (.slice A2 r.held.length a2) rfl W (later_trans (box_later hwb).1 h)
  have q3 := fun W h => box_cells hwa 3 (.slice A3 r.stuck.length a3) rfl W (later_trans (box_later hwb).1 h)
  have r0 := box_cells hwb 0 (.slice B0 r.round.length b0) rfl
  have r1 := box_cells hwb 1 (.slice B1 r.strange.length b1) rfl
  have r2 := box_cells hwb 2 (.slice B2 r.held.length b2) rfl
  have r3 := box_cells hwb 3 (.slice B3 r.stuck.length b3) rfl
  have HT := Lib.hid (later_trans (box_later hwa).1 (box_later hwb).1)
  have h1 := hv.on HT.out
  have h2 := hv'.on HT.out
  subst e0 e1
  obtain ⟨p0, p1, p2, p3⟩ := partsR h1
  obtain ⟨s0, s1, s2, s3⟩ := partsR h2
  have P0 := Lib.hid p0; have P1 := Lib.hid p1; have P2 := Lib.hid p2; have P3 := Lib.hid p3
  have S0 := Lib.hid s0; have S1 := Lib.hid s1; have S2 := Lib.hid s2; have S3 := Lib.hid s3
  have hza : wa.heap.size = w.heap.size + 1 := by subst hwa; simp
  rw [hza] at r0 r1 r2 r3
  clear hv hv' h1 h2 p0 p1 p2 p3 s0 s1 s2 s3 hza
  have HWA := Lib.hid hwa; have HWB := Lib.hid hwb
  clear hwa hwb
  have l0 := Below.refl wb.heap.size wb
  go_enter Tryz.func9, Tryz.ntmps9
  go_wp2_with fail
  rw [← HWA.out, ← HWB.out]
  refine (so_batch _ _ r.round _ P0.out S0.out).mono ?_
  rintro e w1 ⟨rfl, c1⟩
  have l1 := later_trans l0 c1
  go_wp2_with fail
  refine (so_batch _ _ r.strange _ (P1.out.on l1) (S1.out.on l1)).mono ?_
  rintro e w2 ⟨rfl, c2⟩
  have l2 := later_trans l1 c2
  go_wp2_with fail
  refine (so_batch _ _ r.held _ (P2.out.on l2) (S2.out.on l2)).mono ?_
  rintro e w3 ⟨rfl, c3⟩
  have l3 := later_trans l2 c3
  go_wp2_with fail
  refine (so_batch _ _ r.stuck _ (P3.out.on l3) (S3.out.on l3)).mono ?_
  rintro e w4 ⟨rfl, c4⟩
  have l4 := later_trans l3 c4
  go_wp2_with fail
  go_ret
  exact ⟨rfl, later_trans HT.out l4⟩

end Go.Proofs.YtffbcfaahegglaaGreatDoor

namespace Go.Proofs.YtffbcfaahegglaaGreatDoor
open Go.RowKit

def eqR (r r' : Rpt) : Bool := eqBy ltrEq r.round r'.round && eqBy ltrEq r.strange r'.strange && eqBy ltrEq r.held r'.held && eqBy ltrEq r.stuck r'.stuck
theorem eqR_iff {r r' : Rpt} : eqR r r' = true ↔ r = r' := by
  obtain ⟨x0, x1, x2, x3⟩ := r
  obtain ⟨y0, y1, y2, y3⟩ := r'
  simp [eqR, eqBy_iff ltrEq_iff, and_assoc]
set_option maxRecDepth 100000 in
set_option maxHeartbeats 1600000 in
theorem so_reportsG (v v' : Value) (r r' : Rpt) (w : World) (hv : rdR w w.heap.size v r) (hv' : rdR w w.heap.size v' r') :
    Calls Tryz.prog 9 #[v, v'] w fun e w' => e = .returned (.bool (eqR r r')) ∧ Below w.heap.size w w' := by
  obtain ⟨A0, a0, A1, a1, A2, a2, A3, a3, e0⟩ := openR hv
  obtain ⟨B0, b0, B1, b1, B2, b2, B3, b3, e1⟩ := openR hv'
  obtain ⟨wa, hwa⟩ : ∃ wa, wa = w.alloc (Obj.cells #[.slice A0 r.round.length a0, .slice A1 r.strange.length a1, .slice A2 r.held.length a2, .slice A3 r.stuck.length a3] 31) := ⟨_, rfl⟩
  obtain ⟨wb, hwb⟩ : ∃ wb, wb = wa.alloc (Obj.cells #[.slice B0 r'.round.length b0, .slice B1 r'.strange.length b1, .slice B2 r'.held.length b2, .slice B3 r'.stuck.length b3] 31) := ⟨_, rfl⟩
  have q0 := fun W h => box_cells hwa 0 (.slice A0 r.round.length a0) rfl W (later_trans (box_later hwb).1 h)
  have q1 := fun W h => box_cells hwa 1 (.slice A1 r.strange.length a1) rfl W (later_trans (box_later hwb).1 h)
  have q2 := fun W h => box_cells hwa 2 (.slice A2 r.held.length a2) rfl W (later_trans (box_later hwb).1 h)
  have q3 := fun W h => box_cells hwa 3 (.slice A3 r.stuck.length a3) rfl W (later_trans (box_later hwb).1 h)
  have r0 := box_cells hwb 0 (.slice B0 r'.round.length b0) rfl
  have r1 := box_cells hwb 1 (.slice B1 r'.strange.length b1) rfl
  have r2 := box_cells hwb 2 (.slice B2 r'.held.length b2) rfl
  have r3 := box_cells hwb 3 (.slice B3 r'.stuck.length b3) rfl
  have HT := Lib.hid (later_trans (box_later hwa).1 (box_later hwb).1)
  have h1 := hv.on HT.out
  have h2 := hv'.on HT.out
  subst e0 e1
  obtain ⟨p0, p1, p2, p3⟩ := partsR h1
  obtain ⟨s0, s1, s2, s3⟩ := partsR h2
  have P0 := Lib.hid p0; have P1 := Lib.hid p1; have P2 := Lib.hid p2; have P3 := Lib.hid p3
  have S0 := Lib.hid s0; have S1 := Lib.hid s1; have S2 := Lib.hid s2; have S3 := Lib.hid s3
  have hza : wa.heap.size = w.heap.size + 1 := by subst hwa; simp
  rw [hza] at r0 r1 r2 r3
  clear hv hv' h1 h2 p0 p1 p2 p3 s0 s1 s2 s3 hza
  have HWA := Lib.hid hwa; have HWB := Lib.hid hwb
  clear hwa hwb
  have l0 := Below.refl wb.heap.size wb
  have HB : Hid (eqR r r' = (eqBy ltrEq r.round r'.round && eqBy ltrEq r.strange r'.strange && eqBy ltrEq r.held r'.held && eqBy ltrEq r.stuck r'.stuck)) := rfl
  generalize eqR r r' = D at *
  go_enter Tryz.func9, Tryz.ntmps9
  go_wp2_with fail
  rw [← HWA.out, ← HWB.out]
  refine (laws_soBatch _ _ r.round r'.round _ P0.out S0.out).mono ?_
  rintro e w1 ⟨rfl, c1⟩
  have l1 := later_trans l0 c1
  cases g0 : eqBy ltrEq r.round r'.round
  · have HE : Hid (D = false) := by show _ = _; rw [HB.out, g0]; simp
    clear g0
    go_wp2_with fail
    go_ret
    exact ⟨by rw [HE.out]; rfl, later_trans HT.out l1⟩
  have G0 := Lib.hid g0; clear g0
  go_wp2_with fail
  refine (laws_soBatch _ _ r.strange r'.strange _ (P1.out.on l1) (S1.out.on l1)).mono ?_
  rintro e w2 ⟨rfl, c2⟩
  have l2 := later_trans l1 c2
  cases g1 : eqBy ltrEq r.strange r'.strange
  · have HE : Hid (D = false) := by show _ = _; rw [HB.out, g1]; simp
    clear g1
    go_wp2_with fail
    go_ret
    exact ⟨by rw [HE.out]; rfl, later_trans HT.out l2⟩
  have G1 := Lib.hid g1; clear g1
  go_wp2_with fail
  refine (laws_soBatch _ _ r.held r'.held _ (P2.out.on l2) (S2.out.on l2)).mono ?_
  rintro e w3 ⟨rfl, c3⟩
  have l3 := later_trans l2 c3
  cases g2 : eqBy ltrEq r.held r'.held
  · have HE : Hid (D = false) := by show _ = _; rw [HB.out, g2]; simp
    clear g2
    go_wp2_with fail
    go_ret
    exact ⟨by rw [HE.out]; rfl, later_trans HT.out l3⟩
  have G2 := Lib.hid g2; clear g2
  go_wp2_with fail
  refine (laws_soBatch _ _ r.stuck r'.stuck _ (P3.out.on l3) (S3.out.on l3)).mono ?_
  rintro e w4 ⟨rfl, c4⟩
  have l4 := later_trans l3 c4
  cases g3 : eqBy ltrEq r.stuck r'.stuck
  · have HE : Hid (D = false) := by show _ = _; rw [HB.out, g3]; simp
    clear g3
    go_wp2_with fail
    go_ret
    exact ⟨by rw [HE.out]; rfl, later_trans HT.out l4⟩
  have G3 := Lib.hid g3; clear g3
  have HE : Hid (D = true) := by show _ = _; rw [HB.out, G0.out, G1.out, G2.out, G3.out]; rfl
  go_wp2_with fail
  go_ret
  exact ⟨by rw [HE.out]; rfl, later_trans HT.out l4⟩

end Go.Proofs.YtffbcfaahegglaaGreatDoor
