/- DT -/
import Derived.Test.YtnlljekijlkigaaQ33
import Derived.Test.YtnlljekijlkigaaQ37
namespace Go.Proofs.Ytnlljekijlkigaa
open Go.RowKit

/-! ### Plain facts -/
/-- One letter more in the last tray, or in a new one. -/
def putT (s : Int) (L : List (List Ltr)) (x : Ltr) : List (List Ltr) :=
  if L.length = 0 ∨ ((L.getD (L.length - 1) []).length : Int) = s then L ++ [[x]] else L.set (L.length - 1) (L.getD (L.length - 1) [] ++ [x])
def trayTo (s : Int) (xs : List Ltr) : List (List Ltr) := xs.foldl (putT s) []
theorem trayTo_succ {s : Int} {xs : List Ltr} {k : Nat} (h : k < xs.length) : trayTo s (xs.take (k + 1)) = putT s (trayTo s (xs.take k)) xs[k] := by
  unfold trayTo; rw [List.take_succ_eq_append_getElem h, List.foldl_append]; rfl
theorem putT_len (s : Int) (L : List (List Ltr)) (x : Ltr) : (putT s L x).length ≤ L.length + 1 ∧ 0 < (putT s L x).length ∧ L.length ≤ (putT s L x).length := by
  unfold putT
  split
  · simp
  · rename_i h
    rw [List.length_set]
    have : L.length ≠ 0 := fun e => h (.inl e)
    omega
theorem set_flat {α : Type} : ∀ (L : List (List α)) (n : Nat) (r : List α) (h : n < L.length), ((L.set n r).flatten).length + (L[n]).length = (L.flatten).length + r.length := by
  intro L
  induction L with
  | nil => intro n r h; simp at h
  | cons a L ih =>
    intro n r h
    cases n with
    | zero => simp; omega
    | succ n =>
      simp only [List.set_cons_succ, List.flatten_cons, List.length_append, List.getElem_cons_succ]
      have := ih n r (by simpa using h)
      omega
theorem putT_flat (s : Int) (L : List (List Ltr)) (x : Ltr) : (putT s L x).flatten.length = L.flatten.length + 1 := by
  unfold putT
  split
  · simp
  · rename_i h
    have hn : L.length - 1 < L.length := by
      have : L.length ≠ 0 := fun e => h (.inl e)
      omega
    have h1 := set_flat L (L.length - 1) (L.getD (L.length - 1) [] ++ [x]) hn
    rw [List.getD_eq_getElem?_getD, List.getElem?_eq_getElem hn] at h1 ⊢
    simp only [Option.getD_some, List.length_append, List.length_singleton] at h1 ⊢
    omega
theorem trayTo_facts (s : Int) (xs : List Ltr) : ∀ k, k ≤ xs.length → (trayTo s (xs.take k)).length ≤ k ∧ ((trayTo s (xs.take k)).length = 0 ↔ k = 0) ∧ (trayTo s (xs.take k)).flatten.length = k
  | 0, _ => by simp [trayTo]
  | k + 1, h => by
    obtain ⟨h1, h2, h3⟩ := trayTo_facts s xs k (by omega)
    rw [trayTo_succ (by omega), putT_flat]
    obtain ⟨a, b, _⟩ := putT_len s (trayTo s (xs.take k)) xs[k]
    omega
theorem putT_new {s : Int} {L : List (List Ltr)} {x : Ltr} (h : L.length = 0 ∨ ∃ d, ∃ hd : d < L.length, L.length = d + 1 ∧ (L[d].length : Int) = s) : putT s L x = L ++ [[x]] := by
  unfold putT
  rw [if_pos]
  rcases h with h | ⟨d, hd, h1, h2⟩
  · exact .inl h
  · refine .inr ?_
    have e : L.length - 1 = d := by omega
    rw [e, List.getD_eq_getElem?_getD, List.getElem?_eq_getElem hd]
    exact h2
theorem putT_old {s : Int} {L : List (List Ltr)} {x : Ltr} {d : Nat} (hd : d < L.length) (h1 : L.length = d + 1) (h2 : (L[d].length : Int) ≠ s) : putT s L x = L.set d (L[d] ++ [x]) := by
  unfold putT
  have e : L.length - 1 = d := by omega
  rw [e, List.getD_eq_getElem?_getD, List.getElem?_eq_getElem hd, if_neg]
  · rfl
  · rintro (h | h)
    · omega
    · exact h2 h
theorem last_set {L : List (List Ltr)} {x : Ltr} {d : Nat} (h1 : L.length = d) (hd : d < (L ++ [[]]).length) : (L ++ [[]]).set d ((L ++ [[]])[d] ++ [x]) = L ++ [[x]] := by
  subst h1
  simp [List.getElem_append_right]
def ftOk (s : Int) (xs : List Ltr) : Bool := okB xs && sizeOk s
def ftRows (s : Int) (xs : List Ltr) : List (List Ltr) := if ftOk s xs then trayTo s xs else []
def dtOk (d : Dy) (xs : List Ltr) : Bool := rdOk d xs && ftOk d.size (rptOf d xs).round
def dtRows (d : Dy) (xs : List Ltr) : List (List Ltr) := if rdOk d xs then ftRows d.size (rptOf d xs).round else []
theorem ftRows_len (s : Int) (xs : List Ltr) : (ftRows s xs).length ≤ 60 ∧ (ftRows s xs).flatten.length ≤ 60 := by
  unfold ftRows
  split
  · rename_i h
    unfold ftOk at h
    rw [Bool.and_eq_true] at h
    have h1 := okB_len' h.1
    obtain ⟨a, _, b⟩ := trayTo_facts s xs xs.length (Nat.le_refl _)
    rw [List.take_length] at a b
    omega
  · simp
theorem dtRows_len (d : Dy) (xs : List Ltr) : (dtRows d xs).length ≤ 60 ∧ (dtRows d xs).flatten.length ≤ 60 := by
  unfold dtRows
  split
  · exact ftRows_len _ _
  · simp

theorem own.made1 {α : Type} [Flat α] (w : World) (T : TypeId) (cs : List Value) (x : α) {base : Nat} (hel : El.el w w.heap.size x cs) (hb : base ≤ w.heap.size) : own T base (w.alloc (.cells cs.toArray T)) (.slice (some ⟨w.heap.size, 0, none⟩) 1 1) [x] := by
  refine ⟨[cs], ⟨by simp [El.len hel], .inr ⟨w.heap.size, 1, cs.toArray, rfl, hb, heap_alloc_new w _, Nat.le_refl _, by unfold maxLen; omega, by simp [El.len hel], ?_⟩⟩, rfl, fun k h1 h2 => ?_⟩
  · show List.take (1 * El.size α) _ = _
    rw [Nat.one_mul, ← El.len hel]; simp
  · have hk : k = 0 := by simp at h1; omega
    subst hk
    exact Flat.free hel

set_option maxRecDepth 100000 in
set_option maxHeartbeats 6400000 in
theorem impl_FillByPrefix0 (vb : Value) (xs : List Ltr) (s : Int) (w : World) (hb : rd w w.heap.size vb xs) :
    Calls Try.prog 139 #[vb, .int .i64 s, .int .i64 0] w fun e w' => ∃ v', e = .returned (.tuple #[v', .bool (ftOk s xs)]) ∧ ownLL 29 49 w.heap.size w' v' (ftRows s xs) ∧ Below w.heap.size w w' := by
  have HB := Lib.hid hb
  obtain ⟨A, n, c, rfl, hn, hc, hm, hr⟩ := hb
  subst hn
  unfold maxLen at hm
  have HR := Lib.hid hr; clear hr
  have HNO : Hid (∀ h : ftOk s xs = false, ftRows s xs = []) := fun h => by unfold ftRows; rw [h]; rfl
  have HQ : Hid (ftOk s xs = (okB xs && sizeOk s)) := rfl
  obtain ⟨i0, hi, hzz, hz1, hz2⟩ := info_parts Try.infoRow
  obtain ⟨i1, ji, jz0, jz1, jz2⟩ := info_parts Try.infoLtr
  go_enter Try.func139, Try.ntmps139
  go_wp2_with fail
  refine (impl_BatchValid _ xs _ HB.out).mono ?_
  rintro e w1 ⟨rfl, b1⟩
  have l1 := later_trans (Below.refl w.heap.size w) b1
  clear b1
  cases h1 : okB xs
  · have HF : Hid (ftOk s xs = false) := by show _ = _; rw [HQ.out, h1]; rfl
    clear h1
    go_wp2_with fail
    go_ret2
    exact ⟨_, ret_tup (by rw [HF.out] <;> rfl), by rw [HNO.out HF.out]; exact ⟨[], isLL_nil _ _ _ _⟩, l1⟩
  have hxl := okB_len' h1
  have H1 := Lib.hid h1; clear h1
  go_wp2_with fail
  refine (impl_sizeValid s _).mono ?_
  rintro e w2 ⟨rfl, rfl⟩
  cases h2 : sizeOk s
  · have HF : Hid (ftOk s xs = false) := by show _ = _; rw [HQ.out, h2, Bool.and_false]
    clear h2
    go_wp2_with fail
    go_ret2
    exact ⟨_, ret_tup (by rw [HF.out] <;> rfl), by rw [HNO.out HF.out]; exact ⟨[], isLL_nil _ _ _ _⟩, l1⟩
  have HF : Hid (ftOk s xs = true) := by show _ = _; rw [HQ.out, h2, H1.out]; rfl
  have HY : Hid (ftRows s xs = trayTo s xs) := by show _ = _; unfold ftRows; rw [if_pos HF.out]
  have HFA := Lib.hid (trayTo_facts s xs)
  clear h2 HB
  go_wp2_with fail
  go_loopw [8, 30] (fun t i wr => ∃ (k : Nat) (vs : List Value), k ≤ xs.length ∧ i = .int .i64 k ∧ Below w.heap.size w wr ∧ isLL 29 49 w.heap.size wr t (trayTo s (xs.take k)) vs) (fun _ i _ => xs.length - (intOf i).toNat)
  case atStart => exact ⟨0, [], Nat.zero_le _, rfl, l1, isLL_nil _ _ _ _⟩
  case round =>
    obtain ⟨k, vs, hk, rfl, lr, hB⟩ := hrel
    obtain ⟨w3, rfl⟩ : ∃ w3 : World, w3 = wr := ⟨_, rfl⟩
    clear l1
    by_cases hlt : k < xs.length
    · obtain ⟨b, o, rfl, hb, ⟨hxi, hxc⟩, c1, c2⟩ := HR.out.ltrU k hlt
      have HSTEP := Lib.hid (trayTo_succ (s := s) hlt)
      obtain ⟨f1, f2, f3⟩ := HFA.out k hk
      have HPREV : Hid (∀ k', k = k' + 1 → ∃ y : ByteArray, y.size ≤ maxLen ∧ ∀ W, Below w.heap.size w W → W.cell? ⟨b, o + k' * 2 + 1, none⟩ = some (.string y)) := fun k' hk' => by
        obtain ⟨b', o', hA', _, ⟨_, hyc⟩, _, e2⟩ := HR.out.ltrU k' (by omega)
        injection hA' with hA'
        injection hA' with hA1 hA2
        subst hA1 hA2
        exact ⟨_, hyc, e2⟩
      generalize xs[k] = x at *
      obtain ⟨L, hL⟩ : ∃ L, trayTo s (xs.take k) = L := ⟨_, rfl⟩
      rw [hL] at hB HSTEP f1 f2 f3
      clear hL
      have HROW : Hid (∀ d (h : d < L.length), L[d].length ≤ 60) := fun d h => Nat.le_trans (row_le_flat h) (by omega)
      obtain ⟨AO, mO, cO, rfl, hmO, _, _, _⟩ := hB.1.rd
      subst hmO
      have hvl : vs.length = L.length := hB.2.1
      have hvb : vs.length ≤ 60 := by omega
      have HBB := Lib.hid hB; clear hB
      have hki : (k : Int) < (xs.length : Int) := by omega
      obtain ⟨wl, hwl⟩ : ∃ wl : World, wl = w3.alloc (Obj.cells #[.int .i64 x.id, .string x.code] 49) := ⟨_, rfl⟩
      have y0 := box_cells hwl 0 (.int .i64 x.id) rfl
      have y1 := box_cells hwl 1 (.string x.code) rfl
      have ll := later_trans lr (box_later hwl).1
      have hs0 : w.heap.size ≤ wl.heap.size := ll.size
      have HB4 := Lib.hid (HBB.out.below (box_later hwl).1)
      have HWL2 := Lib.hid hwl; clear hwl
      have lwl := Below.refl wl.heap.size wl
      have hbx : b < w.heap.size := hb
      by_cases hk0 : k = 0
      · have hL0 : L.length = 0 := f2.2 hk0
        have HST : Hid (trayTo s (xs.take (k + 1)) = L ++ [[x]]) := by show _ = _; rw [HSTEP.out, putT_new (.inl hL0)]
        have hk0' : ((k : Int) == 0) = true := by simp [hk0]
        clear f2 hL0 hvl
        have HK0 := Lib.hid hk0; clear hk0
        go_wp2
        rw [← HWL2.out]
        go_quiet (fail)
        try clear hvd
        try clear hvl
        try clear hd
        obtain ⟨wq, hwq⟩ : ∃ u, u = wl.drewN nq := ⟨_, rfl⟩
        have lq := later_drewN ll nq
        have bq := later_drewN lwl nq
        rw [← hwq] at lq bq ⊢
        clear hwq
        have HBq := Lib.hid (HB4.out.below bq)
        have hsq : w.heap.size ≤ wq.heap.size := lq.size
        have hz1' : (wq.alloc (Obj.cells #[Value.int IntKind.i64 x.id, Value.string x.code] 49)).heap.size = wq.heap.size + 1 := by simp
        have OR1 : Hid (own (α := Ltr) 49 wq.heap.size (wq.alloc (Obj.cells #[Value.int IntKind.i64 x.id, Value.string x.code] 49)) (.slice (some ⟨wq.heap.size, 0, none⟩) 1 1) [x]) := own.made1 wq _ (Ltr.cells x) x ⟨⟨hxi, hxc⟩, rfl⟩ (Nat.le_refl _)
        have HF1 : Hid (farLL (.slice (some ⟨wq.heap.size, 0, none⟩) 1 1) (.slice AO vs.length cO) vs) := ⟨apart_gt OR1.out HBq.out.1 (Nat.le_refl _), fun i hi => apart_gt OR1.out (HBq.out.2.2.1 i hi (by have := HBq.out.2.1; omega)) (Nat.le_refl _)⟩
        have bw1 : Below wq.heap.size wq (wq.alloc (Obj.cells #[Value.int IntKind.i64 x.id, Value.string x.code] 49)) := later_alloc (Below.refl _ _) _
        have HBr := Lib.hid (HBq.out.below bw1)
        have hnews : ∀ j u, [(.slice (some ⟨wq.heap.size, 0, none⟩) 1 1 : Value)][j]? = some u → ((wq.alloc (Obj.cells #[Value.int IntKind.i64 x.id, Value.string x.code] 49)).alloc (Obj.cells #[.slice (some ⟨wq.heap.size, 0, none⟩) 1 1] 29)).cell? ((⟨wq.heap.size + 1, 0, none⟩ : Addr).add j) = some u := by
          rw [← hz1']; exact news_at (wq.alloc (Obj.cells #[Value.int IntKind.i64 x.id, Value.string x.code] 49)) _ [.slice (some ⟨wq.heap.size, 0, none⟩) 1 1]
        clear hz1' bw1
        go_wp2_with (at_builtin; refine wpList_append1' (α := Value) rfl (.tmp 64) (.tmp 67) 51 rfl w.heap.size 29 i0 _ 24 Try.underlying51 hi hzz hz1 hz2 rfl (by decide) (.slice AO vs.length cO) vs (.slice (some ⟨wq.heap.size, 0, none⟩) 1 1) rfl (HBr.out.1.alloc _) ⟨wq.heap.size + 1, 0, none⟩ 1 [.slice (some ⟨wq.heap.size, 0, none⟩) 1 1] rfl ⟨rfl, rfl⟩ hnews (by unfold maxLen; omega) (by omega) (by simp; omega) ?_; intro g cap w5 ho5 hg5 ha5 hl5)
        have l5 : Below w.heap.size w w5 := (later_alloc (later_alloc lq (Obj.cells #[Value.int IntKind.i64 x.id, Value.string x.code] 49)) (Obj.cells #[.slice (some ⟨wq.heap.size, 0, none⟩) 1 1] 29)).grown hg5 (by simp; omega) fun q hq => (HBq.out.1.blk q hq).1
        have HB6 := Lib.hid (isLL.snoc (HBr.out.below (later_alloc (Below.refl _ _) (Obj.cells #[.slice (some ⟨wq.heap.size, 0, none⟩) 1 1] 29))) ((OR1.out.base_ hsq).alloc (Obj.cells #[.slice (some ⟨wq.heap.size, 0, none⟩) 1 1] 29)) HF1.out ho5 hg5 ha5)
        go_wp2
        go_roundw
        case rel => exact ⟨k + 1, _, by omega, by go_num, l5, by rw [HST.out]; exact HB6.out⟩
        case measure => simp [intOf]; omega
      · obtain ⟨d, hd⟩ : ∃ d, L.length = d + 1 := ⟨L.length - 1, by have : L.length ≠ 0 := fun e => hk0 (f2.1 e); omega⟩
        have hLj : d < L.length := by omega
        obtain ⟨k', hk'⟩ : ∃ k', k = k' + 1 := ⟨k - 1, by omega⟩
        obtain ⟨yp, hyp, e2⟩ := HPREV.out k' hk'
        clear f2 HPREV
        subst hk'
        have hk0' : (((k' + 1 : Nat) : Int) == 0) = false := by rw [beq_eq_false_iff_ne]; omega
        have hk0'' : ((k' : Int) + 1 == 0) = false := by rw [beq_eq_false_iff_ne]; omega
        clear hk0
        have hvd : vs.length = d + 1 := by omega
        obtain ⟨hlv, hov⟩ : ∃ hlv : d < vs.length, own 49 w.heap.size wl vs[d] L[d] := by
          obtain ⟨z1, z2, z3, z4, z5⟩ := HB4.out
          exact ⟨by omega, z3 d (by omega) hLj⟩
        obtain ⟨G, hAO, _⟩ := own_some HB4.out.1 (by omega)
        subst hAO
        have hcG : wl.cell? ⟨G, d, none⟩ = some vs[d] := own_cellv HB4.out.1 d hlv
        obtain ⟨Au, mu, cu, hU, hmu, _, _, _⟩ := hov.rd
        rw [hU, hmu] at hcG
        have HUU := Lib.hid hU
        clear hU hmu hov
        obtain ⟨qn, hqn⟩ : ∃ q, L[d].length = q := ⟨_, rfl⟩
        rw [hqn] at hcG
        have HQN := Lib.hid hqn; clear hqn
        have hdi : (d : Int) < (vs.length : Int) := by omega
        have hkp : (k' : Int) < (xs.length : Int) := by omega
        have hGlt : G < wl.heap.size := (HB4.out.1.blk G rfl).2
        by_cases hs : (qn : Int) = s
        · have hs' : ((qn : Int) == s) = true := by simp [hs]
          have HS := Lib.hid hs; clear hs
          have HST : Hid (trayTo s (xs.take (k' + 1 + 1)) = L ++ [[x]]) := by show _ = _; rw [HSTEP.out, putT_new (.inr ⟨d, hLj, hd, by rw [HQN.out]; exact HS.out⟩)]
          go_wp2
          rw [← HWL2.out]
          go_quiet (fail)
          try clear hvd
          try clear hvl
          try clear hd
          obtain ⟨wq, hwq⟩ : ∃ u, u = wl.drewN nq := ⟨_, rfl⟩
          have lq := later_drewN ll nq
          have bq := later_drewN lwl nq
          rw [← hwq] at lq bq ⊢
          clear hwq
          have HBq := Lib.hid (HB4.out.below bq)
          have hsq : w.heap.size ≤ wq.heap.size := lq.size
          have hz1' : (wq.alloc (Obj.cells #[Value.int IntKind.i64 x.id, Value.string x.code] 49)).heap.size = wq.heap.size + 1 := by simp
          have OR1 : Hid (own (α := Ltr) 49 wq.heap.size (wq.alloc (Obj.cells #[Value.int IntKind.i64 x.id, Value.string x.code] 49)) (.slice (some ⟨wq.heap.size, 0, none⟩) 1 1) [x]) := own.made1 wq _ (Ltr.cells x) x ⟨⟨hxi, hxc⟩, rfl⟩ (Nat.le_refl _)
          have HF1 : Hid (farLL (.slice (some ⟨wq.heap.size, 0, none⟩) 1 1) (.slice (some ⟨G, 0, none⟩) vs.length cO) vs) := ⟨apart_gt OR1.out HBq.out.1 (Nat.le_refl _), fun i hi => apart_gt OR1.out (HBq.out.2.2.1 i hi (by have := HBq.out.2.1; omega)) (Nat.le_refl _)⟩
          have bw1 : Below wq.heap.size wq (wq.alloc (Obj.cells #[Value.int IntKind.i64 x.id, Value.string x.code] 49)) := later_alloc (Below.refl _ _) _
          have HBr := Lib.hid (HBq.out.below bw1)
          have hnews : ∀ j u, [(.slice (some ⟨wq.heap.size, 0, none⟩) 1 1 : Value)][j]? = some u → ((wq.alloc (Obj.cells #[Value.int IntKind.i64 x.id, Value.string x.code] 49)).alloc (Obj.cells #[.slice (some ⟨wq.heap.size, 0, none⟩) 1 1] 29)).cell? ((⟨wq.heap.size + 1, 0, none⟩ : Addr).add j) = some u := by
            rw [← hz1']; exact news_at (wq.alloc (Obj.cells #[Value.int IntKind.i64 x.id, Value.string x.code] 49)) _ [.slice (some ⟨wq.heap.size, 0, none⟩) 1 1]
          clear hz1' bw1
          go_wp2_with (at_builtin; refine wpList_append1' (α := Value) rfl (.tmp 64) (.tmp 67) 51 rfl w.heap.size 29 i0 _ 24 Try.underlying51 hi hzz hz1 hz2 rfl (by decide) (.slice (some ⟨G, 0, none⟩) vs.length cO) vs (.slice (some ⟨wq.heap.size, 0, none⟩) 1 1) rfl (HBr.out.1.alloc _) ⟨wq.heap.size + 1, 0, none⟩ 1 [.slice (some ⟨wq.heap.size, 0, none⟩) 1 1] rfl ⟨rfl, rfl⟩ hnews (by unfold maxLen; omega) (by omega) (by simp; omega) ?_; intro g cap w5 ho5 hg5 ha5 hl5)
          have l5 : Below w.heap.size w w5 := (later_alloc (later_alloc lq (Obj.cells #[Value.int IntKind.i64 x.id, Value.string x.code] 49)) (Obj.cells #[.slice (some ⟨wq.heap.size, 0, none⟩) 1 1] 29)).grown hg5 (by simp; omega) fun q hq => (HBq.out.1.blk q hq).1
          have HB6 := Lib.hid (isLL.snoc (HBr.out.below (later_alloc (Below.refl _ _) (Obj.cells #[.slice (some ⟨wq.heap.size, 0, none⟩) 1 1] 29))) ((OR1.out.base_ hsq).alloc (Obj.cells #[.slice (some ⟨wq.heap.size, 0, none⟩) 1 1] 29)) HF1.out ho5 hg5 ha5)
          go_wp2
          go_roundw
          case rel => exact ⟨k' + 1 + 1, _, by omega, by go_num, l5, by rw [HST.out]; exact HB6.out⟩
          case measure => simp [intOf]; omega
        · have hs' : ((qn : Int) == s) = false := by simp [hs]
          have HS := Lib.hid hs; clear hs
          have HST : Hid (trayTo s (xs.take (k' + 1 + 1)) = L.set d (L[d] ++ [x])) := by show _ = _; rw [HSTEP.out, putT_old hLj hd (by rw [HQN.out]; exact HS.out)]
          go_wp2
          rw [← HWL2.out]
          go_quiet (fail)
          clear HUU hcG hGlt
          try clear hvd
          try clear hvl
          try clear hd
          obtain ⟨wq, hwq⟩ : ∃ u, u = wl.drewN nq := ⟨_, rfl⟩
          have lq := later_drewN ll nq
          have bq := later_drewN lwl nq
          rw [← hwq] at lq bq ⊢
          clear hwq
          have HBq := Lib.hid (HB4.out.below bq)
          have hsq : w.heap.size ≤ wq.heap.size := lq.size
          obtain ⟨hlv, hov, hgv⟩ : ∃ hlv : d < vs.length, own 49 w.heap.size wq vs[d] L[d] ∧ apart vs[d] (.slice (some ⟨G, 0, none⟩) vs.length cO) := by
            obtain ⟨z1, z2, z3, z4, z5⟩ := HBq.out
            exact ⟨by omega, z3 d (by omega) hLj, z5 d (by omega)⟩
          have hcG : wq.cell? ⟨G, d, none⟩ = some vs[d] := own_cellv HBq.out.1 d hlv
          have hfG : wq.frozen? ⟨G, d, none⟩ = false := HBq.out.1.freeAt d
          have hql : L[d].length ≤ 60 := HROW.out d hLj
          obtain ⟨qs, hqs⟩ : ∃ qs, qs = L[d] := ⟨_, rfl⟩
          have HQS := Lib.hid hqs
          rw [← hqs] at hov hql
          clear hqs
          obtain ⟨u, hu⟩ : ∃ u, u = vs[d] := ⟨_, rfl⟩
          have HUU := Lib.hid hu
          rw [← hu] at hov hgv hcG
          clear hu
          obtain ⟨Au, mu, cu, rfl, hmu, _, _, _⟩ := hov.rd
          subst hmu
          have HOV := Lib.hid hov; clear hov
          have HGV := Lib.hid hgv; clear hgv
          have hGs : some G ≠ (Value.slice Au qs.length cu).ownBlock := by
            have h := HGV.out
            unfold apart at h
            rcases h with h | h
            · rw [h]; simp
            · exact fun e => h e.symm
          have HGS := Lib.hid hGs; clear hGs
          have hGlt : G < wq.heap.size := (HBq.out.1.blk G rfl).2
          have hG0 : w.heap.size ≤ G := (HBq.out.1.blk G rfl).1
          have x0 := y0 wq bq
          have x1 := y1 wq bq
          go_wp2
          go_region_law (first | go_loud ((refine step_append1 (α := Ltr) (by rfl) (.tmp 74) (.tmp 76) 29 (by rfl) w.heap.size 49 i1 _ 24 Try.underlying29 ji jz0 jz1 jz2 rfl (by decide) (.slice Au qs.length cu) qs x (by rfl) ((HOV.out.alloc _).drew) ⟨wq.heap.size, 0, none⟩ 1 (Ltr.cells x) (by rfl) ⟨⟨hxi, hxc⟩, rfl⟩ (news_drew wq _ (Ltr.cells x)) (by unfold maxLen; omega) (by omega) (by simp; omega) ?_; intro g cap w5 ho5 hg5 ha5 hl5; have hcG5 : w5.cell? ⟨G, d, none⟩ = some (.slice Au qs.length cu) := (hg5.cell_far ⟨G, d, none⟩ (by simp; omega) HGS.out).trans (by go_simp); have hfG5 : w5.frozen? ⟨G, d, none⟩ = false := (hg5.frozen_far ⟨G, d, none⟩ (by simp; omega) HGS.out).trans (by go_simp))))
          all_goals
            have hWD : Below wq.heap.size wq (wq.alloc (Obj.cells #[Value.int IntKind.i64 x.id, Value.string x.code] 49)).drew := later_drew (later_alloc (Below.refl _ _) _)
            obtain ⟨p1, _, _⟩ := place_step (o := .slice none 0 0) (rest := []) HBq.out (own.nil_ _ _ _) ⟨.inl rfl, fun k hk => .inl rfl⟩ hWD hlv hLj HUU.out HQS.out ho5 hg5 ha5
            have p4 := place_later (G := G) (d := d) (g := g) (m := qs.length + 1) (cap := cap) (later_drew (later_alloc lq (Obj.cells #[Value.int IntKind.i64 x.id, Value.string x.code] 49))) hg5 (fun j hj => (HOV.out.blk j hj).1) hG0
            have P1 := Lib.hid p1
            clear p1 hWD
            go_wp2
            go_roundw
            case rel => exact ⟨k' + 1 + 1, _, by omega, by go_num, p4, by rw [HST.out]; exact P1.out⟩
            case measure => simp [intOf]; omega
    · have HE := Lib.hid (show k = xs.length by omega)
      go_wp2
      go_ret2
      rw [HE.out, List.take_length] at hB
      exact ⟨_, ret_tup (by rw [HF.out] <;> rfl), by rw [HY.out]; exact ⟨vs, hB⟩, lr⟩

end Go.Proofs.Ytnlljekijlkigaa
