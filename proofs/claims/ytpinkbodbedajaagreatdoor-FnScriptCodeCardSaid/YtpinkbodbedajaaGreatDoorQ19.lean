/- DT NT D1 NG JA -/
import Derived.Test.YtpinkbodbedajaaGreatDoorQ16
import Derived.Test.YtpinkbodbedajaaGreatDoorQ18
import Derived.Test.YtpinkbodbedajaaGreatDoorQ7
import Derived.Test.YtpinkbodbedajaaGreatDoorQ2
import Derived.Test.YtpinkbodbedajaaGreatDoorQ8
import Derived.Test.YtpinkbodbedajaaGreatDoorQ3
import Derived.Laws.IdiomStrings
namespace Go.Proofs.YtpinkbodbedajaaGreatDoor
open Go.RowKit

/-! ### Plain facts -/
/-- One letter more in the last tray, or in a new one. -/
def putT (s : Int) (L : List (List Ltr)) (x : Ltr) : List (List Ltr) :=
  if L.length = 0 ∨ ((L.getD (L.length - 1) []).length : Int) = s then L ++ [[x]] else L.set (L.length - 1) (L.getD (L.length - 1) [] ++ [x])
def trayTo (s : Int) (xs : List Ltr) : List (List Ltr) := xs.foldl (putT s) []
theorem trayTo_succ {s : Int} {xs : List Ltr} {k : Nat} (h : k < xs.length) : trayTo s (xs.take (k + 1)) = putT s (trayTo s (xs.take k)) xs[k] := by
  unfold trayTo; rw [List.take_succ_eq_append_getElem h, List.foldl_append]; rfl
theorem putT_len (s : Int) (L : List (List Ltr)) (x : Ltr) : (putT s L x).length ≤ L.length + 1 ∧ 0 < (putT s L x).length ∧ L.length ≤ (putT s L x).length := by
  unfold putT
  split
  · simp
  · rename_i h
    rw [List.length_set]
    have : L.length ≠ 0 := fun e => h (.inl e)
    omega
theorem set_flat {α : Type} : ∀ (L : List (List α)) (n : Nat) (r : List α) (h : n < L.length), ((L.set n r).flatten).length + (L[n]).length = (L.flatten).length + r.length := by
  intro L
  induction L with
  | nil => intro n r h; simp at h
  | cons a L ih =>
    intro n r h
    cases n with
    | zero => simp; omega
    | succ n =>
      simp only [List.set_cons_succ, List.flatten_cons, List.length_append, List.getElem_cons_succ]
      have := ih n r (by simpa using h)
      omega
theorem putT_flat (s : Int) (L : List (List Ltr)) (x : Ltr) : (putT s L x).flatten.length = L.flatten.length + 1 := by
  unfold putT
  split
  · simp
  · rename_i h
    have hn : L.length - 1 < L.length := by
      have : L.length ≠ 0 := fun e => h (.inl e)
      omega
    have h1 := set_flat L (L.length - 1) (L.getD (L.length - 1) [] ++ [x]) hn
    rw [List.getD_eq_getElem?_getD, List.getElem?_eq_getElem hn] at h1 ⊢
    simp only [Option.getD_some, List.length_append, List.length_singleton] at h1 ⊢
    omega
theorem trayTo_facts (s : Int) (xs : List Ltr) : ∀ k, k ≤ xs.length → (trayTo s (xs.take k)).length ≤ k ∧ ((trayTo s (xs.take k)).length = 0 ↔ k = 0) ∧ (trayTo s (xs.take k)).flatten.length = k
  | 0, _ => by simp [trayTo]
  | k + 1, h => by
    obtain ⟨h1, h2, h3⟩ := trayTo_facts s xs k (by omega)
    rw [trayTo_succ (by omega), putT_flat]
    obtain ⟨a, b, _⟩ := putT_len s (trayTo s (xs.take k)) xs[k]
    omega
theorem putT_new {s : Int} {L : List (List Ltr)} {x : Ltr} (h : L.length = 0 ∨ ∃ d, ∃ hd : d < L.length, L.length = d + 1 ∧ (L[d].length : Int) = s) : putT s L x = L ++ [[x]] := by
  unfold putT
  rw [if_pos]
  rcases h with h | ⟨d, hd, h1, h2⟩
  · exact .inl h
  · refine .inr ?_
    have e : L.length - 1 = d := by omega
    rw [e, List.getD_eq_getElem?_getD, List.getElem?_eq_getElem hd]
    exact h2
theorem putT_old {s : Int} {L : List (List Ltr)} {x : Ltr} {d : Nat} (hd : d < L.length) (h1 : L.length = d + 1) (h2 : (L[d].length : Int) ≠ s) : putT s L x = L.set d (L[d] ++ [x]) := by
  unfold putT
  have e : L.length - 1 = d := by omega
  rw [e, List.getD_eq_getElem?_getD, List.getElem?_eq_getElem hd, if_neg]
  · rfl
  · rintro (h | h)
    · omega
    · exact h2 h
theorem last_set {L : List (List Ltr)} {x : Ltr} {d : Nat} (h1 : L.length = d) (hd : d < (L ++ [[]]).length) : (L ++ [[]]).set d ((L ++ [[]])[d] ++ [x]) = L ++ [[x]] := by
  subst h1
  simp [List.getElem_append_right]
def ftOk (s : Int) (xs : List Ltr) : Bool := okB xs && sizeOk s
def ftRows (s : Int) (xs : List Ltr) : List (List Ltr) := if ftOk s xs then trayTo s xs else []
def dtOk (d : Dy) (xs : List Ltr) : Bool := rdOk d xs && ftOk d.size (rptOf d xs).round
def dtRows (d : Dy) (xs : List Ltr) : List (List Ltr) := if rdOk d xs then ftRows d.size (rptOf d xs).round else []
theorem ftRows_len (s : Int) (xs : List Ltr) : (ftRows s xs).length ≤ 60 ∧ (ftRows s xs).flatten.length ≤ 60 := by
  unfold ftRows
  split
  · rename_i h
    unfold ftOk at h
    rw [Bool.and_eq_true] at h
    have h1 := okB_len' h.1
    obtain ⟨a, _, b⟩ := trayTo_facts s xs xs.length (Nat.le_refl _)
    rw [List.take_length] at a b
    omega
  · simp
theorem dtRows_len (d : Dy) (xs : List Ltr) : (dtRows d xs).length ≤ 60 ∧ (dtRows d xs).flatten.length ≤ 60 := by
  unfold dtRows
  split
  · exact ftRows_len _ _
  · simp

theorem own.made1 {α : Type} [Flat α] (w : World) (T : TypeId) (cs : List Value) (x : α) {base : Nat} (hel : El.el w w.heap.size x cs) (hb : base ≤ w.heap.size) : own T base (w.alloc (.cells cs.toArray T)) (.slice (some ⟨w.heap.size, 0, none⟩) 1 1) [x] := by
  refine ⟨[cs], ⟨by simp [El.len hel], .inr ⟨w.heap.size, 1, cs.toArray, rfl, hb, heap_alloc_new w _, Nat.le_refl _, by unfold maxLen; omega, by simp [El.len hel], ?_⟩⟩, rfl, fun k h1 h2 => ?_⟩
  · show List.take (1 * El.size α) _ = _
    rw [Nat.one_mul, ← El.len hel]; simp
  · have hk : k = 0 := by simp at h1; omega
    subst hk
    exact Flat.free hel

set_option maxRecDepth 100000 in
set_option maxHeartbeats 6400000 in
theorem impl_FillByPrefix0 (vb : Value) (xs : List Ltr) (s : Int) (w : World) (hb : rd w w.heap.size vb xs) :
    Calls Tryz.prog 117 #[vb, .int .i64 s, .int .i64 0] w fun e w' => ∃ v', e = .returned (.tuple #[v', .bool (ftOk s xs)]) ∧ ownLL 29 89 w.heap.size w' v' (ftRows s xs) ∧ Below w.heap.size w w' := by
  have HB := Lib.hid hb
  obtain ⟨A, n, c, rfl, hn, hc, hm, hr⟩ := hb
  subst hn
  unfold maxLen at hm
  have HR := Lib.hid hr; clear hr
  have HNO : Hid (∀ h : ftOk s xs = false, ftRows s xs = []) := fun h => by unfold ftRows; rw [h]; rfl
  have HQ : Hid (ftOk s xs = (okB xs && sizeOk s)) := rfl
  obtain ⟨i0, hi, hzz, hz1, hz2⟩ := info_parts Tryz.infoRow
  obtain ⟨i1, ji, jz0, jz1, jz2⟩ := info_parts Tryz.infoLtr
  go_enter Tryz.func117, Tryz.ntmps117
  go_wp2_with fail
  refine (impl_BatchValid _ xs _ HB.out).mono ?_
  rintro e w1 ⟨rfl, b1⟩
  have l1 := later_trans (Below.refl w.heap.size w) b1
  clear b1
  cases h1 : okB xs
  · have HF : Hid (ftOk s xs = false) := by show _ = _; rw [HQ.out, h1]; rfl
    clear h1
    go_wp2_with fail
    go_ret2
    exact ⟨_, ret_tup (by rw [HF.out] <;> rfl), by rw [HNO.out HF.out]; exact ⟨[], isLL_nil _ _ _ _⟩, l1⟩
  have hxl := okB_len' h1
  have H1 := Lib.hid h1; clear h1
  go_wp2_with fail
  refine (impl_sizeValid s _).mono ?_
  rintro e w2 ⟨rfl, rfl⟩
  cases h2 : sizeOk s
  · have HF : Hid (ftOk s xs = false) := by show _ = _; rw [HQ.out, h2, Bool.and_false]
    clear h2
    go_wp2_with fail
    go_ret2
    exact ⟨_, ret_tup (by rw [HF.out] <;> rfl), by rw [HNO.out HF.out]; exact ⟨[], isLL_nil _ _ _ _⟩, l1⟩
  have HF : Hid (ftOk s xs = true) := by show _ = _; rw [HQ.out, h2, H1.out]; rfl
  have HY : Hid (ftRows s xs = trayTo s xs) := by show _ = _; unfold ftRows; rw [if_pos HF.out]
  have HFA := Lib.hid (trayTo_facts s xs)
  clear h2 HB
  go_wp2_with fail
  go_loopw [8, 30] (fun t i wr => ∃ (k : Nat) (vs : List Value), k ≤ xs.length ∧ i = .int .i64 k ∧ Below w.heap.size w wr ∧ isLL 29 89 w.heap.size wr t (trayTo s (xs.take k)) vs) (fun _ i _ => xs.length - (intOf i).toNat)
  case atStart => exact ⟨0, [], Nat.zero_le _, rfl, l1, isLL_nil _ _ _ _⟩
  case round =>
    obtain ⟨k, vs, hk, rfl, lr, hB⟩ := hrel
    obtain ⟨w3, rfl⟩ : ∃ w3 : World, w3 = wr := ⟨_, rfl⟩
    clear l1
    by_cases hlt : k < xs.length
    · obtain ⟨b, o, rfl, hb, ⟨hxi, hxc⟩, c1, c2⟩ := HR.out.ltrU k hlt
      have HSTEP := Lib.hid (trayTo_succ (s := s) hlt)
      obtain ⟨f1, f2, f3⟩ := HFA.out k hk
      have HPREV : Hid (∀ k', k = k' + 1 → ∃ y : ByteArray, y.size ≤ maxLen ∧ ∀ W, Below w.heap.size w W → W.cell? ⟨b, o + k' * 2 + 1, none⟩ = some (.string y)) := fun k' hk' => by
        obtain ⟨b', o', hA', _, ⟨_, hyc⟩, _, e2⟩ := HR.out.ltrU k' (by omega)
        injection hA' with hA'
        injection hA' with hA1 hA2
        subst hA1 hA2
        exact ⟨_, hyc, e2⟩
      generalize xs[k] = x at *
      obtain ⟨L, hL⟩ : ∃ L, trayTo s (xs.take k) = L := ⟨_, rfl⟩
      rw [hL] at hB HSTEP f1 f2 f3
      clear hL
      have HROW : Hid (∀ d (h : d < L.length), L[d].length ≤ 60) := fun d h => Nat.le_trans (row_le_flat h) (by omega)
      obtain ⟨AO, mO, cO, rfl, hmO, _, _, _⟩ := hB.1.rd
      subst hmO
      have hvl : vs.length = L.length := hB.2.1
      have hvb : vs.length ≤ 60 := by omega
      have HBB := Lib.hid hB; clear hB
      have hki : (k : Int) < (xs.length : Int) := by omega
      obtain ⟨wl, hwl⟩ : ∃ wl : World, wl = w3.alloc (Obj.cells #[.int .i64 x.id, .string x.code] 89) := ⟨_, rfl⟩
      have y0 := box_cells hwl 0 (.int .i64 x.id) rfl
      have y1 := box_cells hwl 1 (.string x.code) rfl
      have ll := later_trans lr (box_later hwl).1
      have hs0 : w.heap.size ≤ wl.heap.size := ll.size
      have HB4 := Lib.hid (HBB.out.below (box_later hwl).1)
      have HWL2 := Lib.hid hwl; clear hwl
      have lwl := Below.refl wl.heap.size wl
      have hbx : b < w.heap.size := hb
      by_cases hk0 : k = 0
      · have hL0 : L.length = 0 := f2.2 hk0
        have HST : Hid (trayTo s (xs.take (k + 1)) = L ++ [[x]]) := by show _ = _; rw [HSTEP.out, putT_new (.inl hL0)]
        have hk0' : ((k : Int) == 0) = true := by simp [hk0]
        clear f2 hL0 hvl
        have HK0 := Lib.hid hk0; clear hk0
        go_wp2
        rw [← HWL2.out]
        go_quiet (fail)
        try clear hvd
        try clear hvl
        try clear hd
        obtain ⟨wq, hwq⟩ : ∃ u, u = wl.drewN nq := ⟨_, rfl⟩
        have lq := later_drewN ll nq
        have bq := later_drewN lwl nq
        rw [← hwq] at lq bq ⊢
        clear hwq
        have HBq := Lib.hid (HB4.out.below bq)
        have hsq : w.heap.size ≤ wq.heap.size := lq.size
        have hz1' : (wq.alloc (Obj.cells #[Value.int IntKind.i64 x.id, Value.string x.code] 89)).heap.size = wq.heap.size + 1 := by simp
        have OR1 : Hid (own (α := Ltr) 89 wq.heap.size (wq.alloc (Obj.cells #[Value.int IntKind.i64 x.id, Value.string x.code] 89)) (.slice (some ⟨wq.heap.size, 0, none⟩) 1 1) [x]) := own.made1 wq _ (Ltr.cells x) x ⟨⟨hxi, hxc⟩, rfl⟩ (Nat.le_refl _)
        have HF1 : Hid (farLL (.slice (some ⟨wq.heap.size, 0, none⟩) 1 1) (.slice AO vs.length cO) vs) := ⟨apart_gt OR1.out HBq.out.1 (Nat.le_refl _), fun i hi => apart_gt OR1.out (HBq.out.2.2.1 i hi (by have := HBq.out.2.1; omega)) (Nat.le_refl _)⟩
        have bw1 : Below wq.heap.size wq (wq.alloc (Obj.cells #[Value.int IntKind.i64 x.id, Value.string x.code] 89)) := later_alloc (Below.refl _ _) _
        have HBr := Lib.hid (HBq.out.below bw1)
        have hnews : ∀ j u, [(.slice (some ⟨wq.heap.size, 0, none⟩) 1 1 : Value)][j]? = some u → ((wq.alloc (Obj.cells #[Value.int IntKind.i64 x.id, Value.string x.code] 89)).alloc (Obj.cells #[.slice (some ⟨wq.heap.size, 0, none⟩) 1 1] 29)).cell? ((⟨wq.heap.size + 1, 0, none⟩ : Addr).add j) = some u := by
          rw [← hz1']; exact news_at (wq.alloc (Obj.cells #[Value.int IntKind.i64 x.id, Value.string x.code] 89)) _ [.slice (some ⟨wq.heap.size, 0, none⟩) 1 1]
        clear hz1' bw1
        go_wp2_with (at_builtin; refine wpList_append1' (α := Value) rfl (.tmp 64) (.tmp 67) 37 rfl w.heap.size 29 i0 _ 24 Tryz.underlying37 hi hzz hz1 hz2 rfl (by decide) (.slice AO vs.length cO) vs (.slice (some ⟨wq.heap.size, 0, none⟩) 1 1) rfl (HBr.out.1.alloc _) ⟨wq.heap.size + 1, 0, none⟩ 1 [.slice (some ⟨wq.heap.size, 0, none⟩) 1 1] rfl ⟨rfl, rfl⟩ hnews (by unfold maxLen; omega) (by omega) (by simp; omega) ?_; intro g cap w5 ho5 hg5 ha5 hl5)
        have l5 : Below w.heap.size w w5 := (later_alloc (later_alloc lq (Obj.cells #[Value.int IntKind.i64 x.id, Value.string x.code] 89)) (Obj.cells #[.slice (some ⟨wq.heap.size, 0, none⟩) 1 1] 29)).grown hg5 (by simp; omega) fun q hq => (HBq.out.1.blk q hq).1
        have HB6 := Lib.hid (isLL.snoc (HBr.out.below (later_alloc (Below.refl _ _) (Obj.cells #[.slice (some ⟨wq.heap.size, 0, none⟩) 1 1] 29))) ((OR1.out.base_ hsq).alloc (Obj.cells #[.slice (some ⟨wq.heap.size, 0, none⟩) 1 1] 29)) HF1.out ho5 hg5 ha5)
        go_wp2
        go_roundw
        case rel => exact ⟨k + 1, _, by omega, by go_num, l5, by rw [HST.out]; exact HB6.out⟩
        case measure => simp [intOf]; omega
      · obtain ⟨d, hd⟩ : ∃ d, L.length = d + 1 := ⟨L.length - 1, by have : L.length ≠ 0 := fun e => hk0 (f2.1 e); omega⟩
        have hLj : d < L.length := by omega
        obtain ⟨k', hk'⟩ : ∃ k', k = k' + 1 := ⟨k - 1, by omega⟩
        obtain ⟨yp, hyp, e2⟩ := HPREV.out k' hk'
        clear f2 HPREV
        subst hk'
        have hk0' : (((k' + 1 : Nat) : Int) == 0) = false := by rw [beq_eq_false_iff_ne]; omega
        have hk0'' : ((k' : Int) + 1 == 0) = false := by rw [beq_eq_false_iff_ne]; omega
        clear hk0
        have hvd : vs.length = d + 1 := by omega
        obtain ⟨hlv, hov⟩ : ∃ hlv : d < vs.length, own 89 w.heap.size wl vs[d] L[d] := by
          obtain ⟨z1, z2, z3, z4, z5⟩ := HB4.out
          exact ⟨by omega, z3 d (by omega) hLj⟩
        obtain ⟨G, hAO, _⟩ := own_some HB4.out.1 (by omega)
        subst hAO
        have hcG : wl.cell? ⟨G, d, none⟩ = some vs[d] := own_cellv HB4.out.1 d hlv
        obtain ⟨Au, mu, cu, hU, hmu, _, _, _⟩ := hov.rd
        rw [hU, hmu] at hcG
        have HUU := Lib.hid hU
        clear hU hmu hov
        obtain ⟨qn, hqn⟩ : ∃ q, L[d].length = q := ⟨_, rfl⟩
        rw [hqn] at hcG
        have HQN := Lib.hid hqn; clear hqn
        have hdi : (d : Int) < (vs.length : Int) := by omega
        have hkp : (k' : Int) < (xs.length : Int) := by omega
        have hGlt : G < wl.heap.size := (HB4.out.1.blk G rfl).2
        by_cases hs : (qn : Int) = s
        · have hs' : ((qn : Int) == s) = true := by simp [hs]
          have HS := Lib.hid hs; clear hs
          have HST : Hid (trayTo s (xs.take (k' + 1 + 1)) = L ++ [[x]]) := by show _ = _; rw [HSTEP.out, putT_new (.inr ⟨d, hLj, hd, by rw [HQN.out]; exact HS.out⟩)]
          go_wp2
          rw [← HWL2.out]
          go_quiet (fail)
          try clear hvd
          try clear hvl
          try clear hd
          obtain ⟨wq, hwq⟩ : ∃ u, u = wl.drewN nq := ⟨_, rfl⟩
          have lq := later_drewN ll nq
          have bq := later_drewN lwl nq
          rw [← hwq] at lq bq ⊢
          clear hwq
          have HBq := Lib.hid (HB4.out.below bq)
          have hsq : w.heap.size ≤ wq.heap.size := lq.size
          have hz1' : (wq.alloc (Obj.cells #[Value.int IntKind.i64 x.id, Value.string x.code] 89)).heap.size = wq.heap.size + 1 := by simp
          have OR1 : Hid (own (α := Ltr) 89 wq.heap.size (wq.alloc (Obj.cells #[Value.int IntKind.i64 x.id, Value.string x.code] 89)) (.slice (some ⟨wq.heap.size, 0, none⟩) 1 1) [x]) := own.made1 wq _ (Ltr.cells x) x ⟨⟨hxi, hxc⟩, rfl⟩ (Nat.le_refl _)
          have HF1 : Hid (farLL (.slice (some ⟨wq.heap.size, 0, none⟩) 1 1) (.slice (some ⟨G, 0, none⟩) vs.length cO) vs) := ⟨apart_gt OR1.out HBq.out.1 (Nat.le_refl _), fun i hi => apart_gt OR1.out (HBq.out.2.2.1 i hi (by have := HBq.out.2.1; omega)) (Nat.le_refl _)⟩
          have bw1 : Below wq.heap.size wq (wq.alloc (Obj.cells #[Value.int IntKind.i64 x.id, Value.string x.code] 89)) := later_alloc (Below.refl _ _) _
          have HBr := Lib.hid (HBq.out.below bw1)
          have hnews : ∀ j u, [(.slice (some ⟨wq.heap.size, 0, none⟩) 1 1 : Value)][j]? = some u → ((wq.alloc (Obj.cells #[Value.int IntKind.i64 x.id, Value.string x.code] 89)).alloc (Obj.cells #[.slice (some ⟨wq.heap.size, 0, none⟩) 1 1] 29)).cell? ((⟨wq.heap.size + 1, 0, none⟩ : Addr).add j) = some u := by
            rw [← hz1']; exact news_at (wq.alloc (Obj.cells #[Value.int IntKind.i64 x.id, Value.string x.code] 89)) _ [.slice (some ⟨wq.heap.size, 0, none⟩) 1 1]
          clear hz1' bw1
          go_wp2_with (at_builtin; refine wpList_append1' (α := Value) rfl (.tmp 64) (.tmp 67) 37 rfl w.heap.size 29 i0 _ 24 Tryz.underlying37 hi hzz hz1 hz2 rfl (by decide) (.slice (some ⟨G, 0, none⟩) vs.length cO) vs (.slice (some ⟨wq.heap.size, 0, none⟩) 1 1) rfl (HBr.out.1.alloc _) ⟨wq.heap.size + 1, 0, none⟩ 1 [.slice (some ⟨wq.heap.size, 0, none⟩) 1 1] rfl ⟨rfl, rfl⟩ hnews (by unfold maxLen; omega) (by omega) (by simp; omega) ?_; intro g cap w5 ho5 hg5 ha5 hl5)
          have l5 : Below w.heap.size w w5 := (later_alloc (later_alloc lq (Obj.cells #[Value.int IntKind.i64 x.id, Value.string x.code] 89)) (Obj.cells #[.slice (some ⟨wq.heap.size, 0, none⟩) 1 1] 29)).grown hg5 (by simp; omega) fun q hq => (HBq.out.1.blk q hq).1
          have HB6 := Lib.hid (isLL.snoc (HBr.out.below (later_alloc (Below.refl _ _) (Obj.cells #[.slice (some ⟨wq.heap.size, 0, none⟩) 1 1] 29))) ((OR1.out.base_ hsq).alloc (Obj.cells #[.slice (some ⟨wq.heap.size, 0, none⟩) 1 1] 29)) HF1.out ho5 hg5 ha5)
          go_wp2
          go_roundw
          case rel => exact ⟨k' + 1 + 1, _, by omega, by go_num, l5, by rw [HST.out]; exact HB6.out⟩
          case measure => simp [intOf]; omega
        · have hs' : ((qn : Int) == s) = false := by simp [hs]
          have HS := Lib.hid hs; clear hs
          have HST : Hid (trayTo s (xs.take (k' + 1 + 1)) = L.set d (L[d] ++ [x])) := by show _ = _; rw [HSTEP.out, putT_old hLj hd (by rw [HQN.out]; exact HS.out)]
          go_wp2
          rw [← HWL2.out]
          go_quiet (fail)
          clear HUU hcG hGlt
          try clear hvd
          try clear hvl
          try clear hd
          obtain ⟨wq, hwq⟩ : ∃ u, u = wl.drewN nq := ⟨_, rfl⟩
          have lq := later_drewN ll nq
          have bq := later_drewN lwl nq
          rw [← hwq] at lq bq ⊢
          clear hwq
          have HBq := Lib.hid (HB4.out.below bq)
          have hsq : w.heap.size ≤ wq.heap.size := lq.size
          obtain ⟨hlv, hov, hgv⟩ : ∃ hlv : d < vs.length, own 89 w.heap.size wq vs[d] L[d] ∧ apart vs[d] (.slice (some ⟨G, 0, none⟩) vs.length cO) := by
            obtain ⟨z1, z2, z3, z4, z5⟩ := HBq.out
            exact ⟨by omega, z3 d (by omega) hLj, z5 d (by omega)⟩
          have hcG : wq.cell? ⟨G, d, none⟩ = some vs[d] := own_cellv HBq.out.1 d hlv
          have hfG : wq.frozen? ⟨G, d, none⟩ = false := HBq.out.1.freeAt d
          have hql : L[d].length ≤ 60 := HROW.out d hLj
          obtain ⟨qs, hqs⟩ : ∃ qs, qs = L[d] := ⟨_, rfl⟩
          have HQS := Lib.hid hqs
          rw [← hqs] at hov hql
          clear hqs
          obtain ⟨u, hu⟩ : ∃ u, u = vs[d] := ⟨_, rfl⟩
          have HUU := Lib.hid hu
          rw [← hu] at hov hgv hcG
          clear hu
          obtain ⟨Au, mu, cu, rfl, hmu, _, _, _⟩ := hov.rd
          subst hmu
          have HOV := Lib.hid hov; clear hov
          have HGV := Lib.hid hgv; clear hgv
          have hGs : some G ≠ (Value.slice Au qs.length cu).ownBlock := by
            have h := HGV.out
            unfold apart at h
            rcases h with h | h
            · rw [h]; simp
            · exact fun e => h e.symm
          have HGS := Lib.hid hGs; clear hGs
          have hGlt : G < wq.heap.size := (HBq.out.1.blk G rfl).2
          have hG0 : w.heap.size ≤ G := (HBq.out.1.blk G rfl).1
          have x0 := y0 wq bq
          have x1 := y1 wq bq
          go_wp2
          go_region_law (first | go_loud ((refine step_append1 (α := Ltr) (by rfl) (.tmp 74) (.tmp 76) 29 (by rfl) w.heap.size 89 i1 _ 24 Tryz.underlying29 ji jz0 jz1 jz2 rfl (by decide) (.slice Au qs.length cu) qs x (by rfl) ((HOV.out.alloc _).drew) ⟨wq.heap.size, 0, none⟩ 1 (Ltr.cells x) (by rfl) ⟨⟨hxi, hxc⟩, rfl⟩ (news_drew wq _ (Ltr.cells x)) (by unfold maxLen; omega) (by omega) (by simp; omega) ?_; intro g cap w5 ho5 hg5 ha5 hl5; have hcG5 : w5.cell? ⟨G, d, none⟩ = some (.slice Au qs.length cu) := (hg5.cell_far ⟨G, d, none⟩ (by simp; omega) HGS.out).trans (by go_simp); have hfG5 : w5.frozen? ⟨G, d, none⟩ = false := (hg5.frozen_far ⟨G, d, none⟩ (by simp; omega) HGS.out).trans (by go_simp))))
          all_goals
            have hWD : Below wq.heap.size wq (wq.alloc (Obj.cells #[Value.int IntKind.i64 x.id, Value.string x.code] 89)).drew := later_drew (later_alloc (Below.refl _ _) _)
            obtain ⟨p1, _, _⟩ := place_step (o := .slice none 0 0) (rest := []) HBq.out (own.nil_ _ _ _) ⟨.inl rfl, fun k hk => .inl rfl⟩ hWD hlv hLj HUU.out HQS.out ho5 hg5 ha5
            have p4 := place_later (G := G) (d := d) (g := g) (m := qs.length + 1) (cap := cap) (later_drew (later_alloc lq (Obj.cells #[Value.int IntKind.i64 x.id, Value.string x.code] 89))) hg5 (fun j hj => (HOV.out.blk j hj).1) hG0
            have P1 := Lib.hid p1
            clear p1 hWD
            go_wp2
            go_roundw
            case rel => exact ⟨k' + 1 + 1, _, by omega, by go_num, p4, by rw [HST.out]; exact P1.out⟩
            case measure => simp [intOf]; omega
    · have HE := Lib.hid (show k = xs.length by omega)
      go_wp2
      go_ret2
      rw [HE.out, List.take_length] at hB
      exact ⟨_, ret_tup (by rw [HF.out] <;> rfl), by rw [HY.out]; exact ⟨vs, hB⟩, lr⟩

end Go.Proofs.YtpinkbodbedajaaGreatDoor

namespace Go.Proofs.YtpinkbodbedajaaGreatDoor
open Go.RowKit

set_option maxHeartbeats 400000 in
theorem slices_IndexI (v : Value) (xs : List Int) (c : Int) (w : World) (hv : rd w w.heap.size v xs) :
    Calls Tryz.prog 222 #[v, .int .i64 c] w fun e w' => e = .returned (.int .i64 (fiI (fun y : Int => y == c) xs)) ∧ w = w' := by
  obtain ⟨A, n, cp, rfl, hn, hc, hm, hr⟩ := hv
  subst hn
  unfold maxLen at hm
  have HR := Lib.hid hr; clear hr
  have l0 := Below.refl w.heap.size w
  go_enter Tryz.func222, Tryz.ntmps222
  go_wp2
  go_loop [8] (fun i => ∃ k : Nat, k ≤ xs.length ∧ i = .int .i64 k ∧ Hid (∀ j (h : j < xs.length), j < k → (xs[j] == c) = false)) (fun i => xs.length - (intOf i).toNat)
  case atStart => exact ⟨0, Nat.zero_le _, rfl, fun j _ hj => absurd hj (Nat.not_lt_zero j)⟩
  case round =>
    obtain ⟨k, hk, rfl, HG⟩ := hrel
    by_cases hlt : k < xs.length
    · obtain ⟨b, o, rfl, hb, hok, c1⟩ := HR.out.intU k hlt
      have HX : Hid (∀ h : (xs[k] == c) = false, ∀ j (h1 : j < xs.length), j < k + 1 → (xs[j] == c) = false) := fun h j h1 hj => by
        by_cases hjk : j < k
        · exact HG.out j h1 hjk
        · obtain rfl : j = k := by omega
          exact h
      have HY : Hid (∀ h : (xs[k] == c) = true, fiI (fun y : Int => y == c) xs = k) := fun h => fiI_at hlt (fun j hj hjk => HG.out j hj hjk) h
      generalize xs[k] = x at *
      cases he : (x == c)
      · have he' := Lib.hid he
        have he2 : (c == x) = false := by rw [beq_eq_false_iff_ne] at he ⊢; exact fun e => he e.symm
        go_wp2
        go_round
        case rel => exact ⟨k + 1, by omega, by go_num, HX.out he'.out⟩
        case measure => simp [intOf]; omega
      · have he' := Lib.hid he
        have he2 : (c == x) = true := by rw [beq_iff_eq] at he ⊢; exact he.symm
        go_wp2
        go_ret
        exact ⟨ret_int (HY.out he'.out).symm, rfl⟩
    · have HE : Hid (fiI (fun y : Int => y == c) xs = -1) := fiI_none fun j hj => HG.out j hj (by omega)
      go_wp2
      go_ret
      exact ⟨ret_int HE.out.symm, rfl⟩
theorem slices_ContainsI (v : Value) (xs : List Int) (c : Int) (w : World) (hv : rd w w.heap.size v xs) :
    Calls Tryz.prog 152 #[v, .int .i64 c] w fun e w' => e = .returned (.bool (decide (0 ≤ fiI (fun y : Int => y == c) xs))) ∧ w = w' := by
  go_enter Tryz.func152, Tryz.ntmps152
  go_wp2_with fail
  refine (slices_IndexI v xs c w hv).mono ?_
  rintro e w1 ⟨rfl, rfl⟩
  obtain ⟨r, HR⟩ : ∃ r, Hid (fiI (fun y : Int => y == c) xs = r) := ⟨_, rfl⟩
  rw [HR.out]
  go_wp2_with fail
  go_ret
  exact ⟨ret_bool (by rw [HR.out]), rfl⟩

theorem own_int1 {T base g n c : Nat} {w : World} {xs : List Int} (h : own T base w (.slice (some ⟨g, 0, none⟩) n c) xs) (k : Nat) (hk : k < xs.length) : ∀ W, Below w.heap.size w W → W.cell? ⟨g, k, none⟩ = some (.int .i64 xs[k]) := by
  obtain ⟨A, n', c', hv, _, _, _, hrd⟩ := h.rd
  obtain ⟨b, o, hA, _, _, c1⟩ := hrd.intU k hk
  injection hv with e1 _ _
  subst e1
  injection hA with hA
  injection hA with hA1 hA2
  subst hA1 hA2
  intro W hW
  have := c1 W hW
  rwa [Nat.zero_add] at this

set_option maxRecDepth 100000 in
set_option maxHeartbeats 1600000 in
theorem impl_routeOf (v : Value) (net : List Ofc) (s : Nat) (c : ByteArray) (w : World) (hv : rd w w.heap.size v net) (hk : netOk net = true) (hs : s < net.length) (hcz : c.size ≤ maxLen) :
    Calls Tryz.prog 85 #[v, .int .i64 s, .string c] w fun e w' => ∃ v', e = .returned (.tuple #[v', .int .i64 (route net c s).2]) ∧ own 3 w.heap.size w' v' (ints (route net c s).1) ∧ Below w.heap.size w w' := by
  obtain ⟨A, n, cp, rfl, hn, hc, hm, hr⟩ := hv
  have hv0 := Lib.hid (show rd w w.heap.size (.slice A n cp) net from ⟨A, n, cp, rfl, hn, hc, hm, hr⟩)
  subst hn
  unfold maxLen at hm
  have HR := Lib.hid hr; clear hr
  have l0 := Below.refl w.heap.size w
  have hn8 := (netOk_iff.1 hk).1
  have HK := Lib.hid hk; clear hk
  obtain ⟨i0, hi, hz0, hz1, hz2⟩ := info_parts Tryz.infoInt
  go_enter Tryz.func85, Tryz.ntmps85
  go_wp2
  have ho1 : own (α := Int) 3 w.heap.size (w.alloc (Obj.cells #[.int .i64 s] 3)) (.slice (some ⟨w.heap.size, 0, none⟩) 1 1) (ints ([] ++ [s])) := own.made1 (α := Int) w 3 [.int .i64 s] (s : Int) ⟨⟨by omega, by omega⟩, rfl⟩ (Nat.le_refl _)
  have HO1 := Lib.hid ho1
  have l1 : Below w.heap.size w (w.alloc (Obj.cells #[.int .i64 s] 3)) := later_alloc l0 _
  clear ho1
  go_loopw [8] (fun t wr => ∃ (p : List Nat) (i f g cap n : Nat), t = .slice (some ⟨g, 0, none⟩) n cap ∧ n = p.length + 1 ∧ own 3 w.heap.size wr t (ints (p ++ [i])) ∧ Hid (onPath net (f + 1) p i) ∧ Hid (¬ i ∈ p) ∧ Below w.heap.size w wr ∧ Hid (route net c s = routeN net c (f + 1) p i)) (fun t _ => net.length + 2 - lenV t)
  case atStart => exact ⟨[], s, net.length, w.heap.size, 1, 1, rfl, rfl, HO1.out, onPath_start hs, by simp [Hid], l1, rfl⟩
  case round =>
    obtain ⟨p, i, f, g, cap, n, rfl, rfl, ho, HON, HNI, lr, HG⟩ := hrel
    obtain ⟨w1, rfl⟩ : ∃ w1 : World, w1 = wr := ⟨_, rfl⟩
    clear l1 l0
    have hil := HON.out.2.2.1
    have hpl : p.length ≤ net.length := nodup_len _ _ HON.out.1 HON.out.2.1
    have hfl := HON.out.2.2.2
    obtain ⟨b, o, A2, k2, rfl, hb, hok, hu, y1, y2⟩ := HR.out.ofcU i hil
    have x1 := own_int1 ho p.length (by rw [ints_len]; simp)
    have hx1 : (ints (p ++ [i]))[p.length]'(by rw [ints_len]; simp) = (i : Int) := by simp [ints]
    rw [hx1] at x1
    clear hx1
    have HO := Lib.hid ho; clear ho
    have hii : (i : Int) < (net.length : Int) := by omega
    have HRO := Lib.hid ((netOk_iff.1 HK.out).2 i hil).2.2.2.1
    have HL := Lib.hid (fun h => hop_lost (net := net) (c := c) hil h)
    have HH := Lib.hid (fun h h' => hop_home (net := net) (c := c) hil h h')
    have HTO := Lib.hid (fun h h' => hop_to HK.out (c := c) hil h h')
    have hnz := nextS_ok HRO.out c
    generalize net[i] = x at *
    have HU := Lib.hid hu; clear hu
    obtain ⟨N, hN⟩ : ∃ N, bestI x.rules c = N := ⟨_, rfl⟩
    obtain ⟨S, hS⟩ : ∃ S, nextS x.rules c = S := ⟨_, rfl⟩
    rw [hN] at HL HH HTO
    rw [hS] at HH HTO hnz
    have HNN := Lib.hid hN; have HSS := Lib.hid hS; clear hN hS
    have lw := Below.refl w1.heap.size w1
    go_wp2_with fail
    refine (impl_nextOf _ x.rules c _ (HU.out.on lr) hcz).mono ?_
    rw [HNN.out, HSS.out]
    rintro e w2 ⟨rfl, b2⟩
    have l2 := later_trans lr b2
    have HO2 := Lib.hid (HO.out.below b2)
    by_cases hneg : N < 0
    · have HD : Hid (decide (0 ≤ N) = false) := decide_eq_false (by omega)
      have HE : Hid (route net c s = (p ++ [i], 1)) := by show _ = _; rw [HG.out, route_lost HNI.out (HL.out hneg)]
      rw [HD.out]
      go_wp2_with fail
      go_ret2
      exact ⟨_, ret_tup (by rw [HE.out] <;> rfl), by rw [HE.out]; exact HO2.out, l2⟩
    have HD : Hid (decide (0 ≤ N) = true) := decide_eq_true (by omega)
    rw [HD.out]
    cases hhere : sEq S hereW
    case true =>
      have HE : Hid (route net c s = (p ++ [i], 0)) := by show _ = _; rw [HG.out, route_home HNI.out (HH.out (by omega) hhere)]
      have HHH := Lib.hid hhere
      rw [sHere] at hhere
      go_wp2_with fail
      go_ret2
      exact ⟨_, ret_tup (by rw [HE.out] <;> rfl), by rw [HE.out]; exact HO2.out, l2⟩
    obtain ⟨j, hj, e1, e2, _⟩ := HTO.out (by omega) hhere
    rw [sHere] at hhere
    have HE : Hid (route net c s = routeN net c f (p ++ [i]) j) := by show _ = _; rw [HG.out, route_on HNI.out e1]
    have HON2 := Lib.hid (onPath_step HON.out HNI.out hj)
    have HE2 := Lib.hid e2
    clear e1 e2 HL HH HTO
    go_wp2_with fail
    refine (impl_officeOf _ net S _ (hv0.out.on l2)).mono ?_
    rw [HE2.out]
    rintro e w3 ⟨rfl, b3⟩
    have l3 := later_trans l2 b3
    have HO3 := Lib.hid (HO2.out.below b3)
    go_wp2_with fail
    refine (slices_ContainsI _ (ints (p ++ [i])) j _ HO3.out.rd).mono ?_
    rw [ints_mem]
    rintro e w4 ⟨rfl, rfl⟩
    have hs3 := l3.size
    obtain ⟨f', hf'⟩ := onPath_fuel HON2.out
    subst hf'
    cases hq : decide (j ∈ p ++ [i])
    · have HQ' := Lib.hid (of_decide_eq_false hq)
      clear hq
      go_wp2_with (at_builtin; refine wpList_append1' (α := Int) rfl (.tmp 42) (.tmp 44) 125 rfl w.heap.size 3 i0 _ 8 Tryz.underlying125 hi hz0 hz1 hz2 rfl (by decide) (.slice (some ⟨g, 0, none⟩) (p.length + 1) cap) (ints (p ++ [i])) (j : Int) rfl (HO3.out.alloc _) ⟨w3.heap.size, 0, none⟩ 1 [.int .i64 j] rfl ⟨⟨by omega, by omega⟩, rfl⟩ (news_at w3 _ [.int .i64 j]) (by rw [ints_len, List.length_append]; unfold maxLen; simp only [List.length_singleton]; omega) (by rw [ints_len, List.length_append]; simp only [List.length_singleton]; omega) (by simp; omega) ?_; intro g5 cap5 w5 ho5 hg5 ha5 hl5)
      have l5 : Below w.heap.size w w5 := (later_alloc l3 (Obj.cells #[Value.int IntKind.i64 j] 3)).grown hg5 (by simp; omega) fun q hq => (HO3.out.blk q hq).1
      rw [← ints_snoc] at ho5
      have hPL : (ints (p ++ [i])).length = p.length + 1 := by rw [ints_len]; simp
      have HO5 := Lib.hid ho5; clear ho5
      go_wp2
      go_roundw
      case rel => exact ⟨p ++ [i], j, f', g5, cap5, (ints (p ++ [i])).length + 1, rfl, by rw [hPL]; simp, HO5.out, HON2.out, HQ'.out, l5, HE.out⟩
      case measure => simp [lenV, hPL]; omega
    · have HE5 : Hid (route net c s = (p ++ [i] ++ [j], 2)) := by show _ = _; rw [HE.out, route_again (of_decide_eq_true hq)]
      clear hq
      go_wp2_with (at_builtin; refine wpList_append1' (α := Int) rfl (.tmp 42) (.tmp 44) 125 rfl w.heap.size 3 i0 _ 8 Tryz.underlying125 hi hz0 hz1 hz2 rfl (by decide) (.slice (some ⟨g, 0, none⟩) (p.length + 1) cap) (ints (p ++ [i])) (j : Int) rfl (HO3.out.alloc _) ⟨w3.heap.size, 0, none⟩ 1 [.int .i64 j] rfl ⟨⟨by omega, by omega⟩, rfl⟩ (news_at w3 _ [.int .i64 j]) (by rw [ints_len, List.length_append]; unfold maxLen; simp only [List.length_singleton]; omega) (by rw [ints_len, List.length_append]; simp only [List.length_singleton]; omega) (by simp; omega) ?_; intro g5 cap5 w5 ho5 hg5 ha5 hl5)
      have l5 : Below w.heap.size w w5 := (later_alloc l3 (Obj.cells #[Value.int IntKind.i64 j] 3)).grown hg5 (by simp; omega) fun q hq => (HO3.out.blk q hq).1
      rw [← ints_snoc] at ho5
      have hPL : (ints (p ++ [i])).length = p.length + 1 := by rw [ints_len]; simp
      have HO5 := Lib.hid ho5; clear ho5
      go_wp2
      go_ret2
      exact ⟨_, ret_tup (by rw [HE5.out] <;> rfl), by rw [HE5.out]; first | exact HO5.out | (have h := HO5.out; rw [hPL] at h; exact h), l5⟩

theorem sEmpty (s : ByteArray) : sEq s ⟨#[]⟩ = s.toList.isEmpty := by
  unfold sEq
  rw [ByteArray.toList_eq ⟨#[]⟩]
  generalize s.toList = l
  cases l <;> rfl
theorem own_names {T base : Nat} {w : World} {v : Value} {xs : List ByteArray} (h : own T base w v xs) : rd w w.heap.size v xs := h.rd

set_option maxRecDepth 100000 in
set_option maxHeartbeats 1600000 in
theorem spec_l6Path (v : Value) (net : List Ofc) (s : Nat) (nm : ByteArray) (c : ByteArray) (w : World) (hv : rd w w.heap.size v net) (hk : netOk net = true) (hs : s < net.length) (hnm : nameAt net s = nm) (hcz : c.size ≤ maxLen) :
    Calls Tryz.prog 89 #[v, .string nm, .string c] w fun e w' => ∃ v', e = .returned (.tuple #[v', .int .i64 (route net c s).2]) ∧ own 9 w.heap.size w' v' ((route net c s).1.map (nameAt net)) ∧ Below w.heap.size w w' := by
  obtain ⟨A, n, cp, rfl, hn, hc, hm, hr⟩ := hv
  have hv0 := Lib.hid (show rd w w.heap.size (.slice A n cp) net from ⟨A, n, cp, rfl, hn, hc, hm, hr⟩)
  subst hn
  unfold maxLen at hm
  have HR := Lib.hid hr; clear hr
  have l0 := Below.refl w.heap.size w
  have hn8 := (netOk_iff.1 hk).1
  have HK := Lib.hid hk; clear hk
  obtain ⟨i0, hi, hz0, hz1, hz2⟩ := info_parts Tryz.infoStr
  go_enter Tryz.func89, Tryz.ntmps89
  go_wp2
  have ho1 : own (α := ByteArray) 9 w.heap.size (w.alloc (Obj.cells #[] 9)) (.slice (some ⟨w.heap.size, 0, none⟩) 0 0) (([] : List Nat).map (nameAt net)) := own.made0 w _ (Nat.le_refl _)
  have HO1 := Lib.hid ho1
  have l1 : Below w.heap.size w (w.alloc (Obj.cells #[] 9)) := later_alloc l0 _
  clear ho1
  go_loopw [8, 9] (fun t u wr => ∃ (p : List Nat) (i f g cap n : Nat) (d : ByteArray), t = .slice (some ⟨g, 0, none⟩) n cap ∧ n = p.length ∧ u = .string d ∧ Hid (nameAt net i = d) ∧ own 9 w.heap.size wr t (p.map (nameAt net)) ∧ Hid (onPath net (f + 1) p i) ∧ Below w.heap.size w wr ∧ Hid (route net c s = routeN net c (f + 1) p i)) (fun t _ _ => net.length + 2 - lenV t)
  case atStart => exact ⟨[], s, net.length, w.heap.size, 0, 0, nm, rfl, rfl, rfl, hnm, HO1.out, onPath_start hs, l1, rfl⟩
  case round =>
    obtain ⟨p, i, f, g, cap, n, d, rfl, rfl, rfl, HD, ho, HON, lr, HG⟩ := hrel
    obtain ⟨w1, rfl⟩ : ∃ w1 : World, w1 = wr := ⟨_, rfl⟩
    clear l1 l0
    have hil := HON.out.2.2.1
    have hpl : p.length ≤ net.length := nodup_len _ _ HON.out.1 HON.out.2.1
    have hfl := HON.out.2.2.2
    have HMEM := Lib.hid (names_mem HK.out HON.out.2.1 hil)
    rw [HD.out] at HMEM
    have HOF := Lib.hid (offI_self HK.out hil)
    rw [← nameAt_of hil, HD.out] at HOF
    obtain ⟨b, o, A2, k2, rfl, hb, hok, hu, y1, y2⟩ := HR.out.ofcU i hil
    have hdz : d.size ≤ maxLen := by rw [← HD.out, nameAt_of hil]; exact hok
    have HO := Lib.hid ho; clear ho
    have hii : (i : Int) < (net.length : Int) := by omega
    have HRO := Lib.hid ((netOk_iff.1 HK.out).2 i hil).2.2.2.1
    have HL := Lib.hid (fun h => hop_lost (net := net) (c := c) hil h)
    have HH := Lib.hid (fun h h' => hop_home (net := net) (c := c) hil h h')
    have HTO := Lib.hid (fun h h' => hop_to HK.out (c := c) hil h h')
    have hnz := nextS_ok HRO.out c
    have HEMP := Lib.hid (nextS_empty HRO.out c)
    generalize net[i] = x at *
    have HU := Lib.hid hu; clear hu
    obtain ⟨N, hN⟩ : ∃ N, bestI x.rules c = N := ⟨_, rfl⟩
    obtain ⟨S, hS⟩ : ∃ S, nextS x.rules c = S := ⟨_, rfl⟩
    rw [hN] at HL HH HTO HEMP
    rw [hS] at HH HTO hnz HEMP
    have HNN := Lib.hid hN; have HSS := Lib.hid hS; clear hN hS
    obtain ⟨r, hr⟩ : ∃ r, rkI (p.map (nameAt net)) d = r := ⟨_, rfl⟩
    rw [hr] at HMEM
    have HRR := Lib.hid hr; clear hr
    have hs1 := lr.size
    go_wp2_with fail
    refine (spec_l3Rank _ (p.map (nameAt net)) d _ HO.out.rd).mono ?_
    rw [HRR.out]
    rintro e w2 ⟨rfl, rfl⟩
    by_cases hr0 : 0 ≤ r
    · have hin : decide (i ∈ p) = true := by rw [← HMEM.out]; exact decide_eq_true hr0
      have HIN := Lib.hid (of_decide_eq_true hin)
      have HE : Hid (route net c s = (p ++ [i], 2)) := by show _ = _; rw [HG.out, route_again HIN.out]
      go_wp2_with (at_builtin; refine wpList_append1' (α := ByteArray) rfl (.tmp 17) (.tmp 19) 23 rfl w.heap.size 9 i0 _ 16 Tryz.underlying23 hi hz0 hz1 hz2 rfl (by decide) (.slice (some ⟨g, 0, none⟩) p.length cap) (p.map (nameAt net)) d rfl (HO.out.alloc _) ⟨w1.heap.size, 0, none⟩ 1 [.string d] rfl ⟨hdz, rfl⟩ (news_at w1 _ [.string d]) (by rw [List.length_map]; unfold maxLen; omega) (by rw [List.length_map]; omega) (by simp; omega) ?_; intro g5 cap5 w5 ho5 hg5 ha5 hl5)
      have l5 : Below w.heap.size w w5 := (later_alloc lr (Obj.cells #[Value.string d] 9)).grown hg5 (by simp; omega) fun q hq => (HO.out.blk q hq).1
      have HO5 := Lib.hid ho5; clear ho5
      go_wp2
      go_ret2
      refine ⟨_, ret_tup (by rw [HE.out] <;> rfl), ?_, l5⟩
      rw [HE.out]
      have h := HO5.out
      rw [← HD.out] at h
      simpa using h
    have hin : decide (i ∈ p) = false := by rw [← HMEM.out]; exact decide_eq_false hr0
    have HNI := Lib.hid (of_decide_eq_false hin)
    go_wp2_with (at_builtin; refine wpList_append1' (α := ByteArray) rfl (.tmp 21) (.tmp 23) 23 rfl w.heap.size 9 i0 _ 16 Tryz.underlying23 hi hz0 hz1 hz2 rfl (by decide) (.slice (some ⟨g, 0, none⟩) p.length cap) (p.map (nameAt net)) d rfl (HO.out.alloc _) ⟨w1.heap.size, 0, none⟩ 1 [.string d] rfl ⟨hdz, rfl⟩ (news_at w1 _ [.string d]) (by rw [List.length_map]; unfold maxLen; omega) (by rw [List.length_map]; omega) (by simp; omega) ?_; intro g5 cap5 w5 ho5 hg5 ha5 hl5)
    have l5 : Below w.heap.size w w5 := (later_alloc lr (Obj.cells #[Value.string d] 9)).grown hg5 (by simp; omega) fun q hq => (HO.out.blk q hq).1
    have hPL : (p.map (nameAt net)).length = p.length := by rw [List.length_map]
    have hsn : (p ++ [i]).map (nameAt net) = p.map (nameAt net) ++ [d] := by rw [List.map_append, List.map_singleton, HD.out]
    rw [← hsn] at ho5
    clear hsn
    have HO5 := Lib.hid ho5; clear ho5
    go_wp2_with fail
    refine (spec_l6Office _ net d _ (hv0.out.on l5)).mono ?_
    rw [HOF.out]
    rintro e w6 ⟨rfl, rfl⟩
    go_wp2_with fail
    refine (spec_l6Next _ x.rules c _ (HU.out.on l5) hcz).mono ?_
    rw [HSS.out]
    rintro e w6 ⟨rfl, b6⟩
    replace HO5 := Lib.hid (HO5.out.below b6)
    replace l5 := later_trans l5 b6
    clear b6
    by_cases hneg : N < 0
    · have HE : Hid (route net c s = (p ++ [i], 1)) := by show _ = _; rw [HG.out, route_lost HNI.out (HL.out hneg)]
      have he : sEq S ⟨#[]⟩ = true := by rw [HEMP.out]; exact decide_eq_true hneg
      rw [sEmpty] at he
      go_wp2
      go_ret2
      exact ⟨_, ret_tup (by rw [HE.out] <;> rfl), by rw [HE.out]; first | exact HO5.out | (have h := HO5.out; rw [hPL] at h; exact h), l5⟩
    have he : sEq S ⟨#[]⟩ = false := by rw [HEMP.out]; exact decide_eq_false hneg
    rw [sEmpty] at he
    cases hhere : sEq S hereW
    case true =>
      have HE : Hid (route net c s = (p ++ [i], 0)) := by show _ = _; rw [HG.out, route_home HNI.out (HH.out (by omega) hhere)]
      rw [sHere] at hhere
      go_wp2
      go_ret2
      exact ⟨_, ret_tup (by rw [HE.out] <;> rfl), by rw [HE.out]; first | exact HO5.out | (have h := HO5.out; rw [hPL] at h; exact h), l5⟩
    obtain ⟨j, hj, e1, e2, e3⟩ := HTO.out (by omega) hhere
    rw [sHere] at hhere
    have HE : Hid (route net c s = routeN net c f (p ++ [i]) j) := by show _ = _; rw [HG.out, route_on HNI.out e1]
    have HON2 := Lib.hid (onPath_step HON.out HNI.out hj)
    have HE3 := Lib.hid e3
    clear e1 e2 e3 HL HH HTO
    obtain ⟨f', hf'⟩ := onPath_fuel HON2.out
    subst hf'
    go_wp2
    go_roundw
    case rel => exact ⟨p ++ [i], j, f', g5, cap5, p.length + 1, S, rfl, by simp, rfl, HE3.out, by first | exact HO5.out | (have h := HO5.out; rw [hPL] at h; exact h), HON2.out, l5, HE.out⟩
    case measure => simp [lenV, hPL]; omega

end Go.Proofs.YtpinkbodbedajaaGreatDoor

namespace Go.Proofs.YtpinkbodbedajaaGreatDoor
open Go.RowKit

theorem list_own (T base : Nat) (w : World) (xs : List Int) (hx : ∀ x ∈ xs, isI64 x) (hm : xs.length ≤ maxLen) (hb : base ≤ w.heap.size) :
    own T base (w.alloc (.cells (xs.map (Value.int .i64)).toArray T)) (.slice (some ⟨w.heap.size, 0, none⟩) xs.length xs.length) xs := by
  have h1 : (xs.map fun x => [Value.int .i64 x]).flatten = xs.map (Value.int .i64) := by
    clear hm hx
    induction xs with
    | nil => rfl
    | cons x xs ih => simp [ih]
  refine ⟨xs.map fun x => [Value.int .i64 x], ⟨?_, .inr ⟨w.heap.size, xs.length, _, rfl, hb, heap_alloc_new w _, Nat.le_refl _, hm, by simp [El.size], ?_⟩⟩, by simp, fun k hk hk' => ?_⟩
  · rw [h1]
    simp [El.size]
  · rw [h1]
    simp only [El.size, Nat.mul_one]
    exact List.take_of_length_le (by simp)
  · simp only [List.getElem_map]
    exact ⟨hx _ (List.getElem_mem hk), rfl⟩

theorem rd_open (v : Value) (bs : List UInt8) (w : World) (hv : rd w w.heap.size v bs) :
    Calls Tryz.prog 42 #[v] w fun e w' => ∃ g, e = .returned (.pointer (some ⟨g, 0, none⟩)) ∧ w.heap.size ≤ g ∧ rdr w' g 0 ∧ Below w.heap.size w w' := by
  obtain ⟨A, n, c, rfl, hn, hc, hm, hr⟩ := hv
  subst hn
  have HM := hm
  unfold maxLen at hm
  have HR := Lib.hid hr; clear hr
  have HMM := Lib.hid HM; clear HM
  go_enter Tryz.func42, Tryz.ntmps42
  by_cases h : 2000 < bs.length
  · have HH : Hid (rdr (w.alloc (Obj.cells #[Value.slice A 2000 c, Value.int IntKind.i64 0] 140)) w.heap.size 0) :=
      ⟨A, 2000, c, bs.take 2000, heap_alloc_new w _, by simp; omega, Nat.le_refl _, by omega, HMM.out, (HR.out.take 2000).keep fun p hp => World.cell?_alloc_lt w _ p hp⟩
    go_wp2
    go_ret
    exact ⟨w.heap.size, rfl, Nat.le_refl _, HH.out, (Below.refl _ _).alloc (Nat.le_refl _) _⟩
  · have HH : Hid (rdr (w.alloc (Obj.cells #[Value.slice A bs.length c, Value.int IntKind.i64 0] 140)) w.heap.size 0) :=
      ⟨A, bs.length, c, bs, heap_alloc_new w _, rfl, by omega, hc, HMM.out, HR.out.keep fun p hp => World.cell?_alloc_lt w _ p hp⟩
    go_wp2
    go_ret
    exact ⟨w.heap.size, rfl, Nat.le_refl _, HH.out, (Below.refl _ _).alloc (Nat.le_refl _) _⟩

set_option maxHeartbeats 400000 in
theorem rd_num (T g p : Nat) (v : Value) (xs : List Int) (w : World) (hr : rdr w g p) (hp : p ≤ 1099511627776) (hv : own T (g + 1) w v xs) (h0 : 0 < xs.length) :
    Calls Tryz.prog 103 #[.pointer (some ⟨g, 0, none⟩), v] w fun e w' => ∃ x ∈ xs, e = .returned (.int .i64 x) ∧ rdr w' g (p + 1) ∧ w.grownBy w' (some g) := by
  have hlen : xs.length ≤ maxLen := by
    obtain ⟨A, n, c, _, hn, hc, hm, _⟩ := hv.rd
    omega
  have hne : v.ownBlock = none ∨ v.ownBlock ≠ some g := by
    cases hb : v.ownBlock with
    | none => exact .inl rfl
    | some k => exact .inr fun e => by have := (hv.blk k hb).1; injection e; omega
  have HV := Lib.hid (fun (W : World) (hg : w.grownBy W (some g)) => (hv.grown hg hne).rd)
  obtain ⟨A, n, c, rfl, hn, hc, hm, _⟩ := hv.rd
  subst hn
  unfold maxLen at hm
  clear hne hv
  go_enter Tryz.func103, Tryz.ntmps103
  go_wp2_with fail
  refine (rd_pick g p _ w hr hp ⟨by omega, by omega⟩).mono ?_
  rintro e w1 ⟨x, rfl, hx, hr1, hg⟩
  obtain ⟨x0, x1⟩ := hx.2 (by omega)
  obtain ⟨q, rfl⟩ := Int.eq_ofNat_of_zero_le x0
  obtain ⟨A', n', c', e1, _, _, _, hrd⟩ := HV.out w1 hg
  injection e1 with e1 e2 e3
  subst e1
  obtain ⟨b, o, rfl, hb, hi, c1⟩ := hrd.int q (by omega)
  have hmem : xs[q]'(by omega) ∈ xs := List.getElem_mem _
  generalize xs[q] = y at *
  have HM := Lib.hid hmem; clear hmem hx e2 e3
  go_wp2
  go_ret
  exact ⟨y, HM.out, rfl, hr1, hg⟩

/-- The decimal text of a number that is not negative. -/
def decL (n : Nat) : List UInt8 := if n = 0 then [48] else dec10 n
def decB (n : Nat) : ByteArray := ⟨(decL n).toArray⟩
theorem dec10_small {m : Nat} (h0 : 0 < m) (h : m ≤ 9) : dec10 m = [b8 (48 + m)] := by
  rw [dec10_step h0, show m / 10 = 0 by omega, show m % 10 = m by omega, show dec10 0 = [] by rw [dec10]]
  unfold b8
  rw [show (48 + (m : Int)).toNat = 48 + m by omega]
  rfl

set_option maxHeartbeats 400000 in
theorem spec_l9Dec (n : Nat) (w : World) (hn : n ≤ 9223372036854775807) :
    Calls Tryz.prog 142 #[.int .i64 n] w fun e w' => e = .returned (.string (decB n)) ∧ Below w.heap.size w w' := by
  have hbs := byteString
  have h0 : (0 : Int) ≤ (n : Int) := by omega
  go_enter Tryz.func142, Tryz.ntmps142
  go_wp2
  go_loopw [0, 3] (fun t s wr => ∃ (m : Nat) (u : ByteArray), m ≤ n ∧ t = .int .i64 m ∧ s = .string u ∧ u.size ≤ 20 ∧ Hid (n = 0 ∧ m = 0 ∧ u = ⟨#[]⟩ ∨ 0 < m ∧ dec10 n = dec10 m ++ u.data.toList) ∧ Hid (m * 10 ^ u.size ≤ n) ∧ Below w.heap.size w wr) (fun t _ _ => (intOf t).toNat)
  case atStart =>
    refine ⟨n, _, Nat.le_refl _, rfl, rfl, Nat.zero_le _, ?_, (by show n * 10 ^ 0 ≤ n; omega), Below.refl _ _⟩
    by_cases h : n = 0
    · exact .inl ⟨h, h, rfl⟩
    · exact .inr ⟨by omega, by simp⟩
  case round =>
    obtain ⟨m, u, hm, rfl, rfl, hu, HD, HP, hbl⟩ := hrel
    obtain ⟨w1, rfl⟩ : ∃ w1 : World, w1 = wr := ⟨_, rfl⟩
    by_cases h9 : 9 < m
    · have hu19 : u.size ≤ 19 := by
        apply Classical.byContradiction
        intro hc
        have h1 := HP.out
        have h2 : 10 ^ 20 ≤ 10 ^ u.size := Nat.pow_le_pow_right (by omega) (by omega)
        have h3 : 10 * 10 ^ 20 ≤ m * 10 ^ u.size := Nat.mul_le_mul (by omega) h2
        omega
      go_wp2
      go_roundw
      case rel =>
        refine ⟨m / 10, _, by omega, by go_num, rfl, by rw [ByteArray.size_append]; show 1 + _ ≤ 20; omega, .inr ⟨by omega, ?_⟩, ?_, hbl.alloc hbl.size _⟩
        · rcases HD.out with ⟨_, h, _⟩ | ⟨_, h⟩
          · omega
          · rw [h, ba_append, dec10_step (n := m) (by omega), List.append_assoc]
            show _ = dec10 (m / 10) ++ ([b8 (48 + (m : Int) % 10)] ++ _)
            unfold b8
            rw [show (48 + (m : Int) % 10).toNat = 48 + m % 10 by omega]
        · show _ ≤ _
          have h1 := HP.out
          have h2 : (m / 10) * 10 ≤ m := Nat.div_mul_le_self _ _
          rw [ByteArray.size_append, show (ByteArray.mk #[b8 (48 + (m : Int) % 10)]).size = 1 from rfl, Nat.pow_add, Nat.pow_one, ← Nat.mul_assoc]
          exact Nat.le_trans (Nat.mul_le_mul_right _ h2) h1
      case measure => simp [intOf]; omega
    · go_wp2
      go_ret
      refine ⟨ret_str ?_, hbl.alloc hbl.size _⟩
      apply ba_ext
      rw [ba_append]
      rcases HD.out with ⟨h1, h2, h3⟩ | ⟨h1, h2⟩
      · subst h1 h2 h3
        rfl
      · show _ = decL n
        unfold decL
        rw [if_neg (by omega), h2, dec10_small h1 (by omega)]

/-- The last k decimal digits of a number. -/
def showL : Nat → Nat → List UInt8
  | _, 0 => []
  | n, k + 1 => showL (n / 10) k ++ [b8 (48 + (n : Int) % 10)]
def showB (n k : Nat) : ByteArray := ⟨(showL n k).toArray⟩
theorem showL_len : ∀ (k n : Nat), (showL n k).length = k
  | 0, _ => rfl
  | k + 1, n => by rw [showL, List.length_append, showL_len k]; rfl
theorem showB_size (n k : Nat) : (showB n k).size = k := by
  show (showL n k).toArray.size = k
  rw [List.size_toArray, showL_len]

set_option maxHeartbeats 400000 in
theorem spec_l1Show (n k : Nat) (w : World) (hn : n ≤ 9223372036854775807) (hk : k ≤ 60) :
    Calls Tryz.prog 74 #[.int .i64 n, .int .i64 k] w fun e w' => e = .returned (.string (showB n k)) ∧ Below w.heap.size w w' := by
  go_enter Tryz.func74, Tryz.ntmps74
  go_wp2_with fail
  go_loopw [0, 5, 6] (fun t s i wr => ∃ (m j : Nat) (u : ByteArray), m ≤ n ∧ j ≤ k ∧ t = .int .i64 m ∧ s = .string u ∧ i = .int .i64 j ∧ u.size ≤ j ∧ Hid (showL n k = showL m (k - j) ++ u.data.toList) ∧ Below w.heap.size w wr) (fun _ _ i _ => k - (intOf i).toNat)
  case atStart => exact ⟨n, 0, _, Nat.le_refl _, Nat.zero_le _, rfl, rfl, rfl, Nat.le_refl _, by show _ = _; simp, Below.refl _ _⟩
  case round =>
    obtain ⟨m, j, u, hm, hj, rfl, rfl, rfl, hu, HD, hbl⟩ := hrel
    obtain ⟨w1, rfl⟩ : ∃ w1 : World, w1 = wr := ⟨_, rfl⟩
    by_cases hlt : j < k
    · go_wp2_with fail
      refine (spec_l9Dec (m % 10) _ (by omega)).mono ?_
      rintro e w2 ⟨rfl, hb⟩
      have hd1 : (decB (m % 10)).size = 1 := by
        show (decL _).toArray.size = 1
        unfold decL
        split
        · rfl
        · rw [dec10_small (by omega) (by omega)]; rfl
      have HDD : Hid ((decB (m % 10)).data.toList = [b8 (48 + (m : Int) % 10)]) := by
        show decL _ = _
        unfold decL
        split
        · rename_i h
          rw [show (m : Int) % 10 = 0 by omega]; rfl
        · rw [dec10_small (by omega) (by omega)]; rfl
      generalize decB (m % 10) = d at *
      go_wp2_with fail
      go_roundw
      case rel =>
        refine ⟨m / 10, j + 1, _, by omega, by omega, by go_num, rfl, by go_num, by rw [ByteArray.size_append]; omega, ?_, hbl.trans (hb.mono hbl.size)⟩
        show _ = _
        rw [HD.out, ba_append, HDD.out, show k - j = (k - (j + 1)) + 1 by omega, showL, List.append_assoc]
      case measure => simp [intOf]; omega
    · have HE := Lib.hid (show k - j = 0 by omega)
      go_wp2_with fail
      go_ret
      refine ⟨ret_str ?_, hbl⟩
      apply ba_ext
      show _ = showL n k
      rw [HD.out, HE.out, showL]
      rfl

end Go.Proofs.YtpinkbodbedajaaGreatDoor

namespace Go.Proofs.YtpinkbodbedajaaGreatDoor
open Go.RowKit

theorem Tryz.infoByte : (Tryz.prog.info? 5).map (fun i => (i.zero, i.size, i.bytes)) = some (some (.int .u8 0), 1, 1) := by kernel_rfl
theorem dgB_dec (d : Nat) (h : d < 10) : decB d = dgB d := by
  apply ba_ext
  show decL d = [UInt8.ofNat (48 + d)]
  unfold decL
  by_cases h0 : d = 0
  · subst h0; rfl
  · rw [if_neg h0, dec10_small (by omega) (by omega)]
    unfold b8
    rw [show (48 + (d : Int)).toNat = 48 + d by omega]

theorem byteString1 (W : World) (g : Nat) (n : Int) (h : W.cell? ⟨g, 0, none⟩ = some (.int .u8 n)) : (convert 22 9 (.slice (some ⟨g, 0, none⟩) 1 1)).run Tryz.prog W = .ok (.string ⟨#[b8 n]⟩) W := by
  rw [run_convert_bytes_string _ _ _ 5 _ _ _ Tryz.underlying22 Tryz.underlying5 Tryz.underlying9]
  rw [run_bytesToString _ _ _ _ [n] (by
    refine run_loadCells_list _ _ [Value.int .u8 n] fun j v hj => ?_
    match j, hj with
    | 0, hj =>
      simp at hj
      subst hj
      rw [add_lit]
      exact h
    | j + 1, hj => simp at hj)]
  rfl

set_option maxRecDepth 100000 in
set_option maxHeartbeats 800000 in
theorem impl_padded1 (d : Nat) (w : World) (hd : d < 10) :
    Calls Tryz.prog 72 #[.int .i64 d, .int .i64 1] w fun e w' => e = .returned (.string (dgB d)) ∧ Below w.heap.size w w' := by
  have hbs := byteString
  obtain ⟨i0, hi, hz0, hz1, hz2⟩ := info_parts Tryz.infoByte
  have hmk := make_row (P := Tryz.prog) 22 5 i0 _ Tryz.underlying22 hi hz0 1 (by rw [hz2]; omega) (by omega)
  rw [show ((1 : Nat) : Int) = 1 from rfl] at hmk
  have hm1 : madeCells #[Value.int .u8 0] 1 = #[.int .u8 0] := by apply Array.ext <;> simp [madeCells]
  have hdm : (d : Int) % 10 = d := by omega
  have hwr : IntKind.wrap .u8 (48 + (d : Int)) = 48 + (d : Int) := by simp [IntKind.wrap, IntKind.bits, IntKind.signed]; omega
  go_enter Tryz.func72, Tryz.ntmps72
  go_wp2
  obtain ⟨wz, hwz⟩ : ∃ u, u = w.alloc (Obj.cells #[.int .u8 0] 5) := ⟨_, rfl⟩
  have hg : wz.heap[w.heap.size]? = some (.cells #[.int .u8 0] 5 (0, 0)) := by subst hwz; exact heap_alloc_new w _
  have lz : Below w.heap.size w wz := (box_later hwz).1
  rw [← hwz]
  clear hwz hmk
  have hc := blk_cell hg 0 _ rfl
  have hf := blk_free hg 0
  go_loopw [0, 6] (fun t i wr => i = .int .i64 0 ∧ t = .int .i64 d ∧ wr = wz ∨ i = .int .i64 (-1) ∧ t = .int .i64 (d / 10 : Nat) ∧ wr = wz.setCell ⟨w.heap.size, 0, none⟩ (.int .u8 (48 + d))) (fun _ i _ => (intOf i + 1).toNat)
  case atStart => exact .inl ⟨rfl, rfl, rfl⟩
  case round =>
    rcases hrel with ⟨rfl, rfl, rfl⟩ | ⟨rfl, rfl, rfl⟩
    · go_wp2
      go_roundw
      case rel => exact .inr ⟨by go_num, by go_num, trivial⟩
      case measure => simp [intOf]
    · have hg2 := blk_set hg 0 (.int .u8 (48 + (d : Int)))
      have l2 := later_set lz (p := ⟨w.heap.size, 0, none⟩) (Nat.le_refl _) (.int .u8 (48 + (d : Int)))
      generalize wz.setCell ⟨w.heap.size, 0, none⟩ (.int .u8 (48 + (d : Int))) = w2 at *
      have hc2 := blk_cell hg2 0 _ rfl
      have hcv := byteString1 w2 w.heap.size _ hc2
      go_wp2
      go_ret
      refine ⟨ret_str ?_, l2⟩
      unfold dgB b8
      rw [show (48 + (d : Int)).toNat = 48 + d by omega]

end Go.Proofs.YtpinkbodbedajaaGreatDoor

namespace Go.Proofs.YtpinkbodbedajaaGreatDoor
open Go.RowKit

/-- A row of bytes: all of block g. -/
def byteRow (w : World) (g : Nat) (l : List UInt8) : Prop := w.heap[g]? = some (.cells (l.map fun b => Value.int .u8 b.toNat).toArray 5 (0, 0))
theorem byteRow.cell {w : World} {g : Nat} {l : List UInt8} (h : byteRow w g l) (i : Nat) (hi : i < l.length) : w.cell? ⟨g, i, none⟩ = some (.int .u8 (l[i].toNat : Int)) :=
  blk_cell h i _ (by simp [hi])
theorem byteRow.free {w : World} {g : Nat} {l : List UInt8} (h : byteRow w g l) (i : Nat) : w.frozen? ⟨g, i, none⟩ = false := blk_free h i
theorem byteRow.set {w : World} {g : Nat} {l : List UInt8} (h : byteRow w g l) (i : Nat) (b : UInt8) : byteRow (w.setCell ⟨g, i, none⟩ (.int .u8 (b.toNat : Int))) g (l.set i b) := by
  have h1 := blk_set h i (.int .u8 (b.toNat : Int))
  unfold byteRow
  rw [h1, List.map_set]
  simp
theorem byteRow.below {w w' : World} {g : Nat} {l : List UInt8} (h : byteRow w g l) (hb : Below w.heap.size w w') : byteRow w' g l := blk_below h hb
theorem byteRow.str {w : World} {g c m : Nat} {l : List UInt8} (h : byteRow w g l) (hm : m ≤ l.length) : (convert 22 9 (.slice (some ⟨g, 0, none⟩) m c)).run Tryz.prog w = .ok (.string ⟨(l.take m).toArray⟩) w := by
  have h1 := run_convert_bytes_back (P := Tryz.prog) w 22 9 5 ⟨g, 0, none⟩ c (l.take m) Tryz.underlying22 Tryz.underlying5 Tryz.underlying9 (fun j hj => by
    have hj2 : j < l.length := by rw [List.length_take] at hj; omega
    rw [List.getElem_take]
    have := h.cell j hj2
    rw [add_lit]
    simpa using this)
  have hl : (l.take m).length = m := by rw [List.length_take]; omega
  rw [hl] at h1
  exact h1
theorem madeBytes (k : Nat) : madeCells #[Value.int .u8 0] k = ((List.replicate k (0 : UInt8)).map fun b => Value.int .u8 (b.toNat : Int)).toArray := by
  apply Array.ext
  · simp [madeCells]
  · intro i h1 h2
    simp [madeCells]
    rw [Nat.mod_one]
    rfl
theorem b8_nat {n : Int} (h0 : 0 ≤ n) (h1 : n ≤ 255) : ((b8 n).toNat : Int) = n := by
  unfold b8
  rw [UInt8.toNat_ofNat']
  omega

set_option maxRecDepth 100000 in
set_option maxHeartbeats 800000 in
theorem impl_padded (n k : Nat) (w : World) (hn : n ≤ 9223372036854775807) (hk : k ≤ 20) :
    Calls Tryz.prog 72 #[.int .i64 n, .int .i64 k] w fun e w' => e = .returned (.string (showB n k)) ∧ Below w.heap.size w w' := by
  obtain ⟨i0, hi, hz0, hz1, hz2⟩ := info_parts Tryz.infoByte
  have hmk := make_row (P := Tryz.prog) 22 5 i0 _ Tryz.underlying22 hi hz0 k (by rw [hz2]; omega) (by omega)
  go_enter Tryz.func72, Tryz.ntmps72
  go_wp2_with fail
  obtain ⟨wz, hwz⟩ : ∃ u, u = w.alloc (Obj.cells (madeCells #[.int .u8 0] k) 5) := ⟨_, rfl⟩
  have hg : byteRow wz w.heap.size (List.replicate k 0) := by
    subst hwz
    unfold byteRow
    rw [heap_alloc_new w _, madeBytes]
  have lz : Below w.heap.size w wz := (box_later hwz).1
  rw [← hwz]
  have HG := Lib.hid hg
  clear hwz hmk hg
  go_loopw [0, 6] (fun t i wr => ∃ (m j : Nat) (z : Int) (u : List UInt8), m ≤ n ∧ j ≤ k ∧ z + 1 = (j : Int) ∧ t = .int .i64 m ∧ i = .int .i64 z ∧ Hid (showL n k = showL m j ++ u) ∧ Hid (byteRow wr w.heap.size (List.replicate j 0 ++ u)) ∧ Hid (u.length + j = k) ∧ Below w.heap.size w wr) (fun _ i _ => (intOf i + 1).toNat)
  case atStart => exact ⟨n, k, (k : Int) - 1, [], Nat.le_refl _, Nat.le_refl _, by omega, rfl, rfl, by show _ = _; simp, by show byteRow _ _ _; rw [List.append_nil]; exact HG.out, by show _ = _; simp, lz⟩
  case round =>
    obtain ⟨m, j, z, u, hm, hj, hz, rfl, rfl, HD, HR, HU, hbl⟩ := hrel
    obtain ⟨w1, rfl⟩ : ∃ w1 : World, w1 = wr := ⟨_, rfl⟩
    by_cases hj0 : j = 0
    · obtain rfl : z = -1 := by omega
      have HJ := Lib.hid hj0
      clear hz hj0
      have hul : k ≤ (List.replicate j (0 : UInt8) ++ u).length := by rw [List.length_append, List.length_replicate]; have := HU.out; omega
      have HS : Hid ((List.replicate j (0 : UInt8) ++ u).take k = showL n k) := by
        show _ = _
        have h1 := HD.out; have h2 := HU.out; have h3 := HJ.out
        subst h3
        rw [h1, List.replicate_zero, List.nil_append, showL, List.nil_append, List.take_of_length_le (by omega)]
      have hcv := HR.out.str (c := k) hul
      rw [HS.out] at hcv
      go_wp2_with fail
      go_ret
      exact ⟨rfl, hbl⟩
    · obtain ⟨j', rfl⟩ : ∃ j', j = j' + 1 := ⟨j - 1, by omega⟩
      obtain rfl : z = (j' : Int) := by omega
      clear hz hj0
      have hwr : IntKind.wrap .u8 (48 + (m : Int) % 10) = 48 + (m : Int) % 10 := by simp [IntKind.wrap, IntKind.bits, IntKind.signed]; omega
      have hlen : j' < (List.replicate (j' + 1) (0 : UInt8) ++ u).length := by rw [List.length_append, List.length_replicate]; omega
      have hc := HR.out.cell j' hlen
      have hf := HR.out.free j'
      have HSET : Hid (byteRow (w1.setCell ⟨w.heap.size, j', none⟩ (.int .u8 (48 + (m : Int) % 10))) w.heap.size (List.replicate j' 0 ++ (b8 (48 + (m : Int) % 10) :: u))) := by
        show byteRow _ _ _
        have h1 := HR.out.set j' (b8 (48 + (m : Int) % 10))
        rw [b8_nat (by omega) (by omega)] at h1
        have h2 : (List.replicate (j' + 1) (0 : UInt8) ++ u).set j' (b8 (48 + (m : Int) % 10)) = List.replicate j' 0 ++ (b8 (48 + (m : Int) % 10) :: u) := by
          rw [List.replicate_succ', List.append_assoc, List.set_append_right _ _ (by rw [List.length_replicate]; exact Nat.le_refl _), List.length_replicate, Nat.sub_self]
          rfl
        rwa [h2] at h1
      have HD2 : Hid (showL n k = showL (m / 10) j' ++ (b8 (48 + (m : Int) % 10) :: u)) := by
        show _ = _
        rw [HD.out, showL]
        simp
      have HU2 : Hid ((b8 (48 + (m : Int) % 10) :: u).length + j' = k) := by show _ = _; have := HU.out; simp; omega
      have hjk : (j' : Int) < (k : Int) := by omega
      have hj0 : (0 : Int) ≤ (j' : Int) := by omega
      generalize (List.replicate (j' + 1) (0 : UInt8) ++ u)[j'] = old at *
      clear HD HU
      go_wp2_with fail
      go_roundw
      case rel => exact ⟨m / 10, j', (j' : Int) - 1, _, by omega, by omega, by omega, by go_num, rfl, HD2.out, HSET.out, HU2.out, later_set hbl (p := ⟨w.heap.size, j', none⟩) (Nat.le_refl _) _⟩
      case measure => simp [intOf]

end Go.Proofs.YtpinkbodbedajaaGreatDoor
