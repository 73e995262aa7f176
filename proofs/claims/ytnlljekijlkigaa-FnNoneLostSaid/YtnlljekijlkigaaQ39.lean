/- DT2 -/
import Derived.Test.YtnlljekijlkigaaQ38
namespace Go.Proofs.Ytnlljekijlkigaa
open Go.RowKit

set_option maxRecDepth 100000 in
set_option maxHeartbeats 1600000 in
theorem spec_l5Fill0 (vb : Value) (xs : List Ltr) (s : Int) (w : World) (hb : rd w w.heap.size vb xs) (hxl : xs.length ≤ 60) :
    Calls Try.prog 202 #[vb, .int .i64 s, .int .i64 0] w fun e w' => ∃ v', e = .returned v' ∧ ownLL 29 49 w.heap.size w' v' (trayTo s xs) ∧ Below w.heap.size w w' := by
  obtain ⟨A, n, c, rfl, hn, hc, hm, hr⟩ := hb
  subst hn
  unfold maxLen at hm
  have HR := Lib.hid hr; clear hr
  obtain ⟨i0, hi, hzz, hz1, hz2⟩ := info_parts Try.infoRow
  obtain ⟨i1, ji, jz0, jz1, jz2⟩ := info_parts Try.infoLtr
  have HFA := Lib.hid (trayTo_facts s xs)
  go_enter Try.func202, Try.ntmps202
  go_wp2
  have ho0 : own (α := Value) 29 w.heap.size (w.alloc (Obj.cells #[] 29)) (.slice (some ⟨w.heap.size, 0, none⟩) 0 0) [] := own.made0 w _ (Nat.le_refl _)
  have l0 : Below w.heap.size w (w.alloc (Obj.cells #[] 29)) := (Below.refl _ _).alloc (Nat.le_refl _) _
  have HI0 : Hid (isLL (α := Ltr) 29 49 w.heap.size (w.alloc (Obj.cells #[] 29)) (.slice (some ⟨w.heap.size, 0, none⟩) 0 0) [] []) := ⟨ho0, rfl, fun k h => absurd h (Nat.not_lt_zero k), fun j k h => absurd h (Nat.not_lt_zero j), fun k h => absurd h (Nat.not_lt_zero k)⟩
  clear ho0
  generalize (w.alloc (Obj.cells #[] 29)) = w0 at *
  go_loopw [7, 8] (fun t i wr => ∃ (k : Nat) (vs : List Value), k ≤ xs.length ∧ i = .int .i64 k ∧ Below w.heap.size w wr ∧ isLL 29 49 w.heap.size wr t (trayTo s (xs.take k)) vs) (fun _ i _ => xs.length - (intOf i).toNat)
  case atStart => exact ⟨0, [], Nat.zero_le _, rfl, l0, HI0.out⟩
  case round =>
    obtain ⟨k, vs, hk, rfl, lr, hB⟩ := hrel
    obtain ⟨wl, rfl⟩ : ∃ wl : World, wl = wr := ⟨_, rfl⟩
    clear l0 HI0
    by_cases hlt : k < xs.length
    · obtain ⟨b, o, rfl, hb, ⟨hxi, hxc⟩, c1, c2⟩ := HR.out.ltrU k hlt
      have HSTEP := Lib.hid (trayTo_succ (s := s) hlt)
      obtain ⟨f1, f2, f3⟩ := HFA.out k hk
      have HPREV : Hid (∀ k', k = k' + 1 → ∃ y : ByteArray, y.size ≤ maxLen ∧ ∀ W, Below w.heap.size w W → W.cell? ⟨b, o + k' * 2 + 1, none⟩ = some (.string y)) := fun k' hk' => by
        obtain ⟨b', o', hA', _, ⟨_, hyc⟩, _, e2⟩ := HR.out.ltrU k' (by omega)
        injection hA' with hA'
        injection hA' with hA1 hA2
        subst hA1 hA2
        exact ⟨_, hyc, e2⟩
      generalize xs[k] = x at *
      obtain ⟨L, hL⟩ : ∃ L, trayTo s (xs.take k) = L := ⟨_, rfl⟩
      rw [hL] at hB HSTEP f1 f2 f3
      clear hL
      have HROW : Hid (∀ d (h : d < L.length), L[d].length ≤ 60) := fun d h => Nat.le_trans (row_le_flat h) (by omega)
      have HROW2 : Hid (∀ d (h : d < (L ++ [[]]).length), (L ++ [[]])[d].length ≤ 60) := fun d h => Nat.le_trans (row_le_flat h) (by simp; simp at f3; omega)
      obtain ⟨AO, mO, cO, rfl, hmO, _, _, _⟩ := hB.1.rd
      subst hmO
      have hvl : vs.length = L.length := hB.2.1
      have hvb : vs.length ≤ 60 := by omega
      have HB4 := Lib.hid hB; clear hB
      have hki : (k : Int) < (xs.length : Int) := by omega
      have hs0 : w.heap.size ≤ wl.heap.size := lr.size
      have ll := lr
      have lwl := Below.refl wl.heap.size wl
      clear lr
      by_cases hk0 : k = 0
      · have hL0 : L.length = 0 := f2.2 hk0
        have hvd : vs.length = 0 := by omega
        have hLj : 0 < (L ++ [[]]).length := by simp
        have HST : Hid (trayTo s (xs.take (k + 1)) = (L ++ [[]]).set 0 ((L ++ [[]])[0] ++ [x])) := by show _ = _; rw [HSTEP.out, putT_new (.inl hL0), last_set hL0]
        clear f2 hL0 hvl f1 f3
        have HK0 := Lib.hid hk0; clear hk0
        go_wp2
        go_quiet (fail)
        try clear hvd
        try clear hvl
        try clear hd
        obtain ⟨wq, hwq⟩ : ∃ u, u = wl.drewN nq := ⟨_, rfl⟩
        have lq := later_drewN ll nq
        have bq := later_drewN lwl nq
        rw [← hwq] at lq bq ⊢
        clear hwq
        have HBq := Lib.hid (HB4.out.below bq)
        have hsq : w.heap.size ≤ wq.heap.size := lq.size
        have hz1' : (wq.alloc (Obj.cells #[] 49)).heap.size = wq.heap.size + 1 := by simp
        have OR1 : Hid (own (α := Ltr) 49 wq.heap.size (wq.alloc (Obj.cells #[] 49)) (.slice (some ⟨wq.heap.size, 0, none⟩) 0 0) []) := own.made0 wq _ (Nat.le_refl _)
        have HF1 : Hid (farLL (.slice (some ⟨wq.heap.size, 0, none⟩) 0 0) (.slice AO vs.length cO) vs) := ⟨apart_gt OR1.out HBq.out.1 (Nat.le_refl _), fun i hi => apart_gt OR1.out (HBq.out.2.2.1 i hi (by have := HBq.out.2.1; omega)) (Nat.le_refl _)⟩
        have bw1 : Below wq.heap.size wq (wq.alloc (Obj.cells #[] 49)) := later_alloc (Below.refl _ _) _
        have HBr := Lib.hid (HBq.out.below bw1)
        have hnews : ∀ j u, [(.slice (some ⟨wq.heap.size, 0, none⟩) 0 0 : Value)][j]? = some u → ((wq.alloc (Obj.cells #[] 49)).alloc (Obj.cells #[.slice (some ⟨wq.heap.size, 0, none⟩) 0 0] 29)).cell? ((⟨wq.heap.size + 1, 0, none⟩ : Addr).add j) = some u := by
          rw [← hz1']; exact news_at (wq.alloc (Obj.cells #[] 49)) _ [.slice (some ⟨wq.heap.size, 0, none⟩) 0 0]
        clear hz1' bw1
        go_wp2_with (at_builtin; refine wpList_append1' (α := Value) rfl (.tmp 49) (.tmp 51) 51 rfl w.heap.size 29 i0 _ 24 Try.underlying51 hi hzz hz1 hz2 rfl (by decide) (.slice AO vs.length cO) vs (.slice (some ⟨wq.heap.size, 0, none⟩) 0 0) rfl (HBr.out.1.alloc _) ⟨wq.heap.size + 1, 0, none⟩ 1 [.slice (some ⟨wq.heap.size, 0, none⟩) 0 0] rfl ⟨rfl, rfl⟩ hnews (by unfold maxLen; omega) (by omega) (by simp; omega) ?_; intro gn cap wn hon hgn han hln)
        have ln : Below w.heap.size w wn := (later_alloc (later_alloc lq (Obj.cells #[] 49)) (Obj.cells #[.slice (some ⟨wq.heap.size, 0, none⟩) 0 0] 29)).grown hgn (by simp; omega) fun q hq => (HBq.out.1.blk q hq).1
        have HB6 := Lib.hid (isLL.snoc (HBr.out.below (later_alloc (Below.refl _ _) (Obj.cells #[.slice (some ⟨wq.heap.size, 0, none⟩) 0 0] 29))) ((OR1.out.base_ hsq).alloc (Obj.cells #[.slice (some ⟨wq.heap.size, 0, none⟩) 0 0] 29)) HF1.out hon hgn han)
        have hn3 : (vs ++ [Value.slice (some ⟨wq.heap.size, 0, none⟩) 0 0]).length = vs.length + 1 := by simp
        have hn2' : vs.length + 1 ≤ 61 := by omega
        have hpos : 0 < vs.length + 1 := Nat.succ_pos _
        have HB7 := HB6
        clear HB6 HROW
        have HROW := HROW2
        clear HROW2
        generalize L ++ [[]] = L2 at *
        generalize vs ++ [Value.slice (some ⟨wq.heap.size, 0, none⟩) 0 0] = vs2 at *
        generalize vs.length + 1 = n2 at *
        obtain ⟨G, hG⟩ : ∃ z, z = gn := ⟨_, rfl⟩
        rw [← hG] at HB7
        rw [← hG]
        clear hG
        obtain ⟨hlv, hov, hgv⟩ : ∃ hlv : 0 < vs2.length, own 49 w.heap.size wn vs2[0] L2[0] ∧ apart vs2[0] (.slice (some ⟨G, 0, none⟩) n2 cap) := by
          obtain ⟨z1, z2, z3, z4, z5⟩ := HB7.out
          exact ⟨by omega, z3 0 (by omega) hLj, z5 0 (by omega)⟩
        have hcG : wn.cell? ⟨G, 0, none⟩ = some vs2[0] := own_cellv HB7.out.1 0 hlv
        have hfG : wn.frozen? ⟨G, 0, none⟩ = false := HB7.out.1.freeAt 0
        have hql : L2[0].length ≤ 60 := HROW.out 0 hLj
        obtain ⟨qs, hqs⟩ : ∃ qs, qs = L2[0] := ⟨_, rfl⟩
        have HQS := Lib.hid hqs
        rw [← hqs] at hov hql
        clear hqs
        obtain ⟨u, hu⟩ : ∃ u, u = vs2[0] := ⟨_, rfl⟩
        have HUU := Lib.hid hu
        rw [← hu] at hov hgv hcG
        clear hu
        obtain ⟨Au, mu, cu, rfl, hmu, _, _, _⟩ := hov.rd
        subst hmu
        have HOV := Lib.hid hov; clear hov
        have HGV := Lib.hid hgv; clear hgv
        have hGs : some G ≠ (Value.slice Au qs.length cu).ownBlock := by
          have h := HGV.out
          unfold apart at h
          rcases h with h | h
          · rw [h]; simp
          · exact fun e => h e.symm
        have HGS := Lib.hid hGs; clear hGs
        have hGlt : G < wn.heap.size := (HB7.out.1.blk G rfl).2
        have hG0 : w.heap.size ≤ G := (HB7.out.1.blk G rfl).1
        go_wp2
        go_region_law (first | ((refine step_append1 (α := Ltr) (by rfl) (.tmp 60) (.tmp 65) 29 (by rfl) w.heap.size 49 i1 _ 24 Try.underlying29 ji jz0 jz1 jz2 rfl (by decide) (.slice Au qs.length cu) qs x (by rfl) ((HOV.out.alloc _).drew) ⟨wn.heap.size, 0, none⟩ 1 (Ltr.cells x) (by rfl) ⟨⟨hxi, hxc⟩, rfl⟩ (news_drew wn _ (Ltr.cells x)) (by unfold maxLen; omega) (by omega) (by simp; omega) ?_; intro g cap w5 ho5 hg5 ha5 hl5; have hcG5 : w5.cell? ⟨G, 0, none⟩ = some (.slice Au qs.length cu) := (hg5.cell_far ⟨G, 0, none⟩ (by simp; omega) HGS.out).trans (by go_simp); have hfG5 : w5.frozen? ⟨G, 0, none⟩ = false := (hg5.frozen_far ⟨G, 0, none⟩ (by simp; omega) HGS.out).trans (by go_simp))))
        all_goals
          have hWD : Below wn.heap.size wn (wn.alloc (Obj.cells #[Value.int IntKind.i64 x.id, Value.string x.code] 49)).drew := later_drew (later_alloc (Below.refl _ _) _)
          obtain ⟨p1, _, _⟩ := place_step (o := .slice none 0 0) (rest := []) HB7.out (own.nil_ _ _ _) ⟨.inl rfl, fun k hk => .inl rfl⟩ hWD hlv hLj HUU.out HQS.out ho5 hg5 ha5
          have p4 := place_later (G := G) (d := 0) (g := g) (m := qs.length + 1) (cap := cap) (later_drew (later_alloc ln (Obj.cells #[Value.int IntKind.i64 x.id, Value.string x.code] 49))) hg5 (fun j hj => (HOV.out.blk j hj).1) hG0
          have P1 := Lib.hid p1
          clear p1 hWD
          go_wp2
          go_roundw
          case rel => exact ⟨k + 1, _, by omega, by go_num, p4, by rw [HST.out]; exact P1.out⟩
          case measure => simp [intOf]; omega
      · obtain ⟨d, hd⟩ : ∃ d, L.length = d + 1 := ⟨L.length - 1, by have : L.length ≠ 0 := fun e => hk0 (f2.1 e); omega⟩
        have hLj : d < L.length := by omega
        obtain ⟨k', hk'⟩ : ∃ k', k = k' + 1 := ⟨k - 1, by omega⟩
        obtain ⟨yp, hyp, e2⟩ := HPREV.out k' hk'
        clear f2 HPREV
        subst hk'
        clear hk0
        have hvd : vs.length = d + 1 := by omega
        obtain ⟨hlv, hov⟩ : ∃ hlv : d < vs.length, own 49 w.heap.size wl vs[d] L[d] := by
          obtain ⟨z1, z2, z3, z4, z5⟩ := HB4.out
          exact ⟨by omega, z3 d (by omega) hLj⟩
        obtain ⟨G, hAO, _⟩ := own_some HB4.out.1 (by omega)
        subst hAO
        have hcG : wl.cell? ⟨G, d, none⟩ = some vs[d] := own_cellv HB4.out.1 d hlv
        obtain ⟨Au, mu, cu, hU, hmu, _, _, _⟩ := hov.rd
        rw [hU, hmu] at hcG
        have HUU := Lib.hid hU
        clear hU hmu hov
        obtain ⟨qn, hqn⟩ : ∃ q, L[d].length = q := ⟨_, rfl⟩
        rw [hqn] at hcG
        have HQN := Lib.hid hqn; clear hqn
        have hdi : (d : Int) < (vs.length : Int) := by omega
        have hkp : (k' : Int) < (xs.length : Int) := by omega
        have hGlt : G < wl.heap.size := (HB4.out.1.blk G rfl).2
        have hd0 : decide ((d : Int) < 0) = false := decide_eq_false (by omega)
        have hdn : (d : Int) + 1 < ((vs.length + 1 : Nat) : Int) := by omega
        have hdn' : d + 1 < vs.length + 1 := by omega
        have hdp : (0 : Int) ≤ (d : Int) + 1 := by omega
        have hkp1 : (0 : Int) ≤ (k' : Int) + 1 := by omega
        have hdl : (d : Int) < (d : Int) + 1 := by omega
        have hkx : (k' : Int) + 1 < (xs.length : Int) := by omega
        have HDD := Lib.hid hd
        rw [hvd] at HB4 ⊢
        have HVD := Lib.hid hvd
        clear hdi hvd hvl hd
        have hdi : (d : Int) < ((d + 1 : Nat) : Int) := by omega
        have c1' := c1 wl ll; have c2' := c2 wl ll; have e2' := e2 wl ll
        by_cases hs : (qn : Int) = s
        · have hs' : ((qn : Int) == s) = true := by simp [hs]
          have HS := Lib.hid hs; clear hs
          have hLj2 : d + 1 < (L ++ [[]]).length := by have := HDD.out; simp; omega
          have HST : Hid (trayTo s (xs.take (k' + 1 + 1)) = (L ++ [[]]).set (d + 1) ((L ++ [[]])[d + 1] ++ [x])) := by show _ = _; rw [HSTEP.out, putT_new (.inr ⟨d, hLj, HDD.out, by rw [HQN.out]; exact HS.out⟩), last_set HDD.out]
          go_wp2
          go_quiet (fail)
          clear HUU hcG hGlt
          have hLj := hLj2
          try clear hvd
          try clear hvl
          try clear hd
          obtain ⟨wq, hwq⟩ : ∃ u, u = wl.drewN nq := ⟨_, rfl⟩
          have lq := later_drewN ll nq
          have bq := later_drewN lwl nq
          rw [← hwq] at lq bq ⊢
          clear hwq
          have HBq := Lib.hid (HB4.out.below bq)
          have hsq : w.heap.size ≤ wq.heap.size := lq.size
          have hz1' : (wq.alloc (Obj.cells #[] 49)).heap.size = wq.heap.size + 1 := by simp
          have OR1 : Hid (own (α := Ltr) 49 wq.heap.size (wq.alloc (Obj.cells #[] 49)) (.slice (some ⟨wq.heap.size, 0, none⟩) 0 0) []) := own.made0 wq _ (Nat.le_refl _)
          have HF1 : Hid (farLL (.slice (some ⟨wq.heap.size, 0, none⟩) 0 0) (.slice (some ⟨G, 0, none⟩) (d + 1) cO) vs) := ⟨apart_gt OR1.out HBq.out.1 (Nat.le_refl _), fun i hi => apart_gt OR1.out (HBq.out.2.2.1 i hi (by have := HBq.out.2.1; omega)) (Nat.le_refl _)⟩
          have bw1 : Below wq.heap.size wq (wq.alloc (Obj.cells #[] 49)) := later_alloc (Below.refl _ _) _
          have HBr := Lib.hid (HBq.out.below bw1)
          have hnews : ∀ j u, [(.slice (some ⟨wq.heap.size, 0, none⟩) 0 0 : Value)][j]? = some u → ((wq.alloc (Obj.cells #[] 49)).alloc (Obj.cells #[.slice (some ⟨wq.heap.size, 0, none⟩) 0 0] 29)).cell? ((⟨wq.heap.size + 1, 0, none⟩ : Addr).add j) = some u := by
            rw [← hz1']; exact news_at (wq.alloc (Obj.cells #[] 49)) _ [.slice (some ⟨wq.heap.size, 0, none⟩) 0 0]
          clear hz1' bw1
          go_wp2_with (at_builtin; refine wpList_append1' (α := Value) rfl (.tmp 49) (.tmp 51) 51 rfl w.heap.size 29 i0 _ 24 Try.underlying51 hi hzz hz1 hz2 rfl (by decide) (.slice (some ⟨G, 0, none⟩) (d + 1) cO) vs (.slice (some ⟨wq.heap.size, 0, none⟩) 0 0) rfl (HBr.out.1.alloc _) ⟨wq.heap.size + 1, 0, none⟩ 1 [.slice (some ⟨wq.heap.size, 0, none⟩) 0 0] rfl ⟨rfl, rfl⟩ hnews (by unfold maxLen; omega) (by omega) (by simp; omega) ?_; intro gn cap wn hon hgn han hln)
          have ln : Below w.heap.size w wn := (later_alloc (later_alloc lq (Obj.cells #[] 49)) (Obj.cells #[.slice (some ⟨wq.heap.size, 0, none⟩) 0 0] 29)).grown hgn (by simp; omega) fun q hq => (HBq.out.1.blk q hq).1
          have HB6 := Lib.hid (isLL.snoc (HBr.out.below (later_alloc (Below.refl _ _) (Obj.cells #[.slice (some ⟨wq.heap.size, 0, none⟩) 0 0] 29))) ((OR1.out.base_ hsq).alloc (Obj.cells #[.slice (some ⟨wq.heap.size, 0, none⟩) 0 0] 29)) HF1.out hon hgn han)
          clear HBq HBr HF1 OR1
          have hn3 : (vs ++ [Value.slice (some ⟨wq.heap.size, 0, none⟩) 0 0]).length = vs.length + 1 := by simp
          have hn2' : vs.length + 1 ≤ 61 := by omega
          have hpos : 0 < vs.length + 1 := Nat.succ_pos _
          have HB7 := HB6
          clear HB6 HROW
          have HROW := HROW2
          clear HROW2
          generalize L ++ [[]] = L2 at *
          generalize vs ++ [Value.slice (some ⟨wq.heap.size, 0, none⟩) 0 0] = vs2 at *
          generalize vs.length + 1 = n2 at *
          obtain ⟨G2, hG⟩ : ∃ z, z = gn := ⟨_, rfl⟩
          rw [← hG] at HB7
          rw [← hG]
          clear hG
          obtain ⟨G, hGG⟩ : ∃ z, z = G2 := ⟨_, rfl⟩
          rw [← hGG] at HB7
          rw [← hGG]
          clear hGG
          obtain ⟨hlv, hov, hgv⟩ : ∃ hlv : (d + 1) < vs2.length, own 49 w.heap.size wn vs2[(d + 1)] L2[(d + 1)] ∧ apart vs2[(d + 1)] (.slice (some ⟨G, 0, none⟩) n2 cap) := by
            obtain ⟨z1, z2, z3, z4, z5⟩ := HB7.out
            exact ⟨by omega, z3 (d + 1) (by omega) hLj, z5 (d + 1) (by omega)⟩
          have hcG : wn.cell? ⟨G, (d + 1), none⟩ = some vs2[(d + 1)] := own_cellv HB7.out.1 (d + 1) hlv
          have hfG : wn.frozen? ⟨G, (d + 1), none⟩ = false := HB7.out.1.freeAt (d + 1)
          have hql : L2[(d + 1)].length ≤ 60 := HROW.out (d + 1) hLj
          obtain ⟨qs, hqs⟩ : ∃ qs, qs = L2[(d + 1)] := ⟨_, rfl⟩
          have HQS := Lib.hid hqs
          rw [← hqs] at hov hql
          clear hqs
          obtain ⟨u, hu⟩ : ∃ u, u = vs2[(d + 1)] := ⟨_, rfl⟩
          have HUU := Lib.hid hu
          rw [← hu] at hov hgv hcG
          clear hu
          obtain ⟨Au, mu, cu, rfl, hmu, _, _, _⟩ := hov.rd
          subst hmu
          have HOV := Lib.hid hov; clear hov
          have HGV := Lib.hid hgv; clear hgv
          have hGs : some G ≠ (Value.slice Au qs.length cu).ownBlock := by
            have h := HGV.out
            unfold apart at h
            rcases h with h | h
            · rw [h]; simp
            · exact fun e => h e.symm
          have HGS := Lib.hid hGs; clear hGs
          have hGlt : G < wn.heap.size := (HB7.out.1.blk G rfl).2
          have hG0 : w.heap.size ≤ G := (HB7.out.1.blk G rfl).1
          go_wp2
          go_region_law (first | ((refine step_append1 (α := Ltr) (by rfl) (.tmp 60) (.tmp 65) 29 (by rfl) w.heap.size 49 i1 _ 24 Try.underlying29 ji jz0 jz1 jz2 rfl (by decide) (.slice Au qs.length cu) qs x (by rfl) ((HOV.out.alloc _).drew) ⟨wn.heap.size, 0, none⟩ 1 (Ltr.cells x) (by rfl) ⟨⟨hxi, hxc⟩, rfl⟩ (news_drew wn _ (Ltr.cells x)) (by unfold maxLen; omega) (by omega) (by simp; omega) ?_; intro g cap w5 ho5 hg5 ha5 hl5; have hcG5 : w5.cell? ⟨G, (d + 1), none⟩ = some (.slice Au qs.length cu) := (hg5.cell_far ⟨G, (d + 1), none⟩ (by simp; omega) HGS.out).trans (by go_simp); have hfG5 : w5.frozen? ⟨G, (d + 1), none⟩ = false := (hg5.frozen_far ⟨G, (d + 1), none⟩ (by simp; omega) HGS.out).trans (by go_simp))))
          all_goals
            have hWD : Below wn.heap.size wn (wn.alloc (Obj.cells #[Value.int IntKind.i64 x.id, Value.string x.code] 49)).drew := later_drew (later_alloc (Below.refl _ _) _)
            obtain ⟨p1, _, _⟩ := place_step (o := .slice none 0 0) (rest := []) HB7.out (own.nil_ _ _ _) ⟨.inl rfl, fun k hk => .inl rfl⟩ hWD hlv hLj HUU.out HQS.out ho5 hg5 ha5
            have p4 := place_later (G := G) (d := d + 1) (g := g) (m := qs.length + 1) (cap := cap) (later_drew (later_alloc ln (Obj.cells #[Value.int IntKind.i64 x.id, Value.string x.code] 49))) hg5 (fun j hj => (HOV.out.blk j hj).1) hG0
            have P1 := Lib.hid p1
            clear p1 hWD
            go_wp2
            go_roundw
            case rel => exact ⟨k' + 1 + 1, _, by omega, by go_num, p4, by rw [HST.out]; exact P1.out⟩
            case measure => simp [intOf]; omega
        · have hs' : ((qn : Int) == s) = false := by simp [hs]
          have HS := Lib.hid hs; clear hs
          have HST : Hid (trayTo s (xs.take (k' + 1 + 1)) = L.set d (L[d] ++ [x])) := by show _ = _; rw [HSTEP.out, putT_old hLj HDD.out (by rw [HQN.out]; exact HS.out)]
          go_wp2
          go_quiet (fail)
          clear HUU hcG hGlt
          try clear hvd
          try clear hvl
          try clear hd
          obtain ⟨wq, hwq⟩ : ∃ u, u = wl.drewN nq := ⟨_, rfl⟩
          have lq := later_drewN ll nq
          have bq := later_drewN lwl nq
          rw [← hwq] at lq bq ⊢
          clear hwq
          have HBq := Lib.hid (HB4.out.below bq)
          have hsq : w.heap.size ≤ wq.heap.size := lq.size
          obtain ⟨hlv, hov, hgv⟩ : ∃ hlv : d < vs.length, own 49 w.heap.size wq vs[d] L[d] ∧ apart vs[d] (.slice (some ⟨G, 0, none⟩) (d + 1) cO) := by
            obtain ⟨z1, z2, z3, z4, z5⟩ := HBq.out
            exact ⟨by omega, z3 d (by omega) hLj, z5 d (by omega)⟩
          have hcG : wq.cell? ⟨G, d, none⟩ = some vs[d] := own_cellv HBq.out.1 d hlv
          have hfG : wq.frozen? ⟨G, d, none⟩ = false := HBq.out.1.freeAt d
          have hql : L[d].length ≤ 60 := HROW.out d hLj
          obtain ⟨qs, hqs⟩ : ∃ qs, qs = L[d] := ⟨_, rfl⟩
          have HQS := Lib.hid hqs
          rw [← hqs] at hov hql
          clear hqs
          obtain ⟨u, hu⟩ : ∃ u, u = vs[d] := ⟨_, rfl⟩
          have HUU := Lib.hid hu
          rw [← hu] at hov hgv hcG
          clear hu
          obtain ⟨Au, mu, cu, rfl, hmu, _, _, _⟩ := hov.rd
          subst hmu
          have HOV := Lib.hid hov; clear hov
          have HGV := Lib.hid hgv; clear hgv
          have hGs : some G ≠ (Value.slice Au qs.length cu).ownBlock := by
            have h := HGV.out
            unfold apart at h
            rcases h with h | h
            · rw [h]; simp
            · exact fun e => h e.symm
          have HGS := Lib.hid hGs; clear hGs
          have hGlt : G < wq.heap.size := (HBq.out.1.blk G rfl).2
          have hG0 : w.heap.size ≤ G := (HBq.out.1.blk G rfl).1
          go_wp2
          go_region_law (first | ((refine step_append1 (α := Ltr) (by rfl) (.tmp 60) (.tmp 65) 29 (by rfl) w.heap.size 49 i1 _ 24 Try.underlying29 ji jz0 jz1 jz2 rfl (by decide) (.slice Au qs.length cu) qs x (by rfl) ((HOV.out.alloc _).drew) ⟨wq.heap.size, 0, none⟩ 1 (Ltr.cells x) (by rfl) ⟨⟨hxi, hxc⟩, rfl⟩ (news_drew wq _ (Ltr.cells x)) (by unfold maxLen; omega) (by omega) (by simp; omega) ?_; intro g cap w5 ho5 hg5 ha5 hl5; have hcG5 : w5.cell? ⟨G, d, none⟩ = some (.slice Au qs.length cu) := (hg5.cell_far ⟨G, d, none⟩ (by simp; omega) HGS.out).trans (by go_simp); have hfG5 : w5.frozen? ⟨G, d, none⟩ = false := (hg5.frozen_far ⟨G, d, none⟩ (by simp; omega) HGS.out).trans (by go_simp))))
          all_goals
            have hWD : Below wq.heap.size wq (wq.alloc (Obj.cells #[Value.int IntKind.i64 x.id, Value.string x.code] 49)).drew := later_drew (later_alloc (Below.refl _ _) _)
            obtain ⟨p1, _, _⟩ := place_step (o := .slice none 0 0) (rest := []) HBq.out (own.nil_ _ _ _) ⟨.inl rfl, fun k hk => .inl rfl⟩ hWD hlv hLj HUU.out HQS.out ho5 hg5 ha5
            have p4 := place_later (G := G) (d := d) (g := g) (m := qs.length + 1) (cap := cap) (later_drew (later_alloc lq (Obj.cells #[Value.int IntKind.i64 x.id, Value.string x.code] 49))) hg5 (fun j hj => (HOV.out.blk j hj).1) hG0
            have P1 := Lib.hid p1
            clear p1 hWD
            go_wp2
            go_roundw
            case rel => exact ⟨k' + 1 + 1, _, by omega, by go_num, p4, by rw [HST.out]; exact P1.out⟩
            case measure => simp [intOf]; omega
    · have HE := Lib.hid (show k = xs.length by omega)
      go_wp2
      go_ret
      rw [HE.out, List.take_length] at hB
      exact ⟨_, rfl, ⟨vs, hB⟩, lr⟩

end Go.Proofs.Ytnlljekijlkigaa
