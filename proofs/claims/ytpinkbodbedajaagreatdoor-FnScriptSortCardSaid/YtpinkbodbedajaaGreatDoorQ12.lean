/- UR UR2 BN B11 B12 B13 B14 DT NT D1 NG JA JB D2 DP DQ GR NU NH NI -/
import Derived.Test.YtpinkbodbedajaaGreatDoorQ11
import Derived.Test.YtpinkbodbedajaaGreatDoorQ9
import Derived.Test.YtpinkbodbedajaaGreatDoorQ2
import Derived.Test.YtpinkbodbedajaaGreatDoorQ7
import Derived.Test.YtpinkbodbedajaaGreatDoorQ1
import Derived.Laws.IdiomStrings
import Derived.Deep.RegionHeld3
import Derived.Test.YtpinkbodbedajaaGreatDoorQ5
namespace Go.Proofs.YtpinkbodbedajaaGreatDoor
open Go.RowKit


theorem seg.grown {α : Type} [Flat α] {T lo hi : Nat} {w w' : World} {v : Value} {xs : List α} {row : Option Nat} (h : seg T lo hi w v xs) (hg : w.grownBy w' row) (hv : v.ownBlock = none ∨ v.ownBlock ≠ row) : seg T lo hi w' v xs := ⟨h.1.grown hg hv, h.2⟩


/-! ### Marks of a day -/
def segD (T1 T2 lo hi : Nat) (w : World) (v : Value) (d : Dy) : Prop :=
  ∃ vo vf vh, v = .agg #[.int .i64 d.plan.bins, .int .i64 d.plan.passes, vo, vf, vh, .int .i64 d.size] ∧ isI64 d.plan.bins ∧ isI64 d.plan.passes ∧ isI64 d.size ∧ seg T1 lo hi w vo d.plan.order ∧ seg T2 lo hi w vf d.fwds ∧ seg T1 lo hi w vh d.held ∧ (apart vo vf ∧ apart vo vh ∧ apart vf vh)
theorem segD.of {T1 T2 lo : Nat} {w : World} {v : Value} {d : Dy} (h : ownD T1 T2 lo w v d) : segD T1 T2 lo w.heap.size w v d := by
  obtain ⟨vo, vf, vh, h1, h2, h3, h4, h5, h6, h7, h8⟩ := h
  exact ⟨vo, vf, vh, h1, h2, h3, h4, seg.of h5, seg.of h6, seg.of h7, h8⟩
theorem segD.below {T1 T2 lo hi : Nat} {w w' : World} {v : Value} {d : Dy} (h : segD T1 T2 lo hi w v d) (hb : Below w.heap.size w w') : segD T1 T2 lo hi w' v d := by
  obtain ⟨vo, vf, vh, h1, h2, h3, h4, h5, h6, h7, h8⟩ := h
  exact ⟨vo, vf, vh, h1, h2, h3, h4, h5.below hb, h6.below hb, h7.below hb, h8⟩
theorem segD.out {T1 T2 lo hi a b : Nat} {w w' : World} {v : Value} {d : Dy} (h : segD T1 T2 lo hi w v d) (ho : OutI a b w w') (hd : hi ≤ a ∨ b ≤ lo) : segD T1 T2 lo hi w' v d := by
  obtain ⟨vo, vf, vh, h1, h2, h3, h4, h5, h6, h7, h8⟩ := h
  exact ⟨vo, vf, vh, h1, h2, h3, h4, h5.out ho hd, h6.out ho hd, h7.out ho hd, h8⟩
theorem segD.rd {T1 T2 lo hi : Nat} {w : World} {v : Value} {d : Dy} (h : segD T1 T2 lo hi w v d) : rdD w w.heap.size v d := by
  obtain ⟨vo, vf, vh, h1, h2, h3, h4, h5, h6, h7, h8⟩ := h
  exact ⟨vo, vf, vh, h1, h2, h3, h4, h5.rd, h6.rd, h7.rd⟩

end Go.Proofs.YtpinkbodbedajaaGreatDoor

namespace Go.Proofs.YtpinkbodbedajaaGreatDoor
open Go.RowKit
end Go.Proofs.YtpinkbodbedajaaGreatDoor

namespace Go.Proofs.YtpinkbodbedajaaGreatDoor
open Go.RowKit

/-! ### The missort of a letter: the first one is the last one. -/
/-! ### Valid batches -/
theorem okB_pw {xs : List Ltr} : okB xs = true ↔ xs.length ≤ 60 ∧ (∀ x ∈ xs, 1 ≤ x.id ∧ x.id ≤ 9999 ∧ isCode x.code = true) ∧ xs.Pairwise fun x y => x.id ≠ y.id := by
  rw [okB_iff, List.pairwise_iff_getElem]
  constructor
  · rintro ⟨h1, h2⟩
    refine ⟨h1, fun x hx => ?_, fun i j hi hj hij => (h2 j hj).2.2.2 i hij⟩
    obtain ⟨k, hk, rfl⟩ := List.getElem_of_mem hx
    exact ⟨(h2 k hk).1, (h2 k hk).2.1, (h2 k hk).2.2.1⟩
  · rintro ⟨h1, h2, h3⟩
    exact ⟨h1, fun k hk => ⟨(h2 _ (List.getElem_mem hk)).1, (h2 _ (List.getElem_mem hk)).2.1, (h2 _ (List.getElem_mem hk)).2.2, fun j hj => h3 j k (by omega) hk hj⟩⟩
theorem pw_inj {xs : List Ltr} (h : xs.Pairwise fun x y => x.id ≠ y.id) : ∀ x ∈ xs, ∀ y ∈ xs, x.id = y.id → x = y := by
  intro x hx y hy e
  obtain ⟨i, hi, rfl⟩ := List.getElem_of_mem hx
  obtain ⟨j, hj, rfl⟩ := List.getElem_of_mem hy
  rw [List.pairwise_iff_getElem] at h
  rcases Nat.lt_trichotomy i j with h1 | h1 | h1
  · exact absurd e (h i j hi hj h1)
  · subst h1; rfl
  · exact absurd e.symm (h j i hj hi h1)
/-- Rows that a function on letters tells apart. -/
theorem okB_rows {xs : List Ltr} {xss : List (List Ltr)} (f : Ltr → Int) (h : okB xs = true) (hl : xss.flatten.length ≤ xs.length) (hm : ∀ ys ∈ xss, ∀ x ∈ ys, x ∈ xs) (hp : ∀ ys ∈ xss, ys.Pairwise fun x y => x.id ≠ y.id)
    (hf : ∀ k (hk : k < xss.length), ∀ x ∈ xss[k], f x = (k : Int)) : okB xss.flatten = true := by
  obtain ⟨h1, h2, h3⟩ := okB_pw.1 h
  refine okB_pw.2 ⟨by omega, fun x hx => ?_, ?_⟩
  · obtain ⟨ys, hys, hxy⟩ := List.mem_flatten.1 hx
    exact h2 x (hm ys hys x hxy)
  · rw [List.pairwise_flatten]
    refine ⟨hp, ?_⟩
    rw [List.pairwise_iff_getElem]
    intro i j hi hj hij x hx y hy e
    have := pw_inj h3 x (hm _ (List.getElem_mem hi) x hx) y (hm _ (List.getElem_mem hj) y hy) e
    subst this
    have h4 := hf i hi x hx
    have h5 := hf j hj x hy
    omega
theorem okB_binsOf {xs : List Ltr} (f : Ltr → Int) (n : Nat) (h : okB xs = true) : okB (binsOf f n xs).flatten = true := by
  refine okB_rows f h (flatten_length_binsOf xs) (fun ys hys x hx => ?_) (fun ys hys => ?_) (fun k hk x hx => ?_)
  · obtain ⟨k, hk, rfl⟩ := List.getElem_of_mem hys
    rw [binsOf_get] at hx
    exact (List.mem_filter.1 hx).1
  · obtain ⟨k, hk, rfl⟩ := List.getElem_of_mem hys
    rw [binsOf_get]
    exact (okB_pw.1 h).2.2.filter _
  · rw [binsOf_get] at hx
    simpa using (List.mem_filter.1 hx).2
theorem okB_passesN (p : Pln) : ∀ (n k : Nat) (xs : List Ltr), okB xs = true → okB (passesN p k n xs) = true
  | 0, _, _, h => h
  | n + 1, k, xs, h => okB_passesN p n (k + 1) _ (okB_binsOf _ _ h)

/-! ### Repaired bins -/
/-! ### What the functions give -/
end Go.Proofs.YtpinkbodbedajaaGreatDoor

namespace Go.Proofs.YtpinkbodbedajaaGreatDoor
open Go.RowKit




end Go.Proofs.YtpinkbodbedajaaGreatDoor

namespace Go.Proofs.YtpinkbodbedajaaGreatDoor
open Go.RowKit

/-- A row of rows that grows by one row. -/
theorem isLL.snoc {α : Type} [Flat α] {T1 T2 base g m cap : Nat} {w w1 : World} {v u : Value} {vs : List Value} {xss : List (List α)} {ys : List α}
    (h : isLL T1 T2 base w v xss vs) (ho : own T2 base w u ys) (hf : farLL u v vs) (hn : own T1 base w1 (.slice (some ⟨g, 0, none⟩) m cap) (vs ++ [u])) (hg : w.grownBy w1 v.ownBlock) (ha : some g = v.ownBlock ∨ g = w.heap.size) :
    isLL T1 T2 base w1 (.slice (some ⟨g, 0, none⟩) m cap) (xss ++ [ys]) (vs ++ [u]) := by
  obtain ⟨h1, h2, h3, h4, h5⟩ := h
  have hfu : ∀ k (hk : k < (vs ++ [u]).length), apart (vs ++ [u])[k] v := fun k hk => by
    by_cases hkv : k < vs.length
    · rw [List.getElem_append_left hkv]; exact h5 k hkv
    · rw [List.getElem_append_right (by omega)]
      have : k - vs.length = 0 := by simp at hk; omega
      simp only [this, List.getElem_cons_zero]; exact hf.1
  have hlt : ∀ k (hk : k < (vs ++ [u]).length) j, (vs ++ [u])[k].ownBlock = some j → j < w.heap.size := fun k hk j => by
    by_cases hkv : k < vs.length
    · rw [List.getElem_append_left hkv]; exact fun e => ((h3 k hkv (by omega)).blk j e).2
    · rw [List.getElem_append_right (by omega)]
      have : k - vs.length = 0 := by simp at hk; omega
      simp only [this, List.getElem_cons_zero]; exact fun e => (ho.blk j e).2
  refine ⟨hn, by simp [h2], fun k hk hk' => ?_, fun j k hj hk hne => ?_, fun k hk => ?_⟩
  · by_cases hkv : k < vs.length
    · rw [List.getElem_append_left hkv, List.getElem_append_left (by omega)]
      exact (h3 k hkv (by omega)).grown hg (h5 k hkv)
    · have e1 : k - vs.length = 0 := by simp at hk; omega
      have e2 : k - xss.length = 0 := by omega
      rw [List.getElem_append_right (by omega), List.getElem_append_right (by omega)]
      simp only [e1, e2, List.getElem_cons_zero]
      exact ho.grown hg hf.1
  · by_cases hjv : j < vs.length
    · by_cases hkv : k < vs.length
      · rw [List.getElem_append_left hjv, List.getElem_append_left hkv]; exact h4 j k hjv hkv hne
      · have e1 : k - vs.length = 0 := by simp at hk; omega
        rw [List.getElem_append_left hjv, List.getElem_append_right (by omega)]
        simp only [e1, List.getElem_cons_zero]; exact apart_symm (hf.2 j hjv)
    · have e1 : j - vs.length = 0 := by simp at hj; omega
      by_cases hkv : k < vs.length
      · rw [List.getElem_append_right (by omega), List.getElem_append_left hkv]
        simp only [e1, List.getElem_cons_zero]; exact hf.2 k hkv
      · exfalso; simp at hj hk; omega
  · exact apart_symm (apart_app (apart_symm (hfu k hk)) ha fun j hj => hlt k hk j hj)




end Go.Proofs.YtpinkbodbedajaaGreatDoor

namespace Go.Proofs.YtpinkbodbedajaaGreatDoor
open Go.RowKit

theorem rd.rows {α : Type} [El α] {w : World} {B n c : Nat} {A : Option Addr} {xs : List α} (h : rd w B (.slice A n c) xs) : rdA w B A xs := by
  obtain ⟨A', n', c', h1, _, _, _, hr⟩ := h
  injection h1 with h1 h2 h3
  subst h1
  exact hr


end Go.Proofs.YtpinkbodbedajaaGreatDoor

namespace Go.Proofs.YtpinkbodbedajaaGreatDoor
open Go.RowKit


end Go.Proofs.YtpinkbodbedajaaGreatDoor

namespace Go.Proofs.YtpinkbodbedajaaGreatDoor
open Go.RowKit

/-! ### Plain facts -/
theorem own.made1 {α : Type} [Flat α] (w : World) (T : TypeId) (cs : List Value) (x : α) {base : Nat} (hel : El.el w w.heap.size x cs) (hb : base ≤ w.heap.size) : own T base (w.alloc (.cells cs.toArray T)) (.slice (some ⟨w.heap.size, 0, none⟩) 1 1) [x] := by
  refine ⟨[cs], ⟨by simp [El.len hel], .inr ⟨w.heap.size, 1, cs.toArray, rfl, hb, heap_alloc_new w _, Nat.le_refl _, by unfold maxLen; omega, by simp [El.len hel], ?_⟩⟩, rfl, fun k h1 h2 => ?_⟩
  · show List.take (1 * El.size α) _ = _
    rw [Nat.one_mul, ← El.len hel]; simp
  · have hk : k = 0 := by simp at h1; omega
    subst hk
    exact Flat.free hel


end Go.Proofs.YtpinkbodbedajaaGreatDoor

namespace Go.Proofs.YtpinkbodbedajaaGreatDoor
open Go.RowKit




end Go.Proofs.YtpinkbodbedajaaGreatDoor

namespace Go.Proofs.YtpinkbodbedajaaGreatDoor
open Go.RowKit

theorem list_own (T base : Nat) (w : World) (xs : List Int) (hx : ∀ x ∈ xs, isI64 x) (hm : xs.length ≤ maxLen) (hb : base ≤ w.heap.size) :
    own T base (w.alloc (.cells (xs.map (Value.int .i64)).toArray T)) (.slice (some ⟨w.heap.size, 0, none⟩) xs.length xs.length) xs := by
  have h1 : (xs.map fun x => [Value.int .i64 x]).flatten = xs.map (Value.int .i64) := by
    clear hm hx
    induction xs with
    | nil => rfl
    | cons x xs ih => simp [ih]
  refine ⟨xs.map fun x => [Value.int .i64 x], ⟨?_, .inr ⟨w.heap.size, xs.length, _, rfl, hb, heap_alloc_new w _, Nat.le_refl _, hm, by simp [El.size], ?_⟩⟩, by simp, fun k hk hk' => ?_⟩
  · rw [h1]
    simp [El.size]
  · rw [h1]
    simp only [El.size, Nat.mul_one]
    exact List.take_of_length_le (by simp)
  · simp only [List.getElem_map]
    exact ⟨hx _ (List.getElem_mem hk), rfl⟩

theorem rd_open (v : Value) (bs : List UInt8) (w : World) (hv : rd w w.heap.size v bs) :
    Calls Tryz.prog 42 #[v] w fun e w' => ∃ g, e = .returned (.pointer (some ⟨g, 0, none⟩)) ∧ w.heap.size ≤ g ∧ rdr w' g 0 ∧ Below w.heap.size w w' := by
  obtain ⟨A, n, c, rfl, hn, hc, hm, hr⟩ := hv
  subst hn
  have HM := hm
  unfold maxLen at hm
  have HR := Lib.hid hr; clear hr
  have HMM := Lib.hid HM; clear HM
  go_enter Tryz.func42, Tryz.ntmps42
  by_cases h : 2000 < bs.length
  · have HH : Hid (rdr (w.alloc (Obj.cells #[Value.slice A 2000 c, Value.int IntKind.i64 0] 140)) w.heap.size 0) :=
      ⟨A, 2000, c, bs.take 2000, heap_alloc_new w _, by simp; omega, Nat.le_refl _, by omega, HMM.out, (HR.out.take 2000).keep fun p hp => World.cell?_alloc_lt w _ p hp⟩
    go_wp2
    go_ret
    exact ⟨w.heap.size, rfl, Nat.le_refl _, HH.out, (Below.refl _ _).alloc (Nat.le_refl _) _⟩
  · have HH : Hid (rdr (w.alloc (Obj.cells #[Value.slice A bs.length c, Value.int IntKind.i64 0] 140)) w.heap.size 0) :=
      ⟨A, bs.length, c, bs, heap_alloc_new w _, rfl, by omega, hc, HMM.out, HR.out.keep fun p hp => World.cell?_alloc_lt w _ p hp⟩
    go_wp2
    go_ret
    exact ⟨w.heap.size, rfl, Nat.le_refl _, HH.out, (Below.refl _ _).alloc (Nat.le_refl _) _⟩

set_option maxHeartbeats 400000 in
theorem rd_num (T g p : Nat) (v : Value) (xs : List Int) (w : World) (hr : rdr w g p) (hp : p ≤ 1099511627776) (hv : own T (g + 1) w v xs) (h0 : 0 < xs.length) :
    Calls Tryz.prog 103 #[.pointer (some ⟨g, 0, none⟩), v] w fun e w' => ∃ x ∈ xs, e = .returned (.int .i64 x) ∧ rdr w' g (p + 1) ∧ w.grownBy w' (some g) := by
  have hlen : xs.length ≤ maxLen := by
    obtain ⟨A, n, c, _, hn, hc, hm, _⟩ := hv.rd
    omega
  have hne : v.ownBlock = none ∨ v.ownBlock ≠ some g := by
    cases hb : v.ownBlock with
    | none => exact .inl rfl
    | some k => exact .inr fun e => by have := (hv.blk k hb).1; injection e; omega
  have HV := Lib.hid (fun (W : World) (hg : w.grownBy W (some g)) => (hv.grown hg hne).rd)
  obtain ⟨A, n, c, rfl, hn, hc, hm, _⟩ := hv.rd
  subst hn
  unfold maxLen at hm
  clear hne hv
  go_enter Tryz.func103, Tryz.ntmps103
  go_wp2_with fail
  refine (rd_pick g p _ w hr hp ⟨by omega, by omega⟩).mono ?_
  rintro e w1 ⟨x, rfl, hx, hr1, hg⟩
  obtain ⟨x0, x1⟩ := hx.2 (by omega)
  obtain ⟨q, rfl⟩ := Int.eq_ofNat_of_zero_le x0
  obtain ⟨A', n', c', e1, _, _, _, hrd⟩ := HV.out w1 hg
  injection e1 with e1 e2 e3
  subst e1
  obtain ⟨b, o, rfl, hb, hi, c1⟩ := hrd.int q (by omega)
  have hmem : xs[q]'(by omega) ∈ xs := List.getElem_mem _
  generalize xs[q] = y at *
  have HM := Lib.hid hmem; clear hmem hx e2 e3
  go_wp2
  go_ret
  exact ⟨y, HM.out, rfl, hr1, hg⟩

/-- The decimal text of a number that is not negative. -/
def decL (n : Nat) : List UInt8 := if n = 0 then [48] else dec10 n
def decB (n : Nat) : ByteArray := ⟨(decL n).toArray⟩
theorem dec10_small {m : Nat} (h0 : 0 < m) (h : m ≤ 9) : dec10 m = [b8 (48 + m)] := by
  rw [dec10_step h0, show m / 10 = 0 by omega, show m % 10 = m by omega, show dec10 0 = [] by rw [dec10]]
  unfold b8
  rw [show (48 + (m : Int)).toNat = 48 + m by omega]
  rfl

set_option maxHeartbeats 400000 in
theorem spec_l9Dec (n : Nat) (w : World) (hn : n ≤ 9223372036854775807) :
    Calls Tryz.prog 142 #[.int .i64 n] w fun e w' => e = .returned (.string (decB n)) ∧ Below w.heap.size w w' := by
  have hbs := byteString
  have h0 : (0 : Int) ≤ (n : Int) := by omega
  go_enter Tryz.func142, Tryz.ntmps142
  go_wp2
  go_loopw [0, 3] (fun t s wr => ∃ (m : Nat) (u : ByteArray), m ≤ n ∧ t = .int .i64 m ∧ s = .string u ∧ u.size ≤ 20 ∧ Hid (n = 0 ∧ m = 0 ∧ u = ⟨#[]⟩ ∨ 0 < m ∧ dec10 n = dec10 m ++ u.data.toList) ∧ Hid (m * 10 ^ u.size ≤ n) ∧ Below w.heap.size w wr) (fun t _ _ => (intOf t).toNat)
  case atStart =>
    refine ⟨n, _, Nat.le_refl _, rfl, rfl, Nat.zero_le _, ?_, (by show n * 10 ^ 0 ≤ n; omega), Below.refl _ _⟩
    by_cases h : n = 0
    · exact .inl ⟨h, h, rfl⟩
    · exact .inr ⟨by omega, by simp⟩
  case round =>
    obtain ⟨m, u, hm, rfl, rfl, hu, HD, HP, hbl⟩ := hrel
    obtain ⟨w1, rfl⟩ : ∃ w1 : World, w1 = wr := ⟨_, rfl⟩
    by_cases h9 : 9 < m
    · have hu19 : u.size ≤ 19 := by
        apply Classical.byContradiction
        intro hc
        have h1 := HP.out
        have h2 : 10 ^ 20 ≤ 10 ^ u.size := Nat.pow_le_pow_right (by omega) (by omega)
        have h3 : 10 * 10 ^ 20 ≤ m * 10 ^ u.size := Nat.mul_le_mul (by omega) h2
        omega
      go_wp2
      go_roundw
      case rel =>
        refine ⟨m / 10, _, by omega, by go_num, rfl, by rw [ByteArray.size_append]; show 1 + _ ≤ 20; omega, .inr ⟨by omega, ?_⟩, ?_, hbl.alloc hbl.size _⟩
        · rcases HD.out with ⟨_, h, _⟩ | ⟨_, h⟩
          · omega
          · rw [h, ba_append, dec10_step (n := m) (by omega), List.append_assoc]
            show _ = dec10 (m / 10) ++ ([b8 (48 + (m : Int) % 10)] ++ _)
            unfold b8
            rw [show (48 + (m : Int) % 10).toNat = 48 + m % 10 by omega]
        · show _ ≤ _
          have h1 := HP.out
          have h2 : (m / 10) * 10 ≤ m := Nat.div_mul_le_self _ _
          rw [ByteArray.size_append, show (ByteArray.mk #[b8 (48 + (m : Int) % 10)]).size = 1 from rfl, Nat.pow_add, Nat.pow_one, ← Nat.mul_assoc]
          exact Nat.le_trans (Nat.mul_le_mul_right _ h2) h1
      case measure => simp [intOf]; omega
    · go_wp2
      go_ret
      refine ⟨ret_str ?_, hbl.alloc hbl.size _⟩
      apply ba_ext
      rw [ba_append]
      rcases HD.out with ⟨h1, h2, h3⟩ | ⟨h1, h2⟩
      · subst h1 h2 h3
        rfl
      · show _ = decL n
        unfold decL
        rw [if_neg (by omega), h2, dec10_small h1 (by omega)]

/-- The last k decimal digits of a number. -/
def showL : Nat → Nat → List UInt8
  | _, 0 => []
  | n, k + 1 => showL (n / 10) k ++ [b8 (48 + (n : Int) % 10)]
def showB (n k : Nat) : ByteArray := ⟨(showL n k).toArray⟩
theorem showL_len : ∀ (k n : Nat), (showL n k).length = k
  | 0, _ => rfl
  | k + 1, n => by rw [showL, List.length_append, showL_len k]; rfl
theorem showB_size (n k : Nat) : (showB n k).size = k := by
  show (showL n k).toArray.size = k
  rw [List.size_toArray, showL_len]

set_option maxHeartbeats 400000 in
theorem spec_l1Show (n k : Nat) (w : World) (hn : n ≤ 9223372036854775807) (hk : k ≤ 60) :
    Calls Tryz.prog 74 #[.int .i64 n, .int .i64 k] w fun e w' => e = .returned (.string (showB n k)) ∧ Below w.heap.size w w' := by
  go_enter Tryz.func74, Tryz.ntmps74
  go_wp2_with fail
  go_loopw [0, 5, 6] (fun t s i wr => ∃ (m j : Nat) (u : ByteArray), m ≤ n ∧ j ≤ k ∧ t = .int .i64 m ∧ s = .string u ∧ i = .int .i64 j ∧ u.size ≤ j ∧ Hid (showL n k = showL m (k - j) ++ u.data.toList) ∧ Below w.heap.size w wr) (fun _ _ i _ => k - (intOf i).toNat)
  case atStart => exact ⟨n, 0, _, Nat.le_refl _, Nat.zero_le _, rfl, rfl, rfl, Nat.le_refl _, by show _ = _; simp, Below.refl _ _⟩
  case round =>
    obtain ⟨m, j, u, hm, hj, rfl, rfl, rfl, hu, HD, hbl⟩ := hrel
    obtain ⟨w1, rfl⟩ : ∃ w1 : World, w1 = wr := ⟨_, rfl⟩
    by_cases hlt : j < k
    · go_wp2_with fail
      refine (spec_l9Dec (m % 10) _ (by omega)).mono ?_
      rintro e w2 ⟨rfl, hb⟩
      have hd1 : (decB (m % 10)).size = 1 := by
        show (decL _).toArray.size = 1
        unfold decL
        split
        · rfl
        · rw [dec10_small (by omega) (by omega)]; rfl
      have HDD : Hid ((decB (m % 10)).data.toList = [b8 (48 + (m : Int) % 10)]) := by
        show decL _ = _
        unfold decL
        split
        · rename_i h
          rw [show (m : Int) % 10 = 0 by omega]; rfl
        · rw [dec10_small (by omega) (by omega)]; rfl
      generalize decB (m % 10) = d at *
      go_wp2_with fail
      go_roundw
      case rel =>
        refine ⟨m / 10, j + 1, _, by omega, by omega, by go_num, rfl, by go_num, by rw [ByteArray.size_append]; omega, ?_, hbl.trans (hb.mono hbl.size)⟩
        show _ = _
        rw [HD.out, ba_append, HDD.out, show k - j = (k - (j + 1)) + 1 by omega, showL, List.append_assoc]
      case measure => simp [intOf]; omega
    · have HE := Lib.hid (show k - j = 0 by omega)
      go_wp2_with fail
      go_ret
      refine ⟨ret_str ?_, hbl⟩
      apply ba_ext
      show _ = showL n k
      rw [HD.out, HE.out, showL]
      rfl

end Go.Proofs.YtpinkbodbedajaaGreatDoor

namespace Go.Proofs.YtpinkbodbedajaaGreatDoor
open Go.RowKit

theorem Tryz.infoByte : (Tryz.prog.info? 5).map (fun i => (i.zero, i.size, i.bytes)) = some (some (.int .u8 0), 1, 1) := by kernel_rfl

end Go.Proofs.YtpinkbodbedajaaGreatDoor

namespace Go.Proofs.YtpinkbodbedajaaGreatDoor
open Go.RowKit

/-- A row of bytes: all of block g. -/
def byteRow (w : World) (g : Nat) (l : List UInt8) : Prop := w.heap[g]? = some (.cells (l.map fun b => Value.int .u8 b.toNat).toArray 5 (0, 0))
theorem byteRow.cell {w : World} {g : Nat} {l : List UInt8} (h : byteRow w g l) (i : Nat) (hi : i < l.length) : w.cell? ⟨g, i, none⟩ = some (.int .u8 (l[i].toNat : Int)) :=
  blk_cell h i _ (by simp [hi])
theorem byteRow.free {w : World} {g : Nat} {l : List UInt8} (h : byteRow w g l) (i : Nat) : w.frozen? ⟨g, i, none⟩ = false := blk_free h i
theorem byteRow.set {w : World} {g : Nat} {l : List UInt8} (h : byteRow w g l) (i : Nat) (b : UInt8) : byteRow (w.setCell ⟨g, i, none⟩ (.int .u8 (b.toNat : Int))) g (l.set i b) := by
  have h1 := blk_set h i (.int .u8 (b.toNat : Int))
  unfold byteRow
  rw [h1, List.map_set]
  simp
theorem byteRow.below {w w' : World} {g : Nat} {l : List UInt8} (h : byteRow w g l) (hb : Below w.heap.size w w') : byteRow w' g l := blk_below h hb
theorem byteRow.str {w : World} {g c m : Nat} {l : List UInt8} (h : byteRow w g l) (hm : m ≤ l.length) : (convert 22 9 (.slice (some ⟨g, 0, none⟩) m c)).run Tryz.prog w = .ok (.string ⟨(l.take m).toArray⟩) w := by
  have h1 := run_convert_bytes_back (P := Tryz.prog) w 22 9 5 ⟨g, 0, none⟩ c (l.take m) Tryz.underlying22 Tryz.underlying5 Tryz.underlying9 (fun j hj => by
    have hj2 : j < l.length := by rw [List.length_take] at hj; omega
    rw [List.getElem_take]
    have := h.cell j hj2
    rw [add_lit]
    simpa using this)
  have hl : (l.take m).length = m := by rw [List.length_take]; omega
  rw [hl] at h1
  exact h1

end Go.Proofs.YtpinkbodbedajaaGreatDoor

namespace Go.Proofs.YtpinkbodbedajaaGreatDoor
open Go.RowKit

structure Plc where
  area : Int
  walk : Int
  point : Int
end Go.Proofs.YtpinkbodbedajaaGreatDoor

namespace Go.Proofs.YtpinkbodbedajaaGreatDoor
open Go.RowKit

theorem grown_trans {a b c : World} {row : Option Nat} (h : a.grownBy b row) (k : b.grownBy c row) : a.grownBy c row :=
  ⟨k.os.trans h.os, k.tape.trans h.tape, k.output.trans h.output, Nat.le_trans h.size k.size, fun i hi hne => (k.block i (Nat.lt_of_lt_of_le hi h.size) hne).trans (h.block i hi hne)⟩
theorem rdr.alloc {w : World} {g p : Nat} (h : rdr w g p) (o : Obj) : rdr (w.alloc o) g p := h.below ((Below.refl _ _).alloc (Nat.le_refl _) o)

/-- Below block b only block g has turned. -/
structure kept2 (g b : Nat) (w w' : World) : Prop where
  os : w'.os = w.os
  tape : w'.tape = w.tape
  output : w'.output = w.output
  size : w.heap.size ≤ w'.heap.size
  block : ∀ k, k < b → k ≠ g → w'.heap[k]? = w.heap[k]?
theorem kept2.refl (g b : Nat) (w : World) : kept2 g b w w := ⟨rfl, rfl, rfl, Nat.le_refl _, fun _ _ _ => rfl⟩
theorem kept2.trans {g b : Nat} {u v w : World} (h : kept2 g b u v) (k : kept2 g b v w) : kept2 g b u w :=
  ⟨k.os.trans h.os, k.tape.trans h.tape, k.output.trans h.output, Nat.le_trans h.size k.size, fun i hi hne => (k.block i hi hne).trans (h.block i hi hne)⟩
theorem kept2.grown {g b : Nat} {u w : World} (h : u.grownBy w (some g)) (hb : b ≤ u.heap.size) : kept2 g b u w :=
  ⟨h.os, h.tape, h.output, h.size, fun i hi hne => h.block i (by omega) (fun e => by injection e; omega)⟩
theorem kept2.below {g b : Nat} {u w : World} (h : Below b u w) : kept2 g b u w := ⟨h.os, h.tape, h.output, h.size, fun i hi _ => h.block i hi⟩
/-- Only blocks of S turned, and new ones. -/
structure keptS (S : Nat → Prop) (w w' : World) : Prop where
  os : w'.os = w.os
  tape : w'.tape = w.tape
  output : w'.output = w.output
  size : w.heap.size ≤ w'.heap.size
  block : ∀ k, k < w.heap.size → ¬ S k → w'.heap[k]? = w.heap[k]?
theorem keptS.refl (S : Nat → Prop) (w : World) : keptS S w w := ⟨rfl, rfl, rfl, Nat.le_refl _, fun _ _ _ => rfl⟩
theorem keptS.next {S : Nat → Prop} {u w w' : World} {row : Option Nat} (h : keptS S u w) (hg : w.grownBy w' row) (hS : ∀ r, row = some r → S r ∨ u.heap.size ≤ r) : keptS S u w' :=
  ⟨hg.os.trans h.os, hg.tape.trans h.tape, hg.output.trans h.output, Nat.le_trans h.size hg.size, fun k hk hn => (hg.block k (Nat.lt_of_lt_of_le hk h.size) fun e => by
    rcases hS k e.symm with h1 | h1
    · exact hn h1
    · omega).trans (h.block k hk hn)⟩
theorem keptS.below {S : Nat → Prop} {u w w' : World} (h : keptS S u w) (hB : Below u.heap.size w w') : keptS S u w' :=
  ⟨hB.os.trans h.os, hB.tape.trans h.tape, hB.output.trans h.output, Nat.le_trans h.size hB.size, fun k hk hn => (hB.block k hk).trans (h.block k hk hn)⟩
theorem keptS.alloc {S : Nat → Prop} {u w : World} (h : keptS S u w) (o : Obj) : keptS S u (w.alloc o) := h.below ((Below.refl _ _).alloc h.size o)
theorem keptS.set {S : Nat → Prop} {u w : World} (h : keptS S u w) (p : Addr) (hp : S p.block ∨ u.heap.size ≤ p.block) (v : Value) : keptS S u (w.setCell p v) :=
  h.next (row := some p.block) (grown_setCell (World.grownBy.refl _ _) (.inl rfl) v) fun r e => by injection e with e; subst e; exact hp
theorem kept2.back {g b : Nat} {u v w : World} (h : u.grownBy v (some g)) (k : kept2 g b v w) (hb : u.heap.size ≤ b) : u.grownBy w (some g) :=
  ⟨k.os.trans h.os, k.tape.trans h.tape, k.output.trans h.output, Nat.le_trans h.size k.size, fun i hi hne => (k.block i (by omega) (fun e => hne (by rw [e]))).trans (h.block i hi hne)⟩

theorem own_ltr {T base g n c : Nat} {w : World} {xs : List Ltr} (h : own T base w (.slice (some ⟨g, 0, none⟩) n c) xs) (k : Nat) (hk : k < xs.length) :
    (xs[k]).ok ∧ w.cell? ⟨g, k * 2, none⟩ = some (.int .i64 (xs[k]).id) ∧ w.cell? ⟨g, k * 2 + 1, none⟩ = some (.string (xs[k]).code) := by
  obtain ⟨A, n', c', hv, _, _, _, hrd⟩ := h.rd
  obtain ⟨b, o, hA, _, hok, c1, c2⟩ := hrd.ltr k hk
  injection hv with e1 _ _
  subst e1
  injection hA with hA
  injection hA with hA1 hA2
  subst hA1 hA2
  rw [Nat.zero_add] at c1 c2
  exact ⟨hok, c1, c2⟩
theorem own_ne {α : Type} [El α] {T base g : Nat} {w : World} {v : Value} {xs : List α} (h : own T base w v xs) (hg : g < base) : v.ownBlock = none ∨ v.ownBlock ≠ some g := by
  cases hb : v.ownBlock with
  | none => exact .inl rfl
  | some k => exact .inr fun e => by have := (h.blk k hb).1; injection e; omega
theorem rdr.append {α : Type} [El α] {T base g p : Nat} {w w' : World} {v : Value} {xs : List α} (h : rdr w g p) (ho : own T base w v xs) (hg : w.grownBy w' v.ownBlock) (hlt : g < base) : rdr w' g p := by
  cases hb : v.ownBlock with
  | none => rw [hb] at hg; exact h.below (below_of_grown hg (Nat.le_refl _) (fun k hk => by cases hk))
  | some k => rw [hb] at hg; exact h.grown hg (by have := (ho.blk k hb).1; omega)
theorem grown_of_below {a w w' : World} {row : Option Nat} (h : a.grownBy w row) (hb : Below a.heap.size w w') : a.grownBy w' row :=
  ⟨hb.os.trans h.os, hb.tape.trans h.tape, hb.output.trans h.output, Nat.le_trans h.size hb.size, fun i hi hne => (hb.block i hi).trans (h.block i hi hne)⟩

set_option maxHeartbeats 1000000 in
theorem rd_l1Some (g p : Nat) (w : World) (hr : rdr w g p) (hp : p ≤ 1000000000000) :
    Calls Tryz.prog 141 #[.pointer (some ⟨g, 0, none⟩)] w fun e w' => ∃ (s : ByteArray) (p' : Nat), e = .returned (.string s) ∧ s.size = 7 ∧ rdr w' g p' ∧ p' ≤ p + 10 ∧ w.grownBy w' (some g) := by
  have hlt := hr.lt
  go_enter Tryz.func141, Tryz.ntmps141
  go_wp2_with fail
  refine (rd_num 3 g p _ [120, 121, 7, 999] _ (hr.alloc _) (by omega) (list_own 3 (g + 1) w [120, 121, 7, 999] (by simp [isI64]) (by decide) (by omega)) (by decide)).mono ?_
  rintro e w1 ⟨x1, hx1, rfl, hr1, hg1⟩
  replace hg1 : w.grownBy w1 (some g) := grown_trans (World.grownBy_alloc w _ _) hg1
  have hlt1 := hr1.lt
  obtain ⟨N1, rfl⟩ := Int.eq_ofNat_of_zero_le (a := x1) (by simp at hx1; omega)
  have hN1 : N1 ≤ 999 := by simp at hx1; omega
  clear hx1
  go_wp2_with fail
  refine (rd_num 3 g (p + 1) _ [1, 2, 10, 99] _ (hr1.alloc _) (by omega) (list_own 3 (g + 1) w1 [1, 2, 10, 99] (by simp [isI64]) (by decide) (by omega)) (by decide)).mono ?_
  rintro e w2 ⟨x2, hx2, rfl, hr2, hg2⟩
  replace hg2 : w.grownBy w2 (some g) := grown_trans hg1 (grown_trans (World.grownBy_alloc w1 _ _) hg2)
  obtain ⟨N2, rfl⟩ := Int.eq_ofNat_of_zero_le (a := x2) (by simp at hx2; omega)
  have hN2 : N2 ≤ 999 := by simp at hx2; omega
  clear hx2
  go_wp2_with fail
  refine (spec_l1Show N1 3 _ (by omega) (by omega)).mono ?_
  rintro e w3 ⟨rfl, b3⟩
  have hs3 := showB_size N1 3
  generalize showB N1 3 = s3 at *
  go_wp2_with fail
  refine (spec_l1Show N2 2 _ (by omega) (by omega)).mono ?_
  rintro e w4 ⟨rfl, b4⟩
  have hs4 := showB_size N2 2
  generalize showB N2 2 = s4 at *
  have hr4 := (hr2.below b3).below b4
  have hg4 := grown_below (grown_below hg2 b3) b4
  go_wp2_with fail
  refine (rd_pick g (p + 1 + 1) 14 _ hr4 (by omega) (by unfold isI64; omega)).mono ?_
  rintro e w5 ⟨x5, rfl, hx5, hr5, hg5⟩
  obtain ⟨y0, y1⟩ := hx5.2 (by omega)
  obtain ⟨N5, rfl⟩ := Int.eq_ofNat_of_zero_le y0
  replace hg5 := grown_trans hg4 hg5
  clear hx5
  go_wp2_with fail
  refine (spec_l1Show N5 2 _ (by omega) (by omega)).mono ?_
  rintro e w6 ⟨rfl, b6⟩
  have hs6 := showB_size N5 2
  generalize showB N5 2 = s6 at *
  have hr6 := hr5.below b6
  have hg6 := grown_below hg5 b6
  go_wp2_with fail
  refine (rd_pick g (p + 1 + 1 + 1) 4 _ hr6 (by omega) (by unfold isI64; omega)).mono ?_
  rintro e w7 ⟨x7, rfl, hx7, hr7, hg7⟩
  replace hg7 := grown_trans hg6 hg7
  clear hx7
  by_cases h7 : x7 = 0
  · have h7' : (x7 == 0) = true := by simp [h7]
    clear h7
    go_wp2_with fail
    refine (rd_pick g (p + 1 + 1 + 1 + 1) 256 _ hr7 (by omega) (by unfold isI64; omega)).mono ?_
    rintro e w8 ⟨x8, rfl, hx8, hr8, hg8⟩
    obtain ⟨a8, b8⟩ := hx8.2 (by omega)
    obtain ⟨N8, rfl⟩ := Int.eq_ofNat_of_zero_le a8
    replace hg8 := grown_trans hg7 hg8
    clear hx8
    go_wp2_with fail
    refine (rd_pick g (p + 1 + 1 + 1 + 1 + 1) 256 _ hr8 (by omega) (by unfold isI64; omega)).mono ?_
    rintro e w9 ⟨x9, rfl, hx9, hr9, hg9⟩
    obtain ⟨a9, b9⟩ := hx9.2 (by omega)
    obtain ⟨N9, rfl⟩ := Int.eq_ofNat_of_zero_le a9
    replace hg9 := grown_trans hg8 hg9
    clear hx9
    have m1 : N8 * N9 ≤ 256 * 256 := Nat.mul_le_mul (by omega) (by omega)
    have m1' : (N8 : Int) * (N9 : Int) = ((N8 * N9 : Nat) : Int) := by rw [Int.natCast_mul]
    have M1 := Lib.hid m1'; clear m1'
    have i1 : (0 : Int) ≤ (N8 : Int) * (N9 : Int) := by rw [M1.out]; omega
    have i2 : (N8 : Int) * (N9 : Int) ≤ 65536 := by rw [M1.out]; omega
    go_wp2_with fail
    refine (rd_pick g (p + 1 + 1 + 1 + 1 + 1 + 1) 150 _ hr9 (by omega) (by unfold isI64; omega)).mono ?_
    rintro e w10 ⟨x10, rfl, hx10, hr10, hg10⟩
    obtain ⟨a10, b10⟩ := hx10.2 (by omega)
    obtain ⟨N10, rfl⟩ := Int.eq_ofNat_of_zero_le a10
    replace hg10 := grown_trans hg9 hg10
    clear hx10
    have m2 : N8 * N9 * N10 ≤ 256 * 256 * 256 := Nat.mul_le_mul m1 (by omega)
    have m2' : (N8 : Int) * (N9 : Int) * (N10 : Int) = ((N8 * N9 * N10 : Nat) : Int) := by rw [Int.natCast_mul, Int.natCast_mul]
    have M2 := Lib.hid m2'; clear m2'
    have j1 : (0 : Int) ≤ (N8 : Int) * (N9 : Int) * (N10 : Int) := by rw [M2.out]; omega
    have j2 : (N8 : Int) * (N9 : Int) * (N10 : Int) ≤ 16777216 := by rw [M2.out]; omega
    go_wp2_with fail
    refine (rd_pick g (p + 1 + 1 + 1 + 1 + 1 + 1 + 1) 256 _ hr10 (by omega) (by unfold isI64; omega)).mono ?_
    rintro e w11 ⟨x11, rfl, hx11, hr11, hg11⟩
    obtain ⟨a11, b11⟩ := hx11.2 (by omega)
    obtain ⟨N11, rfl⟩ := Int.eq_ofNat_of_zero_le a11
    replace hg11 := grown_trans hg10 hg11
    clear hx11
    go_wp2_with fail
    rw [M2.out]
    refine (spec_l1Show (N8 * N9 * N10 + N11) 7 _ (by omega) (by omega)).mono ?_
    rintro e w12 ⟨rfl, b12⟩
    have hs12 := showB_size (N8 * N9 * N10 + N11) 7
    generalize showB (N8 * N9 * N10 + N11) 7 = s12 at *
    have H12 := Lib.hid hs12; clear hs12
    go_wp2_with fail
    go_ret
    exact ⟨s12, _, rfl, H12.out, hr11.below b12, by omega, grown_below hg11 b12⟩
  · have h7' : (x7 == 0) = false := by simp [h7]
    clear h7
    have HS : Hid ((s3 ++ s4 ++ s6).size = 7) := by show _ = _; rw [ByteArray.size_append, ByteArray.size_append]; omega
    go_wp2_with fail
    go_ret
    exact ⟨_, _, rfl, HS.out, hr7, by omega, hg7⟩

set_option maxHeartbeats 400000 in
theorem rd_l1Bad (g p : Nat) (s : ByteArray) (w : World) (hr : rdr w g p) (hp : p ≤ 1000000000000) (h1 : 1 ≤ s.size) (h2 : s.size ≤ 1000) :
    Calls Tryz.prog 81 #[.pointer (some ⟨g, 0, none⟩), .string s] w fun e w' => ∃ (t : ByteArray), e = .returned (.string t) ∧ t.size ≤ s.size + 1 ∧ rdr w' g (p + 1) ∧ w.grownBy w' (some g) := by
  go_enter Tryz.func81, Tryz.ntmps81
  go_wp2_with fail
  refine (rd_pick g p 40 _ hr (by omega) (by unfold isI64; omega)).mono ?_
  rintro e w1 ⟨x, rfl, hx, hr1, hg1⟩
  clear hx
  by_cases c0 : x = 0
  · have d0 : (x == 0) = true := by simp [c0]
    clear c0
    go_wp2_with fail
    go_ret
    exact ⟨_, rfl, by rw [ByteArray.size_append]; exact Nat.le_refl _, hr1, hg1⟩
  have d0 : (x == 0) = false := by simp [c0]
  by_cases c1 : x = 1
  · have d1 : (x == 1) = true := by simp [c1]
    clear c1 c0
    go_wp2_with fail
    go_ret
    refine ⟨_, rfl, ?_, hr1, hg1⟩
    rw [ByteArray.size_append, ByteArray.size_extract]
    show _ + 1 ≤ _
    omega
  have d1 : (x == 1) = false := by simp [c1]
  by_cases c2 : x = 2
  · have d2 : (x == 2) = true := by simp [c2]
    clear c2 c1 c0
    go_wp2_with fail
    go_ret
    exact ⟨_, rfl, Nat.zero_le _, hr1, hg1⟩
  have d2 : (x == 2) = false := by simp [c2]
  clear c0 c1 c2
  go_wp2_with fail
  go_ret
  exact ⟨_, rfl, by omega, hr1, hg1⟩

/-- The letters that are drawn. -/
def drawn (xs : List Ltr) : Prop := ∀ x ∈ xs, 1 ≤ x.code.size ∧ x.code.size ≤ 8

set_option maxHeartbeats 1000000 in
theorem rd_l2Some (g p : Nat) (f : Int) (w : World) (hr : rdr w g p) (hp : p ≤ 100000000000) (hf1 : 0 ≤ f) (hf2 : f ≤ 1000) :
    Calls Tryz.prog 108 #[.pointer (some ⟨g, 0, none⟩), .int .i64 f] w fun e w' => ∃ (v : Value) (xs : List Ltr) (p' : Nat), e = .returned v ∧ own 89 w.heap.size w' v xs ∧ xs.length ≤ 14 ∧ (∀ x ∈ xs, x.code.size = 7) ∧ rdr w' g p' ∧ p' ≤ p + 200 ∧ w.grownBy w' (some g) := by
  have hlt := hr.lt
  obtain ⟨i0, hi, hz0, hz1, hz2⟩ := info_parts Tryz.infoLtr
  go_enter Tryz.func108, Tryz.ntmps108
  go_wp2_with fail
  have hA := hr.alloc (Obj.cells #[] 89)
  have hoA : own (α := Ltr) 89 w.heap.size (w.alloc (Obj.cells #[] 89)) (.slice (some ⟨w.heap.size, 0, none⟩) 0 0) [] := own.made0 w _ (Nat.le_refl _)
  have hgA := World.grownBy_alloc w (Obj.cells #[] 89) (some g)
  have hzA : w.heap.size + 1 = (w.alloc (Obj.cells #[] 89)).heap.size := by simp
  generalize w.alloc (Obj.cells #[] 89) = wA at *
  rw [hzA]
  have HZA := Lib.hid hzA; clear hzA
  have hltA := hA.lt
  refine (rd_num 3 g p _ [6, 4, 9, 2, 14, 0, 1] _ (hA.alloc _) (by omega) (list_own 3 (g + 1) wA [6, 4, 9, 2, 14, 0, 1] (by simp [isI64]) (by decide) (by omega)) (by decide)).mono ?_
  rintro e w1 ⟨n, hn, rfl, hr1, hg1⟩
  replace hg1 : wA.grownBy w1 (some g) := grown_trans (World.grownBy_alloc wA _ _) hg1
  have ho1 := hoA.grown hg1 (own_ne hoA hlt)
  have hg1' := grown_trans hgA hg1
  have hn2 : 0 ≤ n ∧ n ≤ 14 := by simp at hn; omega
  obtain ⟨hn0, hn1⟩ := hn2
  obtain ⟨N, rfl⟩ := Int.eq_ofNat_of_zero_le hn0
  clear hn hoA hA hgA hg1
  go_wp2_with fail
  go_loopw [5, 6] (fun t i wr => ∃ (k : Nat) (xs : List Ltr) (q : Nat), k ≤ N ∧ i = .int .i64 k ∧ xs.length + k = N ∧ own 89 w.heap.size wr t xs ∧ Hid (∀ x ∈ xs, x.code.size = 7) ∧ rdr wr g q ∧ q + 10 * k ≤ p + 1 + 10 * N ∧ w.grownBy wr (some g)) (fun _ i _ => (intOf i).toNat)
  case atStart => exact ⟨N, [], p + 1, Nat.le_refl _, rfl, by simp, ho1, fun x hx => by simp at hx, hr1, by omega, hg1'⟩
  case round =>
    obtain ⟨k, xs, q, hk, rfl, hxk, ho, HX, hrq, hqb, hgq⟩ := hrel
    obtain ⟨w2, rfl⟩ : ∃ w2 : World, w2 = wr := ⟨_, rfl⟩
    clear ho1 hr1 hg1'
    have HXK := Lib.hid hxk
    have hxl : xs.length ≤ 14 := by omega
    clear hxk
    obtain ⟨A, m, c, hv, hm, _, _, _⟩ := ho.rd
    subst hm hv
    by_cases hk0 : 0 < k
    · go_wp2_with fail
      refine (rd_l1Some g q _ hrq (by omega)).mono ?_
      rintro e w3 ⟨s, q', rfl, hs7, hr3, hq3, hg3⟩
      have HS7 := Lib.hid hs7
      have hne := own_ne ho hlt
      have ho3 := ho.grown hg3 hne
      have hgq3 := grown_trans hgq hg3
      have hz3 := hgq3.size
      have hsl : s.size ≤ maxLen := by rw [hs7]; decide
      clear hs7
      go_wp2_with (at_builtin; refine wpList_append1 (α := Ltr) rfl (.tmp 15) (.tmp 24) _ rfl w.heap.size 89 i0 _ 24 Tryz.underlying29 hi hz0 hz1 hz2 rfl (by decide) (.slice A xs.length c) xs ⟨f + xs.length * 7, s⟩ rfl (ho3.alloc _) ⟨w3.heap.size, 0, none⟩ 1 (Ltr.cells ⟨f + xs.length * 7, s⟩) rfl ⟨⟨⟨by show _ ≤ f + _; omega, by show f + _ ≤ _; omega⟩, hsl⟩, rfl⟩ (news_at w3 _ (Ltr.cells ⟨f + xs.length * 7, s⟩)) (by unfold maxLen; omega) (by omega) (by simp; omega) ?_; intro v' w4 ho4 hg4 _)
      have hb4 : Below w.heap.size w3 w4 := ((Below.refl _ _).alloc hz3 _).trans (below_append (ho3.alloc _) hg4 (by simp; omega))
      have hr4 : rdr w4 g q' := (hr3.alloc _).append (ho3.alloc _) hg4 hlt
      have hgq4 : w.grownBy w4 (some g) := grown_of_below hgq3 hb4
      clear hg4 hb4 hg3 hr3
      go_wp2_with fail
      go_roundw
      case rel =>
        refine ⟨k - 1, _, q', by omega, by go_num, by have := HXK.out; simp; omega, ho4, fun x hx => ?_, hr4, by omega, hgq4⟩
        rcases List.mem_append.1 hx with h | h
        · exact HX.out x h
        · simp at h
          subst h
          exact HS7.out
      case measure => simp [intOf]; omega
    · go_wp2_with fail
      go_ret
      exact ⟨_, xs, q, rfl, ho, hxl, HX.out, hrq, by omega, hgq⟩


end Go.Proofs.YtpinkbodbedajaaGreatDoor

namespace Go.Proofs.YtpinkbodbedajaaGreatDoor
open Go.RowKit

set_option maxHeartbeats 400000 in
theorem rd_LeastPasses (n b : Int) (w : World) :
    Calls Tryz.prog 169 #[.int .i64 n, .int .i64 b] w fun e w' => ∃ x : Int, e = .returned (.int .i64 x) ∧ -1 ≤ x ∧ x ≤ 4 ∧ w = w' := by
  go_enter Tryz.func169, Tryz.ntmps169
  by_cases hn : 0 ≤ n
  · go_wp2
    go_loop [5] (fun i => ∃ k : Nat, 1 ≤ k ∧ k ≤ 5 ∧ i = .int .i64 k) (fun i => 5 - (intOf i).toNat)
    case atStart => exact ⟨1, Nat.le_refl _, by omega, rfl⟩
    case round =>
      obtain ⟨k, hk1, hk5, rfl⟩ := hrel
      go_wp2_with fail
      refine (spec_l3Shape b k _).mono ?_
      rintro e _ ⟨rfl, rfl⟩
      cases hs : shapeOk b k
      · go_wp2_with fail
        go_ret
        exact ⟨_, rfl, by omega, by omega, rfl⟩
      · have hs2 : (2 ≤ b ∧ b ≤ 16) ∧ 1 ≤ (k : Int) ∧ (k : Int) ≤ 4 := by simpa [shapeOk] using hs
        have HS := Lib.hid hs; clear hs
        obtain ⟨⟨b1, b2⟩, k1, k2⟩ := hs2
        go_wp2_with fail
        refine (spec_l3Power b k _ b1 b2 (by omega)).mono ?_
        rintro e _ ⟨rfl, rfl⟩
        generalize powI b k = q
        by_cases hq : n ≤ q
        · go_wp2_with fail
          go_ret
          exact ⟨_, rfl, by omega, by omega, rfl⟩
        · go_wp2_with fail
          go_round
          case rel => exact ⟨k + 1, by omega, by omega, by go_num⟩
          case measure => simp [intOf]; omega
  · go_wp2
    go_loop [5] (fun i => i = .int .i64 1) (fun i => 0)
    case atStart => exact rfl
    case round =>
      subst hrel
      go_wp2
      go_ret
      exact ⟨_, rfl, by omega, by omega, rfl⟩

/-- The codes that are drawn. -/
def drawnC (xs : List ByteArray) : Prop := ∀ x ∈ xs, x.size = 7

set_option maxRecDepth 100000 in
set_option maxHeartbeats 1000000 in
theorem rd_l3Order (g p : Nat) (most : Int) (w : World) (hr : rdr w g p) (hp : p ≤ 100000000000) (hm1 : 1 ≤ most) (hm2 : most ≤ 100) :
    Calls Tryz.prog 168 #[.pointer (some ⟨g, 0, none⟩), .int .i64 most] w fun e w' => ∃ (v : Value) (xs : List ByteArray) (p' : Nat), e = .returned v ∧ own 9 w.heap.size w' v xs ∧ 1 ≤ xs.length ∧ xs.length ≤ 100 ∧ drawnC xs ∧ rdr w' g p' ∧ p' ≤ p + 1001 ∧ w.grownBy w' (some g) := by
  have hlt := hr.lt
  obtain ⟨i0, hi, hz0, hz1, hz2⟩ := info_parts Tryz.infoStr
  go_enter Tryz.func168, Tryz.ntmps168
  go_wp2_with fail
  have hA := hr.alloc (Obj.cells #[] 9)
  have hoA : own (α := ByteArray) 9 w.heap.size (w.alloc (Obj.cells #[] 9)) (.slice (some ⟨w.heap.size, 0, none⟩) 0 0) [] := own.made0 w _ (Nat.le_refl _)
  have hgA := World.grownBy_alloc w (Obj.cells #[] 9) (some g)
  generalize w.alloc (Obj.cells #[] 9) = wA at *
  refine (rd_pick g p most _ hA (by omega) (by unfold isI64; omega)).mono ?_
  rintro e w1 ⟨x, rfl, hx, hr1, hg1⟩
  obtain ⟨x0, x1⟩ := hx.2 (by omega)
  obtain ⟨N, rfl⟩ := Int.eq_ofNat_of_zero_le x0
  have ho1 := hoA.grown hg1 (own_ne hoA hlt)
  have hg1' := grown_trans hgA hg1
  clear hx hoA hA hgA hg1
  go_wp2_with fail
  go_loopw [5, 6] (fun t i wr => ∃ (k : Nat) (xs : List ByteArray) (q : Nat), k ≤ N + 1 ∧ i = .int .i64 k ∧ xs.length + k ≤ N + 1 ∧ Hid (k = N + 1 ∨ 1 ≤ xs.length) ∧ own 9 w.heap.size wr t xs ∧ Hid (drawnC xs) ∧ rdr wr g q ∧ q + 10 * k ≤ p + 1 + 10 * (N + 1) ∧ w.grownBy wr (some g)) (fun _ i _ => (intOf i).toNat)
  case atStart => exact ⟨N + 1, [], p + 1, Nat.le_refl _, by go_num, by simp, .inl rfl, ho1, fun x hx => by simp at hx, hr1, by omega, hg1'⟩
  case round =>
    obtain ⟨k, xs, q, hk, rfl, hxk, HK, ho, HX, hrq, hqb, hgq⟩ := hrel
    obtain ⟨w2, rfl⟩ : ∃ w2 : World, w2 = wr := ⟨_, rfl⟩
    clear ho1 hr1 hg1'
    have HXK := Lib.hid hxk
    have hxl : xs.length ≤ 100 := by omega
    clear hxk
    by_cases hk0 : 0 < k
    · go_wp2_with fail
      refine (rd_l1Some g q _ hrq (by omega)).mono ?_
      rintro e w3 ⟨s, q', rfl, hs7, hr3, hq3, hg3⟩
      have HS7 := Lib.hid hs7
      have hne := own_ne ho hlt
      have ho3 := ho.grown hg3 hne
      have hgq3 := grown_trans hgq hg3
      have hz3 := hgq3.size
      have hsl : s.size ≤ maxLen := by rw [hs7]; decide
      clear hs7 hg3 hne ho
      have HO3 := Lib.hid ho3
      obtain ⟨A, m, c, rfl, hm, _, _, _⟩ := ho3.rd
      subst hm
      clear ho3
      go_wp2_with fail
      refine (spec_l3Rank _ xs s _ HO3.out.rd).mono ?_
      rintro e _ ⟨rfl, rfl⟩
      have hrk := rkI_range xs s
      have HRK : Hid (rkI xs s < 0 ∨ 1 ≤ xs.length) := by show _ ∨ _; omega
      generalize rkI xs s = z at *
      by_cases hz : z < 0
      · go_wp2_with (at_builtin; refine wpList_append1 (α := ByteArray) rfl (.tmp 23) (.tmp 25) _ rfl w.heap.size 9 i0 _ 16 Tryz.underlying23 hi hz0 hz1 hz2 rfl (by decide) (.slice A xs.length c) xs s rfl (HO3.out.alloc _) ⟨w3.heap.size, 0, none⟩ 1 [.string s] rfl ⟨hsl, rfl⟩ (news_at w3 _ [.string s]) (by unfold maxLen; omega) (by omega) (by simp; omega) ?_; intro v' w4 ho4 hg4 _)
        have hb4 : Below w.heap.size w3 w4 := ((Below.refl _ _).alloc hz3 _).trans (below_append (HO3.out.alloc _) hg4 (by simp; omega))
        have hr4 : rdr w4 g q' := (hr3.alloc _).append (HO3.out.alloc _) hg4 hlt
        have hgq4 : w.grownBy w4 (some g) := grown_of_below hgq3 hb4
        clear hg4 hb4 hr3
        go_wp2_with fail
        go_roundw
        case rel =>
          refine ⟨k - 1, _, q', by omega, by go_num, by have := HXK.out; simp; omega, .inr (by simp), ho4, fun x hx => ?_, hr4, by omega, hgq4⟩
          rcases List.mem_append.1 hx with h | h
          · exact HX.out x h
          · simp at h
            subst h
            exact HS7.out
        case measure => simp [intOf]; omega
      · have HZ := Lib.hid hz; clear hz
        have hz' : 0 ≤ z := by have := HZ.out; omega
        go_wp2_with fail
        go_roundw
        case rel => exact ⟨k - 1, xs, q', by omega, by go_num, by have := HXK.out; omega, .inr (by have := HRK.out; have := HZ.out; omega), HO3.out, HX.out, hr3, by omega, hgq3⟩
        case measure => simp [intOf]; omega
    · have HO := Lib.hid ho
      obtain ⟨A, m, c, rfl, hm, _, _, _⟩ := ho.rd
      clear hm ho
      go_wp2_with fail
      go_ret
      exact ⟨_, xs, q, rfl, HO.out, by have := HK.out; omega, hxl, HX.out, hrq, by omega, hgq⟩

end Go.Proofs.YtpinkbodbedajaaGreatDoor

namespace Go.Proofs.YtpinkbodbedajaaGreatDoor
open Go.RowKit

theorem ownP.grown {T base : Nat} {w w' : World} {v : Value} {p : Pln} {row : Option Nat} (h : ownP T base w v p) (hg : w.grownBy w' row) (hr : ∀ k, row = some k → k < base) : ownP T base w' v p := by
  obtain ⟨vo, h1, h2, h3, h4⟩ := h
  refine ⟨vo, h1, h2, h3, h4.grown hg ?_⟩
  cases hb : vo.ownBlock with
  | none => exact .inl rfl
  | some k => exact .inr fun e => by have h1 := (h4.blk k hb).1; have h2 := hr k e.symm; omega
theorem ownP.base_ {T base base' : Nat} {w : World} {v : Value} {p : Pln} (h : ownP T base w v p) (hb : base' ≤ base) : ownP T base' w v p := by
  obtain ⟨vo, h1, h2, h3, h4⟩ := h
  exact ⟨vo, h1, h2, h3, h4.base_ hb⟩

theorem Tryz.sizePln : (Tryz.prog.info? 25).map (·.size) = some 3 := by kernel_rfl
theorem three_set {w : World} {g : Nat} {T : TypeId} {u0 u1 u2 a b d : Value} (h : w.heap[g]? = some (.cells #[u0, u1, u2] T (0, 0))) :
    (((w.setCell ⟨g, 0, none⟩ a).setCell ⟨g, 1, none⟩ b).setCell ⟨g, 2, none⟩ d).heap[g]? = some (.cells #[a, b, d] T (0, 0)) :=
  heap_setCell_same _ _ _ _ _ _ (heap_setCell_same _ _ _ _ _ _ (heap_setCell_same _ _ _ _ _ _ h))
section
variable {P : Program} {fn : Func} {R : Ending → World → Prop} {a : Act} {w : World} {p u v r : Tmp} {ty : TypeId} {g : Nat} {t : TypeId} {cs : Array Value} {d : TypeDesc}
theorem loadBox (hg : w.heap[g]? = some (.cells cs t (0, 0))) (hu : P.underlying ty = some d) (hd : (match d with | .struct _ | .array _ _ => true | _ => false) = true) (hi : (P.info? ty).map (·.size) = some cs.size) :
    (loadVar ty ⟨g, 0, none⟩).run P w = .ok (.agg cs) w := run_loadVar_row w g t ty cs (0, 0) d hg hu hd hi
theorem ret_box (h : fn.results = #[.cell p ty]) (hp : a.tmps.getD p undef = .pointer (some ⟨g, 0, none⟩)) (hg : w.heap[g]? = some (.cells cs t (0, 0)))
    (hu : P.underlying ty = some d) (hd : (match d with | .struct _ | .array _ _ => true | _ => false) = true) (hi : (P.info? ty).map (·.size) = some cs.size) (hf : a.defers = [])
    (hR : R (.returned (.agg cs)) w) : bodyPost P fn R .ret a w :=
  bodyPost_ret (results_cell_row h a.tmps w g t cs (0, 0) d hp hg hu hd hi) hf hR
theorem ret_box1 (h : fn.results = #[.cell p ty, .tmp u]) (hp : a.tmps.getD p undef = .pointer (some ⟨g, 0, none⟩)) (hg : w.heap[g]? = some (.cells cs t (0, 0)))
    (hu : P.underlying ty = some d) (hd : (match d with | .struct _ | .array _ _ => true | _ => false) = true) (hi : (P.info? ty).map (·.size) = some cs.size) (hf : a.defers = [])
    (hR : R (.returned (.tuple #[.agg cs, a.tmps.getD u undef])) w) : bodyPost P fn R .ret a w := by
  refine bodyPost_ret ?_ hf hR
  have hp' : a.tmps[p]?.getD undef = .pointer (some ⟨g, 0, none⟩) := by simpa using hp
  simp [results, h, hp', asAddr, loadBox hg hu hd hi, Sem.run_bind, Result.andThen]
theorem ret_box2 (h : fn.results = #[.cell p ty, .tmp u, .tmp v]) (hp : a.tmps.getD p undef = .pointer (some ⟨g, 0, none⟩)) (hg : w.heap[g]? = some (.cells cs t (0, 0)))
    (hu : P.underlying ty = some d) (hd : (match d with | .struct _ | .array _ _ => true | _ => false) = true) (hi : (P.info? ty).map (·.size) = some cs.size) (hf : a.defers = [])
    (hR : R (.returned (.tuple #[.agg cs, a.tmps.getD u undef, a.tmps.getD v undef])) w) : bodyPost P fn R .ret a w := by
  refine bodyPost_ret ?_ hf hR
  have hp' : a.tmps[p]?.getD undef = .pointer (some ⟨g, 0, none⟩) := by simpa using hp
  simp [results, h, hp', asAddr, loadBox hg hu hd hi, Sem.run_bind, Result.andThen]
end
/-- A plan that is drawn. -/
def drawnP (p : Pln) : Prop := 2 ≤ p.bins ∧ p.bins ≤ 10 ∧ 1 ≤ p.passes ∧ p.passes ≤ 4 ∧ 1 ≤ p.order.length ∧ p.order.length ≤ 100 ∧ drawnC p.order

def l3SomePost (T : TypeId) (g p : Nat) (w : World) (e : Ending) (w' : World) : Prop :=
  ∃ (v : Value) (x : Pln) (p' : Nat), e = .returned v ∧ ownP T w.heap.size w' v x ∧ drawnP x ∧ rdr w' g p' ∧ p' ≤ p + 1002 ∧ w.grownBy w' (some g)
theorem l3SomePost_of {T g p q b A n c : _} {w w2 : World} {xs : List ByteArray} {y : Int} {V : Value} (hV : own T b w2 V xs) (hb : w.heap.size < b) (hr : rdr w2 g q) (hg : w.grownBy w2 (some g)) (hlt : g < w.heap.size) (hq : q ≤ p + 1 + 1001)
    (n0 : 2 ≤ n) (n1 : n ≤ 10) (y1 : 1 ≤ y) (y2 : y ≤ 4) (l1 : 1 ≤ xs.length) (l2 : xs.length ≤ 100) (hd : drawnC xs) (hVe : V = .slice A xs.length c) :
    l3SomePost T g p w (.returned (.agg #[.int .i64 n, .int .i64 y, .slice A xs.length c])) (((w2.setCell ⟨w.heap.size, 0, none⟩ (.int .i64 n)).setCell ⟨w.heap.size, 1, none⟩ (.int .i64 y)).setCell ⟨w.heap.size, 2, none⟩ (.slice A xs.length c)) := by
  subst hVe
  have HG := grown_setCell (p := ⟨w.heap.size, 2, none⟩) (grown_setCell (p := ⟨w.heap.size, 1, none⟩) (grown_setCell (p := ⟨w.heap.size, 0, none⟩) (World.grownBy.refl w2 (some w.heap.size)) (.inl rfl) (.int .i64 n)) (.inl rfl) (.int .i64 y)) (.inl rfl) (.slice A xs.length c)
  have HS := (((Below.refl w.heap.size w2).setCell (p := ⟨w.heap.size, 0, none⟩) (Nat.le_refl _) (.int .i64 n)).setCell (p := ⟨w.heap.size, 1, none⟩) (Nat.le_refl _) (.int .i64 y)).setCell (p := ⟨w.heap.size, 2, none⟩) (Nat.le_refl _) (.slice A xs.length c)
  exact ⟨_, ⟨n, y, xs⟩, q, rfl, ⟨_, rfl, ⟨by show _ ≤ n; omega, by show n ≤ _; omega⟩, ⟨by show _ ≤ y; omega, by show y ≤ _; omega⟩, (hV.grown HG (own_ne hV hb)).base_ (Nat.le_of_lt hb)⟩, ⟨n0, n1, y1, y2, l1, l2, hd⟩, hr.grown HG hlt, by omega, grown_of_below hg HS⟩

set_option maxRecDepth 100000 in
set_option maxHeartbeats 1000000 in
theorem rd_l3Some (g p : Nat) (w : World) (hr : rdr w g p) (hp : p ≤ 10000000000) :
    Calls Tryz.prog 104 #[.pointer (some ⟨g, 0, none⟩)] w (l3SomePost 9 g p w) := by
  have hlt := hr.lt
  go_enter Tryz.func104, Tryz.ntmps104
  go_wp2_with fail
  have hrA := hr.alloc (Obj.cells #[.int .i64 0, .int .i64 0, .slice none 0 0] 25)
  have hgA := World.grownBy_alloc w (Obj.cells #[.int .i64 0, .int .i64 0, .slice none 0 0] 25) (some g)
  have hzA : w.heap.size + 1 = (w.alloc (Obj.cells #[.int .i64 0, .int .i64 0, .slice none 0 0] 25)).heap.size := by simp
  have hbA := heap_alloc_new w (Obj.cells #[.int .i64 0, .int .i64 0, .slice none 0 0] 25)
  generalize w.alloc (Obj.cells #[.int .i64 0, .int .i64 0, .slice none 0 0] 25) = wA at *
  rw [hzA]
  have hltA := hrA.lt
  refine (rd_num 3 g p _ [4, 3, 5, 2, 10] _ (hrA.alloc _) (by omega) (list_own 3 (g + 1) wA [4, 3, 5, 2, 10] (by simp [isI64]) (by decide) (by omega)) (by decide)).mono ?_
  rintro e w1 ⟨n, hn, rfl, hr1, hg1⟩
  replace hg1 : wA.grownBy w1 (some g) := grown_trans (World.grownBy_alloc wA _ _) hg1
  have hb1 := (hg1.block w.heap.size (by omega) (fun e => by injection e; omega)).trans hbA
  replace hg1 := grown_trans hgA hg1
  have hn2 : 2 ≤ n ∧ n ≤ 10 := by simp at hn; omega
  obtain ⟨hn0, hn1⟩ := hn2
  have hz1 := hg1.size
  clear hn hrA hgA hbA
  have hlt1 : w.heap.size < w1.heap.size := (Array.getElem?_eq_some_iff.1 hb1).1
  have HB1 := Lib.hid hb1; clear hb1
  clear hzA hltA
  go_wp2_with fail
  refine (rd_l3Order g (p + 1) 12 _ hr1 (by omega) (by omega) (by omega)).mono ?_
  rintro e w2 ⟨v, xs, q, rfl, ho2, hl1, hl2, hd, hr2, hq, hg2⟩
  have hb2 := (hg2.block w.heap.size hlt1 (fun e => by injection e; omega)).trans HB1.out
  have HO2 := Lib.hid ho2
  have HZ1 := Lib.hid hz1; have HLT1 := Lib.hid hlt1
  replace hg2 := grown_trans hg1 hg2
  obtain ⟨A, m, c, rfl, hm, _, _, _⟩ := ho2.rd
  subst hm
  clear ho2 HB1 hg1 hr1
  have HD := Lib.hid hd; clear hd
  have HB2 := Lib.hid hb2; clear hb2
  go_wp2_with fail
  refine (rd_LeastPasses xs.length n _).mono ?_
  rintro e _ ⟨x, rfl, hx1, hx2, rfl⟩
  have h2 := HB2.out
  have g0 : w2.cell? ⟨w.heap.size, 0, none⟩ = some (.int .i64 0) := by rw [cell_of_row _ _ _ _ _ _ h2]; rfl
  have g1 : w2.cell? ⟨w.heap.size, 1, none⟩ = some (.int .i64 0) := by rw [cell_of_row _ _ _ _ _ _ h2]; rfl
  have g2 : w2.cell? ⟨w.heap.size, 2, none⟩ = some (.slice none 0 0) := by rw [cell_of_row _ _ _ _ _ _ h2]; rfl
  have f0 : w2.frozen? ⟨w.heap.size, 0, none⟩ = false := by simp [World.frozen?, h2]
  have f1 : w2.frozen? ⟨w.heap.size, 1, none⟩ = false := by simp [World.frozen?, h2]
  have f2 : w2.frozen? ⟨w.heap.size, 2, none⟩ = false := by simp [World.frozen?, h2]
  clear h2
  have HR2 := Lib.hid hr2; have HG2 := Lib.hid hg2
  clear hr2 hg2
  by_cases hx : x < 1
  · go_wp2_with fail
    refine ret_box rfl rfl (three_set HB2.out) Tryz.underlying25 rfl Tryz.sizePln rfl ?_
    exact l3SomePost_of HO2.out HLT1.out HR2.out HG2.out hlt hq hn0 hn1 (by omega) (by omega) hl1 hl2 HD.out rfl
  · go_wp2_with fail
    refine ret_box rfl rfl (three_set HB2.out) Tryz.underlying25 rfl Tryz.sizePln rfl ?_
    exact l3SomePost_of HO2.out HLT1.out HR2.out HG2.out hlt hq hn0 hn1 (by omega) hx2 hl1 hl2 HD.out rfl

end Go.Proofs.YtpinkbodbedajaaGreatDoor

namespace Go.Proofs.YtpinkbodbedajaaGreatDoor
open Go.RowKit







end Go.Proofs.YtpinkbodbedajaaGreatDoor

namespace Go.Proofs.YtpinkbodbedajaaGreatDoor
open Go.RowKit



end Go.Proofs.YtpinkbodbedajaaGreatDoor

namespace Go.Proofs.YtpinkbodbedajaaGreatDoor
open Go.RowKit





end Go.Proofs.YtpinkbodbedajaaGreatDoor

namespace Go.Proofs.YtpinkbodbedajaaGreatDoor
open Go.RowKit




end Go.Proofs.YtpinkbodbedajaaGreatDoor
