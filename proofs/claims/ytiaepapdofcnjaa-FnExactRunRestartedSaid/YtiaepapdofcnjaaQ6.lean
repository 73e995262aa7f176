/- E3 L2 L3 L4 -/
import Derived.Test.YtiaepapdofcnjaaQ3
import Derived.Test.YtiaepapdofcnjaaQ2
namespace Go.Proofs.Ytiaepapdofcnjaa
open Go.RowKit

/-- The marks that 'markLetterS' leaves in n letters. -/
def marksL (k n : Nat) : List Ltr := (List.range n).map fun i => ⟨((k + 2 * i : Nat) : Int), markB (k + 2 * i + 1)⟩
theorem marksL_len (k n : Nat) : (marksL k n).length = n := by simp [marksL]
theorem marksL_get (k n i : Nat) (h : i < (marksL k n).length) : (marksL k n)[i] = ⟨((k + 2 * i : Nat) : Int), markB (k + 2 * i + 1)⟩ := by simp [marksL]
theorem markB_size (k : Nat) (hk : k ≤ 1099511627776) : (markB k).size ≤ maxLen := by
  unfold markB
  have := dec10_len k
  split
  · show 2 ≤ maxLen
    unfold maxLen; omega
  · show (109 :: dec10 k).toArray.size ≤ maxLen
    rw [List.size_toArray, List.length_cons]
    unfold maxLen; omega

/-- The first k letters marked. -/
def markedTo (k0 : Nat) (xs : List Ltr) (k : Nat) : List Ltr := marksL k0 k ++ xs.drop k
theorem markedTo_len {k0 : Nat} {xs : List Ltr} {k : Nat} (h : k ≤ xs.length) : (markedTo k0 xs k).length = xs.length := by
  simp [markedTo, marksL_len]; omega
theorem markedTo_step {k0 : Nat} {xs : List Ltr} {k : Nat} (h : k < xs.length) : (markedTo k0 xs k).set k ⟨((k0 + 2 * k : Nat) : Int), markB (k0 + 2 * k + 1)⟩ = markedTo k0 xs (k + 1) := by
  unfold markedTo
  rw [List.set_append_right _ _ (by rw [marksL_len]; exact Nat.le_refl _), marksL_len, Nat.sub_self, List.drop_eq_getElem_cons h, List.set_cons_zero]
  unfold marksL
  rw [List.range_succ, List.map_append]
  simp

set_option maxHeartbeats 400000 in
theorem laws_markLetterS (T base : Nat) (v : Value) (xs : List Ltr) (k0 : Nat) (w : World) (hv : own T base w v xs) (hk0 : k0 ≤ 274877906944) (hl : xs.length ≤ 1048576) :
    Calls Try.prog 24 #[v, .int .i64 k0] w fun e w' => e = .returned (.int .i64 ((k0 + 2 * xs.length : Nat) : Int)) ∧ own T base w' v (marksL k0 xs.length) ∧ w.grownBy w' v.ownBlock := by
  rcases hv.form with ⟨rfl, rfl⟩ | ⟨g, c, rfl, hg, hgl, hc, hm⟩
  · go_enter Try.func24, Try.ntmps24
    go_wp2
    go_loopw [1, 5] (fun t i wr => i = .int .i64 0 ∧ t = .int .i64 k0 ∧ wr = w) (fun _ _ _ => 0)
    case atStart => exact ⟨rfl, rfl, rfl⟩
    case round =>
      obtain ⟨rfl, rfl, rfl⟩ := hrel
      go_wp2
      go_ret
      exact ⟨ret_int (by simp), by simpa [marksL] using own.nil_ (α := Ltr) _ _ _, World.grownBy.refl _ _⟩
  · unfold maxLen at hm
    have HV := Lib.hid hv; clear hv
    go_enter Try.func24, Try.ntmps24
    go_wp2
    go_loopw [1, 5] (fun t i wr => ∃ (k m : Nat), k ≤ xs.length ∧ i = .int .i64 k ∧ t = .int .i64 m ∧ Hid (m = k0 + 2 * k) ∧ w.grownBy wr (some g) ∧ own T base wr (.slice (some ⟨g, 0, none⟩) xs.length c) (markedTo k0 xs k)) (fun _ i _ => xs.length - (intOf i).toNat)
    case atStart => exact ⟨0, k0, Nat.zero_le _, rfl, rfl, rfl, World.grownBy.refl _ _, by simpa [markedTo, marksL] using HV.out⟩
    case round =>
      obtain ⟨k, m, hk, rfl, rfl, HM, hgr, ho⟩ := hrel
      obtain ⟨w1, rfl⟩ : ∃ w1 : World, w1 = wr := ⟨_, rfl⟩
      have hmb : (m : Int) ≤ 824633720832 := by have := HM.out; omega
      by_cases hlt : k < xs.length
      · have hlen := markedTo_len (k0 := k0) hk
        have HST := Lib.hid (markedTo_step (k0 := k0) hlt)
        generalize markedTo k0 xs k = ys at *
        have HLEN := Lib.hid hlen; clear hlen
        have hlt' : k < ys.length := by rw [HLEN.out]; exact hlt
        have ho1 := ho.setCell (k := k) (j := 0) hlt' (by decide) (.int .i64 m) ⟨m, ys[k].code⟩ (fun ecs he => by
          obtain ⟨⟨h1, h2⟩, rfl⟩ := he
          exact ⟨⟨⟨by show _ ≤ (m : Int); omega, by show (m : Int) ≤ _; omega⟩, h2⟩, rfl⟩)
        obtain ⟨u0, g0⟩ := ho.cellAt (j := k * 2) (by show _ < _ * 2; omega)
        have f0 := ho.freeAt (k * 2)
        have HO1 := Lib.hid ho1; clear ho1
        have HO := Lib.hid ho; clear ho
        have hgr1 : w.grownBy (w1.setCell ⟨g, k * 2, none⟩ (.int .i64 m)) (some g) := grown_setCell hgr (.inl rfl) _
        go_wp2_with fail
        refine (laws_markText (m + 1) _ (by omega)).mono ?_
        rintro e w2 ⟨rfl, hb3⟩
        have hgr2 : w.grownBy w2 (some g) := grown_below hgr1 hb3
        have ho2 := HO1.out.below hb3
        have hlt2 : k < (ys.set k ⟨m, ys[k].code⟩).length := by simpa using hlt'
        have ho3 := ho2.setCell (k := k) (j := 1) hlt2 (by decide) (.string (markB (m + 1))) ⟨m, markB (m + 1)⟩ (fun ecs he => by
          obtain ⟨⟨h1, h2⟩, rfl⟩ := he
          refine ⟨⟨?_, markB_size (m + 1) (by omega)⟩, ?_⟩
          · simpa using h1
          · simp [Ltr.cells])
        obtain ⟨u1, g1⟩ := ho2.cellAt (j := k * 2 + 1) (by show _ < _ * 2; rw [List.length_set]; omega)
        have f1 := ho2.freeAt (k * 2 + 1)
        have HO3 := Lib.hid ho3; clear ho3 ho2
        have hgr3 : w.grownBy (w2.setCell ⟨g, k * 2 + 1, none⟩ (.string (markB (m + 1)))) (some g) := grown_setCell hgr2 (.inl rfl) _
        clear hgr1 hb3
        go_wp2_with fail
        go_roundw
        case rel =>
          refine ⟨k + 1, m + 2, by omega, by go_num, by go_num, by show _ = _; have := HM.out; omega, hgr3, ?_⟩
          have := HO3.out
          rw [List.set_set] at this
          have hm2 := HM.out
          subst hm2
          rw [HST.out] at this
          exact this
        case measure => simp [intOf]; omega
      · have HE := Lib.hid (show k = xs.length by omega)
        have HO := Lib.hid ho; clear ho
        go_wp2
        go_ret
        refine ⟨ret_int ?_, ?_, hgr⟩
        · have := HM.out; have := HE.out; omega
        · have := HO.out
          have h2 := HE.out
          subst h2
          rw [markedTo, List.drop_length, List.append_nil] at this
          exact this

set_option maxHeartbeats 400000 in
theorem laws_heldLetterS (v : Value) (n k0 : Nat) (w : World) (hv : rd w w.heap.size v (marksL k0 n)) (hk0 : k0 ≤ 274877906944) (hl : n ≤ 1048576) :
    Calls Try.prog 26 #[v, .int .i64 k0] w fun e w' => e = .returned (.int .i64 ((k0 + 2 * n : Nat) : Int)) ∧ Below w.heap.size w w' := by
  obtain ⟨A, n', c, rfl, hn, hc, hm, hr⟩ := hv
  rw [marksL_len] at hn
  subst hn
  unfold maxLen at hm
  have HR := Lib.hid hr; clear hr
  go_enter Try.func26, Try.ntmps26
  go_wp2
  go_loopw [1, 5] (fun t i wr => ∃ (k m : Nat), k ≤ n' ∧ i = .int .i64 k ∧ t = .int .i64 m ∧ Hid (m = k0 + 2 * k) ∧ Below w.heap.size w wr) (fun _ i _ => n' - (intOf i).toNat)
  case atStart => exact ⟨0, k0, Nat.zero_le _, rfl, rfl, rfl, Below.refl _ _⟩
  case round =>
    obtain ⟨k, m, hk, rfl, rfl, HM, hbl⟩ := hrel
    obtain ⟨w1, rfl⟩ : ∃ w1 : World, w1 = wr := ⟨_, rfl⟩
    have hmb : (m : Int) ≤ 824633720832 := by have := HM.out; omega
    by_cases hlt : k < n'
    · obtain ⟨b, o, rfl, hb, _, c1, c2⟩ := HR.out.ltr k (by rw [marksL_len]; exact hlt)
      rw [marksL_get] at c1 c2
      have hm2 := HM.out
      rw [← hm2] at c1 c2
      clear hm2
      have c1' : w1.cell? ⟨b, o + k * 2, none⟩ = some (.int .i64 m) := (hbl.cell (p := ⟨b, o + k * 2, none⟩) hb).trans c1
      have c2' : w1.cell? ⟨b, o + k * 2 + 1, none⟩ = some (.string (markB (m + 1))) := (hbl.cell (p := ⟨b, o + k * 2 + 1, none⟩) hb).trans c2
      clear c1 c2
      have hmm : ((m : Int) != (m : Int)) = false := by simp
      have hbz := hbl.size
      have hkn : (k : Int) < (n' : Int) := by omega
      go_wp2
      go_region_held3 (fun w' => w'.cell? ⟨b, o + k * 2 + 1, none⟩ = some (.string (markB (m + 1))))
        (first | go_keep | (exact (hb3.cell (p := ⟨b, o + k * 2 + 1, none⟩) (by simp; omega)).trans (by go_simp)))
        (first | (go_at_call 77; refine (laws_markText (m + 1) _ (by omega)).mono ?_; rintro e w2 ⟨rfl, hb3⟩))
      have hb4 : Below w.heap.size w w2 := hbl.trans ((Below.refl _ _).drew.trans (hb3.mono hbz))
      go_wp2
      go_roundw
      case rel => exact ⟨k + 1, m + 2, by omega, by go_num, by go_num, by show _ = _; have := HM.out; omega, hb4⟩
      case measure => simp [intOf]; omega
    · have HE := Lib.hid (show k = n' by omega)
      go_wp2
      go_ret
      exact ⟨ret_int (by have := HM.out; have := HE.out; omega), hbl⟩

end Go.Proofs.Ytiaepapdofcnjaa

namespace Go.Proofs.Ytiaepapdofcnjaa
open Go.RowKit

/-- The index of the first string that is c; the length if there is none. -/
def rk : List ByteArray → ByteArray → Nat
  | [], _ => 0
  | d :: ds, c => if sEq d c then 0 else rk ds c + 1
theorem rk_cons (d : ByteArray) (ds : List ByteArray) (c : ByteArray) : rk (d :: ds) c = if sEq d c then 0 else rk ds c + 1 := rfl
theorem rk_le : ∀ (cs : List ByteArray) (c : ByteArray), rk cs c ≤ cs.length
  | [], _ => Nat.le_refl _
  | d :: ds, c => by unfold rk; split; · exact Nat.zero_le _
                     · have := rk_le ds c; simp; omega
theorem rk_before : ∀ (cs : List ByteArray) (c : ByteArray) (k : Nat) (h : k < cs.length), k < rk cs c → sEq cs[k] c = false
  | [], _, k, h, _ => absurd h (Nat.not_lt_zero k)
  | d :: ds, c, 0, _, hk => by
    unfold rk at hk
    split at hk
    · omega
    · rename_i h
      simpa using h
  | d :: ds, c, k + 1, h, hk => by
    unfold rk at hk
    split at hk
    · omega
    · exact rk_before ds c k (by simpa using h) (by omega)
theorem rk_at : ∀ (cs : List ByteArray) (c : ByteArray) (h : rk cs c < cs.length), sEq cs[rk cs c] c = true
  | [], _, h => absurd h (Nat.not_lt_zero _)
  | d :: ds, c, h => by
    by_cases hd : sEq d c = true
    · have e : rk (d :: ds) c = 0 := by rw [rk_cons, if_pos hd]
      simp only [e]
      exact hd
    · have e : rk (d :: ds) c = rk ds c + 1 := by rw [rk_cons, if_neg hd]
      have h' : rk ds c < ds.length := by rw [e] at h; simpa using h
      simp only [e]
      exact rk_at ds c h'
theorem rk_eq {cs : List ByteArray} {c : ByteArray} {k : Nat} (h : k < cs.length) (h1 : ∀ j (hj : j < k), sEq cs[j] c = false) (h2 : sEq cs[k] c = true) : rk cs c = k := by
  rcases Nat.lt_trichotomy (rk cs c) k with hlt | heq | hgt
  · have := h1 _ hlt
    rw [rk_at cs c (by omega)] at this
    cases this
  · exact heq
  · have := rk_before cs c k h hgt
    rw [h2] at this
    cases this
theorem rk_none {cs : List ByteArray} {c : ByteArray} (h : ∀ j (hj : j < cs.length), sEq cs[j] c = false) : rk cs c = cs.length := by
  rcases Nat.lt_or_eq_of_le (rk_le cs c) with hlt | heq
  · have := h _ hlt
    rw [rk_at cs c hlt] at this
    cases this
  · exact heq
/-- Go's slices.Index: -1 if there is none. -/
def rkI (cs : List ByteArray) (c : ByteArray) : Int := if rk cs c < cs.length then (rk cs c : Int) else -1
theorem rkI_pos {cs : List ByteArray} {c : ByteArray} (h : rk cs c < cs.length) : rkI cs c = (rk cs c : Int) := by unfold rkI; rw [if_pos h]
theorem rkI_neg {cs : List ByteArray} {c : ByteArray} (h : ¬ rk cs c < cs.length) : rkI cs c = -1 := by unfold rkI; rw [if_neg h]
theorem rkI_range (cs : List ByteArray) (c : ByteArray) : -1 ≤ rkI cs c ∧ rkI cs c < cs.length := by
  unfold rkI
  split <;> omega
/-- The bin of a code in a pass; -1 if it has no rank. -/
def binI (p : Pln) (c : ByteArray) (pass : Nat) : Int := if rkI p.order c < 0 then -1 else rkI p.order c / powI p.bins pass % p.bins

/-! ### Missorts -/
def goodM (bins : Int) (ms : List Mis) (k : Nat) : Bool :=
  match ms[k]? with
  | none => false
  | some x => (decide (1 ≤ x.id) && decide (x.id ≤ 9999)) && (decide (0 ≤ x.bin) && decide (x.bin < bins)) && (ms.take k).all (fun y => y.id != x.id)
def misOk (p : Pln) (ms : List Mis) : Bool := planOk p && decide (ms.length ≤ 60) && (List.range ms.length).all (goodM p.bins ms)
theorem misOk_bad {p : Pln} {ms : List Mis} {k : Nat} (hk : k < ms.length) (h : goodM p.bins ms k = false) : misOk p ms = false := by
  unfold misOk
  rw [Bool.and_eq_false_iff]
  exact .inr (List.all_eq_false.2 ⟨k, by simpa using hk, by simp [h]⟩)
theorem misOk_good {p : Pln} {ms : List Mis} (hp : planOk p = true) (h60 : ms.length ≤ 60) (h : ∀ j, j < ms.length → goodM p.bins ms j = true) : misOk p ms = true := by
  unfold misOk
  rw [hp, decide_eq_true h60]
  exact List.all_eq_true.2 fun k hk => h k (by simpa using hk)
theorem misOk_plan {p : Pln} {ms : List Mis} (h : planOk p = false) : misOk p ms = false := by unfold misOk; rw [h]; rfl
theorem misOk_len {p : Pln} {ms : List Mis} (h : ¬ ms.length ≤ 60) : misOk p ms = false := by unfold misOk; rw [decide_eq_false h]; simp
theorem goodM_of {bins : Int} {ms : List Mis} {k : Nat} (hk : k < ms.length) : goodM bins ms k = ((decide (1 ≤ ms[k].id) && decide (ms[k].id ≤ 9999)) && (decide (0 ≤ ms[k].bin) && decide (ms[k].bin < bins)) && (ms.take k).all (fun y => y.id != ms[k].id)) := by
  unfold goodM
  rw [List.getElem?_eq_getElem hk]
theorem planOk_iff {p : Pln} : planOk p = true ↔ (2 ≤ p.bins ∧ p.bins ≤ 16 ∧ 1 ≤ p.passes ∧ p.passes ≤ 4) ∧ (1 ≤ p.order.length ∧ p.order.length ≤ 60) ∧ (p.order.length : Int) ≤ powI p.bins p.passes.toNat ∧ codesOk p.order = true := by
  unfold planOk
  simp only [Bool.and_eq_true, decide_eq_true_iff, shapeOk_iff]
  constructor
  · rintro ⟨⟨⟨h1, h2⟩, h3⟩, h4⟩; exact ⟨h1, h2, h3, h4⟩
  · rintro ⟨h1, h2, h3, h4⟩; exact ⟨⟨⟨h1, h2⟩, h3⟩, h4⟩

end Go.Proofs.Ytiaepapdofcnjaa

namespace Go.Proofs.Ytiaepapdofcnjaa
open Go.RowKit

/-- The greatest length among those whose rank is at most n. -/
def topLe (L : List (Nat × Nat)) (n : Nat) : Nat := L.foldl (fun a x => if x.1 ≤ n then max a x.2 else a) 0
/-- The greatest length among those of rank n. -/
def topEq (L : List (Nat × Nat)) (n : Nat) : Nat := L.foldl (fun a x => if x.1 = n then max a x.2 else a) 0
def bestK (L : List (Nat × Nat)) : Nat := L.foldl (fun a x => max a x.2) 0
def stepK (L : List (Nat × Nat)) (r : Int) : List (Nat × Nat) := if r < 0 then L else L ++ [(r.toNat, topLe L r.toNat + 1)]
def runK (rs : List Int) : List (Nat × Nat) := rs.foldl stepK []
theorem topLe_snoc (L : List (Nat × Nat)) (x : Nat × Nat) (n : Nat) : topLe (L ++ [x]) n = if x.1 ≤ n then max (topLe L n) x.2 else topLe L n := by
  unfold topLe; rw [List.foldl_append]; rfl
theorem topEq_snoc (L : List (Nat × Nat)) (x : Nat × Nat) (n : Nat) : topEq (L ++ [x]) n = if x.1 = n then max (topEq L n) x.2 else topEq L n := by
  unfold topEq; rw [List.foldl_append]; rfl
theorem bestK_snoc (L : List (Nat × Nat)) (x : Nat × Nat) : bestK (L ++ [x]) = max (bestK L) x.2 := by
  unfold bestK; rw [List.foldl_append]; rfl
theorem runK_snoc (rs : List Int) (r : Int) : runK (rs ++ [r]) = stepK (runK rs) r := by
  unfold runK; rw [List.foldl_append]; rfl
theorem runK_succ (rs : List Int) (k : Nat) (h : k < rs.length) : runK (rs.take (k + 1)) = stepK (runK (rs.take k)) rs[k] := by
  rw [List.take_succ_eq_append_getElem h, runK_snoc]
/-- The greatest of g 0 .. g n. -/
def maxTo (g : Nat → Nat) : Nat → Nat
  | 0 => g 0
  | n + 1 => max (maxTo g n) (g (n + 1))
theorem maxTo_congr {g g' : Nat → Nat} : ∀ n, (∀ j, j ≤ n → g j = g' j) → maxTo g n = maxTo g' n
  | 0, h => h 0 (Nat.le_refl _)
  | n + 1, h => by unfold maxTo; rw [maxTo_congr n fun j hj => h j (by omega), h (n + 1) (Nat.le_refl _)]
theorem maxTo_set (g : Nat → Nat) (r f : Nat) : ∀ n, maxTo (fun j => if r = j then max (g j) f else g j) n = if r ≤ n then max (maxTo g n) f else maxTo g n
  | 0 => by
    unfold maxTo
    by_cases h : r = 0
    · simp [h]
    · simp [h]
  | n + 1 => by
    unfold maxTo
    rw [maxTo_set g r f n]
    by_cases h1 : r ≤ n
    · rw [if_pos h1, if_neg (by omega), if_pos (by omega)]; omega
    · rw [if_neg h1]
      by_cases h2 : r = n + 1
      · rw [if_pos h2, if_pos (by omega)]; omega
      · rw [if_neg h2, if_neg (by omega)]
theorem maxTo_zero : ∀ n, maxTo (fun _ => 0) n = 0
  | 0 => rfl
  | n + 1 => by unfold maxTo; rw [maxTo_zero n]; rfl
theorem snoc_ind {α : Type} {p : List α → Prop} (h0 : p []) (h1 : ∀ l a, p l → p (l ++ [a])) (l : List α) : p l := by
  have : ∀ n (l : List α), l.length = n → p l := fun n => by
    induction n with
    | zero => intro l hl; rw [List.length_eq_zero_iff.1 hl]; exact h0
    | succ n ih =>
      intro l hl
      have hne : l ≠ [] := by intro h; rw [h] at hl; simp at hl
      rw [← List.dropLast_concat_getLast hne]
      exact h1 _ _ (ih _ (by simp [hl]))
  exact this _ l rfl
theorem topLe_eq (L : List (Nat × Nat)) (n : Nat) : maxTo (topEq L) n = topLe L n := by
  induction L using snoc_ind with
  | h0 => exact maxTo_zero n
  | h1 L x ih =>
    rw [topLe_snoc, ← ih, ← maxTo_set]
    exact maxTo_congr n fun j _ => topEq_snoc L x j
theorem topEq_le_maxTo (g : Nat → Nat) : ∀ n j, j ≤ n → g j ≤ maxTo g n
  | 0, j, h => by obtain rfl : j = 0 := by omega
                  exact Nat.le_refl _
  | n + 1, j, h => by
    unfold maxTo
    by_cases hj : j = n + 1
    · rw [hj]; omega
    · have := topEq_le_maxTo g n j (by omega); omega
theorem topEq_step (L : List (Nat × Nat)) (r j : Nat) : topEq (L ++ [(r, topLe L r + 1)]) j = if r = j then topLe L r + 1 else topEq L j := by
  rw [topEq_snoc]
  by_cases h : r = j
  · subst h
    simp only [if_true]
    have := topEq_le_maxTo (topEq L) r r (Nat.le_refl _)
    rw [topLe_eq] at this
    omega
  · rw [if_neg h, if_neg h]
theorem runK_len (rs : List Int) : (runK rs).length ≤ rs.length := by
  induction rs using snoc_ind with
  | h0 => exact Nat.le_refl _
  | h1 rs r ih =>
    rw [runK_snoc]
    unfold stepK
    split
    · simp; omega
    · simp; omega
theorem topLe_bound (rs : List Int) (n : Nat) : topLe (runK rs) n ≤ rs.length ∧ bestK (runK rs) ≤ rs.length := by
  induction rs using snoc_ind generalizing n with
  | h0 => exact ⟨Nat.le_refl _, Nat.le_refl _⟩
  | h1 rs r ih =>
    rw [runK_snoc]
    unfold stepK
    have h1 := ih n
    split
    · simp; omega
    · have h2 := ih r.toNat
      rw [topLe_snoc, bestK_snoc]
      simp only [List.length_append, List.length_cons, List.length_nil]
      split <;> omega

/-- How many letters can stay: all ranks in their order. -/
def ranksOf (p : Pln) (xs : List Ltr) : List Int := xs.map fun x => rkI p.order x.code
def keptN (p : Pln) (xs : List Ltr) : Nat := bestK (runK (ranksOf p xs))
def keptI (p : Pln) (xs : List Ltr) : Int := if planOk p && okB xs then keptN p xs else -1

end Go.Proofs.Ytiaepapdofcnjaa

namespace Go.Proofs.Ytiaepapdofcnjaa
open Go.RowKit

/-- The row g 0, .., g (n - 1). -/
def rowK (g : Nat → Nat) (n : Nat) : List Int := (List.range n).map fun j => ((g j : Nat) : Int)
theorem rowK_len (g : Nat → Nat) (n : Nat) : (rowK g n).length = n := by simp [rowK]
theorem rowK_get (g : Nat → Nat) (n k : Nat) (h : k < (rowK g n).length) : (rowK g n)[k] = ((g k : Nat) : Int) := by simp [rowK]
theorem rowK_take (g : Nat → Nat) (n k : Nat) (h : k ≤ n) : (rowK g n).take k = rowK g k := by
  apply List.ext_getElem
  · simp [rowK_len]; omega
  · intro i h1 h2
    rw [List.getElem_take, rowK_get, rowK_get]
theorem rowK_set (g : Nat → Nat) (n r f : Nat) : (rowK g n).set r (f : Int) = rowK (fun j => if r = j then f else g j) n := by
  apply List.ext_getElem
  · simp [rowK_len]
  · intro i h1 h2
    rw [List.getElem_set, rowK_get, rowK_get]
    split <;> rfl
theorem rowK_congr {g g' : Nat → Nat} {n : Nat} (h : ∀ j, j < n → g j = g' j) : rowK g n = rowK g' n := by
  apply List.ext_getElem
  · simp [rowK_len]
  · intro i h1 h2
    rw [rowK_get, rowK_get, h i (by simpa [rowK_len] using h1)]

theorem own_setInt {T base g n c : Nat} {w : World} {xs : List Int} (h : own T base w (.slice (some ⟨g, 0, none⟩) n c) xs) {k : Nat} (hk : k < xs.length) (y : Int) (hy : isI64 y) :
    own T base (w.setCell ⟨g, k, none⟩ (.int .i64 y)) (.slice (some ⟨g, 0, none⟩) n c) (xs.set k y) := by
  have h1 := h.setCell (k := k) (j := 0) hk (by decide) (.int .i64 y) y (fun ecs he => by
    obtain ⟨_, rfl⟩ := he
    exact ⟨hy, rfl⟩)
  rw [show k * El.size Int + 0 = k from Nat.mul_one k] at h1
  exact h1

theorem Try.infoInt : (Try.prog.info? 3).map (fun i => (i.zero, i.size, i.bytes)) = some (some (.int .i64 0), 1, 8) := by kernel_rfl

theorem own_zeros (w : World) (n base : Nat) (hb : base ≤ w.heap.size) (hn : n ≤ maxLen) : own 3 base (w.alloc (.cells (madeCells #[.int .i64 0] n) 3)) (.slice (some ⟨w.heap.size, 0, none⟩) n n) (rowK (fun _ => 0) n) := by
  have hf : filled 3 (w.alloc (.cells (madeCells #[.int .i64 0] n) 3)) w.heap.size n n (rowK (fun _ => 0) n) := by
    refine ⟨madeCells #[.int .i64 0] n, heap_alloc_new w _, by rw [size_madeCells]; exact (Nat.mul_one _).symm, fun i hi hin => ⟨[.int .i64 0], ⟨?_, ?_⟩, fun j u hu => ?_⟩⟩
    · rw [rowK_get]; unfold isI64; omega
    · rw [rowK_get]; rfl
    · have hj : j = 0 := by
        cases j with
        | zero => rfl
        | succ j => simp at hu
      subst hj
      simp at hu
      subst hu
      rw [show i * El.size Int + 0 = i from Nat.mul_one i]
      simp [madeCells, Nat.mod_one, show i < n by simpa [rowK_len] using hi]
  exact hf.own (by rw [rowK_len]) hb hn


end Go.Proofs.Ytiaepapdofcnjaa
