/- G2 U0 L2 -/
import Derived.Test.YtmangjjaijhcnaaQ3
import Derived.Test.YtmangjjaijhcnaaQ4
import Derived.Deep.QuietTactic
import Derived.BigQuiet
import Derived.Test.YtmangjjaijhcnaaQ2
namespace Go.Proofs.Ytmangjjaijhcnaa
open Go.RowKit

/-- What is left of l when n is taken; -1 if that is too much. -/
def leftOf (l n : Int) : Int := if l < n then -1 else l - n
def sumStr (xs : List ByteArray) : Nat := (xs.map fun x => x.size).sum
theorem sumStr_succ (xs : List ByteArray) (k : Nat) (h : k < xs.length) : sumStr (xs.take (k + 1)) = sumStr (xs.take k) + xs[k].size := by
  unfold sumStr; rw [List.take_succ_eq_append_getElem h, List.map_append, List.sum_append]; simp
theorem sumStr_le (xs : List ByteArray) (k : Nat) : sumStr (xs.take k) ≤ sumStr xs := by
  unfold sumStr
  conv => rhs; rw [← List.take_append_drop k xs, List.map_append, List.sum_append]
  omega



def planSz (p : Pln) : Int := p.order.length + sumStr p.order
theorem leftOf_range {l n : Int} (h1 : l ≤ 1048576) (hn : 0 ≤ n) : -1 ≤ leftOf l n ∧ leftOf l n ≤ 1048576 ∨ l < 0 := by
  unfold leftOf
  split <;> omega

theorem Try.infoStr : (Try.prog.info? 9).map (fun i => (i.zero, i.size, i.bytes)) = some (some (.string ⟨#[]⟩), 1, 16) := by kernel_rfl


set_option maxHeartbeats 400000 in
theorem laws_eqStringS (v v' : Value) (xs ys : List ByteArray) (w : World) (hv : rd w w.heap.size v xs) (hv' : rd w w.heap.size v' ys) :
    Calls Try.prog 33 #[v, v'] w fun e w' => e = .returned (.bool (eqBy sEq xs ys)) ∧ Below w.heap.size w w' := by
  obtain ⟨A, n, c, rfl, hn, hc, hm, hr⟩ := hv
  obtain ⟨A', n', c', rfl, hn', hc', hm', hr'⟩ := hv'
  subst hn hn'
  unfold maxLen at hm hm'
  have HR := Lib.hid hr; clear hr
  have HR' := Lib.hid hr'; clear hr'
  go_enter Try.func33, Try.ntmps33
  by_cases hl : xs.length = ys.length
  · have hl1 : ((xs.length : Int) != (ys.length : Int)) = false := by simp [hl]
    have HL := Lib.hid hl; clear hl
    go_wp2
    go_loopw [5] (fun i wr => ∃ k : Nat, k ≤ xs.length ∧ i = .int .i64 k ∧ Below w.heap.size w wr ∧ Hid (∀ j (h1 : j < xs.length) (h2 : j < ys.length), j < k → sEq xs[j] ys[j] = true)) (fun i _ => xs.length - (intOf i).toNat)
    case atStart => exact ⟨0, Nat.zero_le _, rfl, Below.refl _ _, fun j _ _ hj => absurd hj (Nat.not_lt_zero j)⟩
    case round =>
      obtain ⟨k, hk, rfl, hbl, HG⟩ := hrel
      obtain ⟨w1, rfl⟩ : ∃ w1 : World, w1 = wr := ⟨_, rfl⟩
      by_cases hlt : k < xs.length
      · have hlt' : k < ys.length := by rw [← HL.out]; exact hlt
        obtain ⟨b, o, rfl, hb, _, c1⟩ := HR.out.str k hlt
        obtain ⟨b', o', rfl, hb', _, d1⟩ := HR'.out.str k hlt'
        have hbad := Lib.hid (fun h => eqBy_bad (p := sEq) k hlt hlt' h)
        have HX : Hid (∀ h : sEq xs[k] ys[k] = true, ∀ j (h1 : j < xs.length) (h2 : j < ys.length), j < k + 1 → sEq xs[j] ys[j] = true) := fun h j h1 h2 hj => by
          by_cases hjk : j < k
          · exact HG.out j h1 h2 hjk
          · obtain rfl : j = k := by omega
            exact h
        generalize xs[k] = x at *
        generalize ys[k] = y at *
        have c1' : w1.cell? ⟨b, o + k, none⟩ = some (.string x) := (hbl.cell (p := ⟨b, o + k, none⟩) hb).trans c1
        have d1' : w1.cell? ⟨b', o' + k, none⟩ = some (.string y) := (hbl.cell (p := ⟨b', o' + k, none⟩) hb').trans d1
        clear c1 d1
        have hki : (k : Int) < (xs.length : Int) := by omega
        have hki' : (k : Int) < (ys.length : Int) := by omega
        cases he : sEq x y
        · have he' := Lib.hid he
          have hq : (x.toList == y.toList) = false := he
          clear he
          go_wp2
          go_quiet (fail)
          go_wp2
          go_ret
          exact ⟨ret_bool (hbad.out he'.out).symm, below_drewN hbl _⟩
        · have he' := Lib.hid he
          have hq : (x.toList == y.toList) = true := he
          clear he
          go_wp2
          go_quiet (fail)
          go_wp2
          go_roundw
          case rel => exact ⟨k + 1, by omega, by go_num, below_drewN hbl _, HX.out he'.out⟩
          case measure => simp [intOf]; omega
      · have HE := Lib.hid (show k = xs.length by omega)
        go_wp2
        go_ret
        exact ⟨ret_bool (eqBy_good HL.out fun j h1 h2 => HG.out j h1 h2 (by rw [HE.out]; exact h1)).symm, hbl⟩
  · have hl1 : ((xs.length : Int) != (ys.length : Int)) = true := by simp; omega
    have HL := Lib.hid hl; clear hl
    go_wp2
    go_ret
    exact ⟨ret_bool (eqBy_len HL.out).symm, Below.refl _ _⟩



end Go.Proofs.Ytmangjjaijhcnaa

namespace Go.Proofs.Ytmangjjaijhcnaa
open Go.RowKit

theorem leftOf_ok {l : Int} {n : Nat} (h : 0 ≤ leftOf l n) (hl : l ≤ 1048576) : 0 ≤ leftOf l n ∧ leftOf l n ≤ 1048576 ∧ n ≤ 1048576 := by
  unfold leftOf at *
  split at h <;> rename_i h1
  · omega
  · rw [if_neg h1]; omega
theorem lessOr_eq (l n : Int) : lessOr l n = leftOf l n := rfl
theorem leftOf_leftOf (l : Int) (m n : Nat) (hl : 0 ≤ l) : (if leftOf l m < 0 then -1 else leftOf (leftOf l m) n) = leftOf l ((m + n : Nat) : Int) := by
  unfold leftOf
  by_cases h : l < (m : Int)
  · rw [if_pos h]; simp only [show (-1 : Int) < 0 by omega, if_true]; rw [if_pos (by omega)]
  · rw [if_neg h, if_neg (by omega)]
    by_cases h2 : l - m < (n : Int)
    · rw [if_pos h2, if_pos (by omega)]
    · rw [if_neg h2, if_neg (by omega)]; omega

/-! plans -/
def szP (p : Pln) : Nat := p.order.length + sumStr p.order
/-! letters -/
def szL (xs : List Ltr) : Nat := xs.length + sumSz xs
theorem u_szL (v : Value) (xs : List Ltr) (l : Int) (w : World) (hv : rd w w.heap.size v xs) (h0 : 0 ≤ l) (h1 : l ≤ 1048576) :
    Calls Try.prog 17 #[v, .int .i64 l] w fun e w' => e = .returned (.int .i64 (leftOf l (szL xs : Nat))) ∧ Below w.heap.size w w' := by
  rw [show leftOf l (szL xs : Nat) = lessOr l (xs.length + sumSz xs) by unfold szL; rw [Int.natCast_add, lessOr_eq]]
  exact laws_szLetterS v xs l w hv h0 h1
theorem u_toL (v : Value) (xs : List Ltr) (w : World) (hv : rd w w.heap.size v xs) (hs : szL xs ≤ 1048576) :
    Calls Try.prog 20 #[v] w fun e w' => ∃ v', e = .returned v' ∧ own 55 w.heap.size w' v' xs ∧ Below w.heap.size w w' :=
  laws_toLetterS v xs w hv (by unfold szL at hs; omega)
theorem u_eqL (v v' : Value) (xs : List Ltr) (w : World) (hv : rd w w.heap.size v xs) (hv' : rd w w.heap.size v' xs) :
    Calls Try.prog 23 #[v, v'] w fun e w' => e = .returned (.bool true) ∧ Below w.heap.size w w' := by
  have h := laws_eqLetterS v v' xs xs w hv hv'
  rw [show eqBy ltrEq xs xs = true from (eqBy_iff ltrEq_iff).2 rfl] at h
  exact h


end Go.Proofs.Ytmangjjaijhcnaa

namespace Go.Proofs.Ytmangjjaijhcnaa
open Go.RowKit

/-- The index of the first string that is c; the length if there is none. -/
def rk : List ByteArray → ByteArray → Nat
  | [], _ => 0
  | d :: ds, c => if sEq d c then 0 else rk ds c + 1
theorem rk_cons (d : ByteArray) (ds : List ByteArray) (c : ByteArray) : rk (d :: ds) c = if sEq d c then 0 else rk ds c + 1 := rfl
theorem rk_le : ∀ (cs : List ByteArray) (c : ByteArray), rk cs c ≤ cs.length
  | [], _ => Nat.le_refl _
  | d :: ds, c => by unfold rk; split; · exact Nat.zero_le _
                     · have := rk_le ds c; simp; omega
theorem rk_before : ∀ (cs : List ByteArray) (c : ByteArray) (k : Nat) (h : k < cs.length), k < rk cs c → sEq cs[k] c = false
  | [], _, k, h, _ => absurd h (Nat.not_lt_zero k)
  | d :: ds, c, 0, _, hk => by
    unfold rk at hk
    split at hk
    · omega
    · rename_i h
      simpa using h
  | d :: ds, c, k + 1, h, hk => by
    unfold rk at hk
    split at hk
    · omega
    · exact rk_before ds c k (by simpa using h) (by omega)
theorem rk_at : ∀ (cs : List ByteArray) (c : ByteArray) (h : rk cs c < cs.length), sEq cs[rk cs c] c = true
  | [], _, h => absurd h (Nat.not_lt_zero _)
  | d :: ds, c, h => by
    by_cases hd : sEq d c = true
    · have e : rk (d :: ds) c = 0 := by rw [rk_cons, if_pos hd]
      simp only [e]
      exact hd
    · have e : rk (d :: ds) c = rk ds c + 1 := by rw [rk_cons, if_neg hd]
      have h' : rk ds c < ds.length := by rw [e] at h; simpa using h
      simp only [e]
      exact rk_at ds c h'
theorem rk_eq {cs : List ByteArray} {c : ByteArray} {k : Nat} (h : k < cs.length) (h1 : ∀ j (hj : j < k), sEq cs[j] c = false) (h2 : sEq cs[k] c = true) : rk cs c = k := by
  rcases Nat.lt_trichotomy (rk cs c) k with hlt | heq | hgt
  · have := h1 _ hlt
    rw [rk_at cs c (by omega)] at this
    cases this
  · exact heq
  · have := rk_before cs c k h hgt
    rw [h2] at this
    cases this
theorem rk_none {cs : List ByteArray} {c : ByteArray} (h : ∀ j (hj : j < cs.length), sEq cs[j] c = false) : rk cs c = cs.length := by
  rcases Nat.lt_or_eq_of_le (rk_le cs c) with hlt | heq
  · have := h _ hlt
    rw [rk_at cs c hlt] at this
    cases this
  · exact heq
/-- Go's slices.Index: -1 if there is none. -/
def rkI (cs : List ByteArray) (c : ByteArray) : Int := if rk cs c < cs.length then (rk cs c : Int) else -1
theorem rkI_pos {cs : List ByteArray} {c : ByteArray} (h : rk cs c < cs.length) : rkI cs c = (rk cs c : Int) := by unfold rkI; rw [if_pos h]
theorem rkI_neg {cs : List ByteArray} {c : ByteArray} (h : ¬ rk cs c < cs.length) : rkI cs c = -1 := by unfold rkI; rw [if_neg h]
theorem rkI_range (cs : List ByteArray) (c : ByteArray) : -1 ≤ rkI cs c ∧ rkI cs c < cs.length := by
  unfold rkI
  split <;> omega
/-- The bin of a code in a pass; -1 if it has no rank. -/
def binI (p : Pln) (c : ByteArray) (pass : Nat) : Int := if rkI p.order c < 0 then -1 else rkI p.order c / powI p.bins pass % p.bins

/-! ### Missorts -/
def goodM (bins : Int) (ms : List Mis) (k : Nat) : Bool :=
  match ms[k]? with
  | none => false
  | some x => (decide (1 ≤ x.id) && decide (x.id ≤ 9999)) && (decide (0 ≤ x.bin) && decide (x.bin < bins)) && (ms.take k).all (fun y => y.id != x.id)
def misOk (p : Pln) (ms : List Mis) : Bool := planOk p && decide (ms.length ≤ 60) && (List.range ms.length).all (goodM p.bins ms)
theorem misOk_bad {p : Pln} {ms : List Mis} {k : Nat} (hk : k < ms.length) (h : goodM p.bins ms k = false) : misOk p ms = false := by
  unfold misOk
  rw [Bool.and_eq_false_iff]
  exact .inr (List.all_eq_false.2 ⟨k, by simpa using hk, by simp [h]⟩)
theorem misOk_good {p : Pln} {ms : List Mis} (hp : planOk p = true) (h60 : ms.length ≤ 60) (h : ∀ j, j < ms.length → goodM p.bins ms j = true) : misOk p ms = true := by
  unfold misOk
  rw [hp, decide_eq_true h60]
  exact List.all_eq_true.2 fun k hk => h k (by simpa using hk)
theorem misOk_plan {p : Pln} {ms : List Mis} (h : planOk p = false) : misOk p ms = false := by unfold misOk; rw [h]; rfl
theorem misOk_len {p : Pln} {ms : List Mis} (h : ¬ ms.length ≤ 60) : misOk p ms = false := by unfold misOk; rw [decide_eq_false h]; simp
theorem goodM_of {bins : Int} {ms : List Mis} {k : Nat} (hk : k < ms.length) : goodM bins ms k = ((decide (1 ≤ ms[k].id) && decide (ms[k].id ≤ 9999)) && (decide (0 ≤ ms[k].bin) && decide (ms[k].bin < bins)) && (ms.take k).all (fun y => y.id != ms[k].id)) := by
  unfold goodM
  rw [List.getElem?_eq_getElem hk]
theorem planOk_iff {p : Pln} : planOk p = true ↔ (2 ≤ p.bins ∧ p.bins ≤ 16 ∧ 1 ≤ p.passes ∧ p.passes ≤ 4) ∧ (1 ≤ p.order.length ∧ p.order.length ≤ 60) ∧ (p.order.length : Int) ≤ powI p.bins p.passes.toNat ∧ codesOk p.order = true := by
  unfold planOk
  simp only [Bool.and_eq_true, decide_eq_true_iff, shapeOk_iff]
  constructor
  · rintro ⟨⟨⟨h1, h2⟩, h3⟩, h4⟩; exact ⟨h1, h2, h3, h4⟩
  · rintro ⟨h1, h2, h3, h4⟩; exact ⟨⟨⟨h1, h2⟩, h3⟩, h4⟩

end Go.Proofs.Ytmangjjaijhcnaa
