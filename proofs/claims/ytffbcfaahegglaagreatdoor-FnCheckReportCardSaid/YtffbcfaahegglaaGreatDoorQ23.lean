/- FA -/
import Derived.Test.YtffbcfaahegglaaGreatDoorQ1
import Derived.Test.YtffbcfaahegglaaGreatDoorQ3
import Derived.Test.YtffbcfaahegglaaGreatDoorQ5
import Derived.Test.YtffbcfaahegglaaGreatDoorQ6
import Derived.Lib.SmallJoins
namespace Go.Proofs.YtffbcfaahegglaaGreatDoor
open Go.RowKit

/-! ### Plain facts -/
theorem decDigits_dec : ∀ n : Nat, Lib.decDigits n = decL n := by
  intro n
  induction n using Nat.strongRecOn with
  | _ n ih =>
    rw [Lib.decDigits]
    by_cases h : n < 10
    · rw [dif_pos h]
      unfold decL
      by_cases h0 : n = 0
      · rw [if_pos h0, h0]; rfl
      · rw [if_neg h0, dec10_small (by omega) (by omega)]
        unfold b8
        rw [show (48 + (n : Int)).toNat = 48 + n by omega]
    · rw [dif_neg h, ih (n / 10) (by omega)]
      unfold decL
      rw [if_neg (by omega), if_neg (by omega), dec10_step (n := n) (by omega)]
theorem itoa_dec (n : Nat) : (⟨(Lib.itoa (n : Int)).toArray⟩ : ByteArray) = decB n := by
  unfold Lib.itoa decB
  rw [if_neg (by omega), Int.toNat_natCast, decDigits_dec]
theorem inter_snoc {α : Type} (sep x : List α) : ∀ (l : List (List α)), l ≠ [] → sep.intercalate (l ++ [x]) = sep.intercalate l ++ sep ++ x
  | [], h => absurd rfl h
  | [a], _ => by simp [List.intercalate, List.intersperse]
  | a :: b :: l, _ => by
    have ih := inter_snoc sep x (b :: l) (by simp)
    have e : ∀ (c : List α) (m : List (List α)), sep.intercalate (a :: c :: m) = a ++ sep ++ sep.intercalate (c :: m) := fun c m => by
      simp [List.intercalate, List.intersperse]
    rw [List.cons_append, List.cons_append, e, ← List.cons_append, ih, e]
    simp only [List.append_assoc]
/-- Parts with a separator between them. -/
def joinT (ps : List ByteArray) (sep : ByteArray) : ByteArray := ⟨(Lib.join (ps.map (·.data.toList)) sep.data.toList).toArray⟩
theorem joinT_nil (sep : ByteArray) : joinT [] sep = ⟨#[]⟩ := by
  unfold joinT Lib.join; rfl
theorem joinT_one (p sep : ByteArray) : joinT [p] sep = p := by
  refine ba_ext ?_
  simp [joinT, Lib.join, List.intercalate, List.intersperse]
theorem joinT_snoc (ps : List ByteArray) (p sep : ByteArray) (h : ps ≠ []) : joinT (ps ++ [p]) sep = joinT ps sep ++ sep ++ p := by
  refine ba_ext ?_
  rw [ba_append, ba_append]
  unfold joinT Lib.join
  rw [List.map_append, List.map_cons, List.map_nil, inter_snoc _ _ _ (by simpa using h)]
theorem joinT_size (ps : List ByteArray) (sep : ByteArray) (m : Nat) (h : ∀ p ∈ ps, p.size ≤ m) : (joinT ps sep).size ≤ ps.length * (m + sep.size) := by
  have key : ∀ l : List ByteArray, (∀ p ∈ l, p.size ≤ m) → (joinT l.reverse sep).size ≤ l.length * (m + sep.size) := fun l => by
    induction l with
    | nil => intro _; rw [List.reverse_nil, joinT_nil]; exact Nat.zero_le _
    | cons p l ih =>
      intro hl
      have ih := ih fun q hq => hl q (List.mem_cons_of_mem _ hq)
      have hp := hl p List.mem_cons_self
      rw [List.reverse_cons, List.length_cons, Nat.add_mul, Nat.one_mul]
      by_cases h0 : l.reverse = []
      · rw [h0, List.nil_append, joinT_one]; omega
      · rw [joinT_snoc _ _ _ h0, ByteArray.size_append, ByteArray.size_append]; omega
  have := key ps.reverse (fun p hp => h p (by simpa using hp))
  rwa [List.reverse_reverse, List.length_reverse] at this
theorem joinT_len (ps : List ByteArray) (sep : ByteArray) : (Lib.join (ps.map (·.data.toList)) sep.data.toList).length = (joinT ps sep).size := List.size_toArray.symm

/-- A letter as a text. -/
def fmtL (x : Ltr) : ByteArray := decB x.id.toNat ++ ⟨#[58]⟩ ++ x.code
theorem dec10_size {n : Nat} (h : n ≤ 9999) : (decB n).size ≤ 4 ∧ 1 ≤ (decB n).size := by
  have key : ∀ (f m : Nat), m < 10 ^ f → (dec10 m).length ≤ f ∧ (0 < m → 1 ≤ (dec10 m).length) := fun f => by
    induction f with
    | zero => intro m hm; have : m = 0 := by simp at hm; exact hm
              subst this; exact ⟨by rw [dec10]; simp, fun h => by omega⟩
    | succ f ih =>
      intro m hm
      by_cases h0 : m = 0
      · subst h0; exact ⟨by rw [dec10]; simp, fun h => by omega⟩
      · have hd : m / 10 < 10 ^ f := by
          rw [Nat.pow_succ] at hm
          exact Nat.div_lt_of_lt_mul (by omega)
        have := (ih (m / 10) hd).1
        rw [dec10_step (by omega), List.length_append]
        exact ⟨by simp; omega, fun _ => by simp⟩
  have hk := key 4 n (by omega)
  have hs : (decB n).size = (decL n).length := List.size_toArray
  rw [hs]
  unfold decL
  by_cases h0 : n = 0
  · rw [if_pos h0]; simp
  · rw [if_neg h0]; exact ⟨hk.1, hk.2 (by omega)⟩
theorem fmtL_size {x : Ltr} (h : x.id ≤ 9999) (hc : x.code.size = 7) : (fmtL x).size ≤ 12 ∧ 1 ≤ (fmtL x).size := by
  have := dec10_size (n := x.id.toNat) (by omega)
  unfold fmtL
  rw [ByteArray.size_append, ByteArray.size_append, hc]
  show _ + 1 + 7 ≤ 12 ∧ 1 ≤ _ + 1 + 7
  omega
def spT : ByteArray := ⟨#[32]⟩
/-- A batch as a text; nothing if it is none. -/
def fmtB (xs : List Ltr) : ByteArray := if okB xs = true then (if xs.length = 0 then ⟨#[45]⟩ else joinT (xs.map fmtL) spT) else ⟨#[]⟩
theorem fmtB_no {xs : List Ltr} (h : okB xs = false) : fmtB xs = ⟨#[]⟩ := by unfold fmtB; rw [h]; rfl
theorem fmtB_empty {xs : List Ltr} (h : okB xs = true) (h0 : xs.length = 0) : fmtB xs = ⟨#[45]⟩ := by unfold fmtB; rw [if_pos h, if_pos h0]
theorem fmtB_some {xs : List Ltr} (h : okB xs = true) (h0 : xs.length ≠ 0) : fmtB xs = joinT (xs.map fmtL) spT := by unfold fmtB; rw [if_pos h, if_neg h0]
theorem okB_fmt {xs : List Ltr} (h : okB xs = true) : ∀ p ∈ xs.map fmtL, p.size ≤ 12 ∧ 1 ≤ p.size := fun p hp => by
  obtain ⟨x, hx, rfl⟩ := List.mem_map.1 hp
  obtain ⟨k, hk, rfl⟩ := List.getElem_of_mem hx
  have h1 := (okB_iff.1 h).2 k hk
  have h2 := h1.2.2.1
  unfold isCode at h2
  rw [Bool.and_eq_true, beq_iff_eq] at h2
  exact fmtL_size h1.2.1 h2.1
theorem fmtB_size (xs : List Ltr) : (fmtB xs).size ≤ 1000 := by
  cases h : okB xs
  · rw [fmtB_no h]; exact Nat.zero_le _
  · by_cases h0 : xs.length = 0
    · rw [fmtB_empty h h0]; exact (by decide : (1 : Nat) ≤ 1000)
    · rw [fmtB_some h h0]
      have h1 := joinT_size (xs.map fmtL) spT 12 fun p hp => (okB_fmt h p hp).1
      have h2 := (okB_iff.1 h).1
      rw [List.length_map] at h1
      have h3 : xs.length * (12 + spT.size) ≤ 60 * 13 := Nat.mul_le_mul h2 (Nat.le_refl _)
      omega
/-- The text of the first letters, as the reference writes it. -/
def preB (xs : List Ltr) (k : Nat) : ByteArray := joinT ((xs.take k).map fmtL) spT
theorem preB_zero (xs : List Ltr) : preB xs 0 = ⟨#[]⟩ := joinT_nil _
theorem preB_one {xs : List Ltr} (h : 0 < xs.length) : preB xs 1 = fmtL xs[0] := by
  unfold preB
  rw [List.take_succ_eq_append_getElem h, List.take_zero, List.nil_append, List.map_cons, List.map_nil, joinT_one]
theorem preB_succ {xs : List Ltr} {k : Nat} (h : k < xs.length) (h0 : 0 < k) : preB xs (k + 1) = preB xs k ++ spT ++ fmtL xs[k] := by
  unfold preB
  rw [List.take_succ_eq_append_getElem h, List.map_append, List.map_cons, List.map_nil, joinT_snoc]
  intro e
  have := congrArg List.length e
  rw [List.length_map, List.length_take, List.length_nil] at this
  omega
theorem preB_size {xs : List Ltr} (h : okB xs = true) (k : Nat) : (preB xs k).size ≤ 780 := by
  have h1 := joinT_size ((xs.take k).map fmtL) spT 12 fun p hp => (okB_fmt h p (by
    obtain ⟨x, hx, rfl⟩ := List.mem_map.1 hp
    exact List.mem_map.2 ⟨x, List.mem_of_mem_take hx, rfl⟩)).1
  have h2 := (okB_iff.1 h).1
  rw [List.length_map] at h1
  have h3 : (xs.take k).length * (12 + spT.size) ≤ 60 * 13 := Nat.mul_le_mul (by rw [List.length_take]; omega) (Nat.le_refl _)
  unfold preB
  omega
theorem preB_pos {xs : List Ltr} (h : okB xs = true) (h0 : 0 < xs.length) : 1 ≤ (preB xs xs.length).size := by
  obtain ⟨k, hk⟩ : ∃ k, xs.length = k + 1 := ⟨xs.length - 1, by omega⟩
  rw [hk]
  have hp : ∀ (j : Nat) (hj : j < xs.length), 1 ≤ (fmtL xs[j]).size := fun j hj => (okB_fmt h _ (List.mem_map.2 ⟨_, List.getElem_mem hj, rfl⟩)).2
  by_cases hk0 : k = 0
  · subst hk0
    rw [preB_one h0]; exact hp 0 h0
  · rw [preB_succ (by omega) (by omega), ByteArray.size_append]
    have := hp k (by omega)
    omega

end Go.Proofs.YtffbcfaahegglaaGreatDoor
