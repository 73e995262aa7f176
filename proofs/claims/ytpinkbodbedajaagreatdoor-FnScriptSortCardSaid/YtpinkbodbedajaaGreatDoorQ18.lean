/- ST KI KB KC KD KE -/
import Derived.Shelf.SlSortCmp.InsertionK
import Derived.Lib.SortBridge
import Derived.Lib.Bytealg
import Derived.Test.YtpinkbodbedajaaGreatDoorQ11
import Derived.Test.YtpinkbodbedajaaGreatDoorQ1
import Derived.Test.YtpinkbodbedajaaGreatDoorQ13
import Derived.Test.YtpinkbodbedajaaGreatDoorQ2
import Derived.Shelf.SlLaysF0
import Derived.Ground.SlsfProg
import Derived.Sort.LotA
import Derived.Test.YtpinkbodbedajaaGreatDoorQ15
import Derived.Test.YtpinkbodbedajaaGreatDoorQ10
import Derived.Test.YtpinkbodbedajaaGreatDoorQ17
import Derived.Test.YtpinkbodbedajaaGreatDoorQ16
import Derived.Test.YtpinkbodbedajaaGreatDoorQ3
import Derived.Deep.RegionHeld3
namespace Go.Proofs.YtpinkbodbedajaaGreatDoor
open Go.RowKit

instance : Inhabited Ltr := ⟨⟨0, ⟨#[]⟩⟩⟩
instance : Inhabited Fwd := ⟨⟨⟨#[]⟩, ⟨#[]⟩⟩⟩

/-! ### The library's order of texts -/
theorem cmp_irrefl : ∀ a : List UInt8, Lib.compareBytes a a = 0
  | [] => rfl
  | a :: p => by
    unfold Lib.compareBytes
    have : ¬ a < a := by rw [UInt8.lt_iff_toNat_lt]; omega
    rw [if_neg this, if_neg this]
    exact cmp_irrefl p
theorem cmp_trans : ∀ a b c : List UInt8, Lib.compareBytes a b < 0 → Lib.compareBytes b c < 0 → Lib.compareBytes a c < 0
  | [], [], _, h, _ => by simp [Lib.compareBytes] at h
  | [], _ :: _, [], _, h => by simp [Lib.compareBytes] at h
  | [], _ :: _, _ :: _, _, _ => by simp [Lib.compareBytes]
  | _ :: _, [], _, h, _ => by simp [Lib.compareBytes] at h
  | _ :: _, _ :: _, [], _, h => by simp [Lib.compareBytes] at h
  | a :: p, b :: q, c :: r, h1, h2 => by
    unfold Lib.compareBytes at h1 h2 ⊢
    simp only [UInt8.lt_iff_toNat_lt] at h1 h2 ⊢
    split at h1
    · split at h2
      · rw [if_pos (by omega)]; omega
      · split at h2
        · omega
        · rw [if_pos (by omega)]; omega
    · split at h1
      · omega
      · split at h2
        · rw [if_pos (by omega)]; omega
        · split at h2
          · omega
          · rw [if_neg (by omega), if_neg (by omega)]
            exact cmp_trans p q r h1 h2
theorem cmp_ntrans : ∀ a b c : List UInt8, ¬ Lib.compareBytes a b < 0 → ¬ Lib.compareBytes b c < 0 → ¬ Lib.compareBytes a c < 0
  | [], [], c, _, h => h
  | [], _ :: _, _, h, _ => by simp [Lib.compareBytes] at h
  | _ :: _, [], [], _, _ => by simp [Lib.compareBytes]
  | _ :: _, [], _ :: _, _, h => by simp [Lib.compareBytes] at h
  | _ :: _, _ :: _, [], _, _ => by simp [Lib.compareBytes]
  | a :: p, b :: q, c :: r, h1, h2 => by
    unfold Lib.compareBytes at h1 h2 ⊢
    simp only [UInt8.lt_iff_toNat_lt] at h1 h2 ⊢
    split at h1
    · exact absurd (by omega) h1
    · split at h2
      · exact absurd (by omega) h2
      · rw [if_neg (by omega)]
        split
        · omega
        · rw [if_neg (by omega)] at h1
          rw [if_neg (by omega)] at h2
          exact cmp_ntrans p q r h1 h2
theorem swo_code {α : Type} (f : α → ByteArray) : Sort.SWO (ltOf fun x y : α => Lib.compareBytes (f x).data.toList (f y).data.toList) where
  irrefl x := by
    unfold ltOf
    show decide (Lib.compareBytes _ _ < 0) = false
    rw [cmp_irrefl]
    rfl
  trans x y z h1 h2 := by
    unfold ltOf at *
    exact decide_eq_true (cmp_trans _ _ _ (of_decide_eq_true h1) (of_decide_eq_true h2))
  ntrans x y z h1 h2 := by
    unfold ltOf at *
    exact decide_eq_false (cmp_ntrans _ _ _ (of_decide_eq_false h1) (of_decide_eq_false h2))
theorem perm_of_in {α : Type} [Inhabited α] {d d' : Array α} (h : Sort.PermIn 0 d.size d d') : d'.toList.Perm d.toList := by
  obtain ⟨h1, _, h3⟩ := h
  have e1 : d.extract 0 d.size = d := Array.extract_size
  have e2 : d'.extract 0 d.size = d' := by rw [← h1]; exact Array.extract_size
  rwa [e1, e2] at h3

/-! ### Rows of two cells, flat -/
theorem flat2_get {α : Type} [Inhabited α] (enc : α → List Value) (hk : ∀ x, (enc x).length = 2) : ∀ (xs : List α) (t : Nat), t < xs.length * 2 → (xs.flatMap enc)[t]? = (enc (xs.getD (t / 2) default))[t % 2]?
  | [], t, h => by simp at h
  | x :: xs, 0, _ => by
    have h := hk x
    rw [List.flatMap_cons, List.getElem?_append_left (by omega)]
    rfl
  | x :: xs, 1, _ => by
    have h := hk x
    rw [List.flatMap_cons, List.getElem?_append_left (by omega)]
    rfl
  | x :: xs, t + 2, h => by
    have hx := hk x
    rw [List.flatMap_cons, List.getElem?_append_right (by omega), hx, Nat.add_sub_cancel, flat2_get enc hk xs t (by simp at h; omega)]
    rw [show (t + 2) / 2 = t / 2 + 1 by omega, show (t + 2) % 2 = t % 2 by omega]
    rfl
theorem flat2_len {α : Type} (enc : α → List Value) (hk : ∀ x, (enc x).length = 2) : ∀ xs : List α, (xs.flatMap enc).length = xs.length * 2
  | [] => rfl
  | x :: xs => by
    rw [List.flatMap_cons, List.length_append, hk, flat2_len enc hk xs]
    simp
    omega
theorem flat2 {α : Type} [Inhabited α] (enc : α → List Value) (hk : ∀ x, (enc x).length = 2) (d : Array α) : Sort.flatK enc 2 d = (d.toList.flatMap enc).toArray := by
  apply Array.ext
  · rw [Sort.size_flatK]
    simp [flat2_len enc hk]
  · intro t h1 h2
    rw [Sort.size_flatK] at h1
    have h3 := Sort.get_flatK enc 2 d t h1
    rw [getElem!_pos _ t (by rw [Sort.size_flatK]; exact h1)] at h3
    rw [h3]
    have h4 := flat2_get enc hk d.toList t (by simpa using h1)
    have h5 : (d.toList.flatMap enc)[t]? = some (d.toList.flatMap enc)[t] := List.getElem?_eq_getElem (by rw [flat2_len enc hk]; simpa using h1)
    rw [h5] at h4
    have hlt : t / 2 < d.size := by omega
    have e : d.toList.getD (t / 2) default = d[t / 2]! := by
      rw [getElem!_pos d (t / 2) hlt]
      simp [hlt]
    rw [e] at h4
    have h6 : t % 2 < (enc d[t / 2]!).length := by rw [hk]; omega
    rw [List.getElem?_eq_getElem h6] at h4
    injection h4 with h4
    rw [getElem!_pos (enc d[t / 2]!) (t % 2) h6, ← h4]
    simp

theorem grown_trans3 {a b c : World} {row : Option Nat} (h : a.grownBy b row) (k : b.grownBy c row) : a.grownBy c row :=
  ⟨k.os.trans h.os, k.tape.trans h.tape, k.output.trans h.output, Nat.le_trans h.size k.size, fun i hi hne => (k.block i (Nat.lt_of_lt_of_le hi h.size) hne).trans (h.block i hi hne)⟩
theorem own_grow2 {α : Type} [Flat α] {T base : Nat} {w : World} {v : Value} {xs : List α} (h : own T base w v xs) (os : Array Obj) : own T base (Go.Sort.grow w os) v xs :=
  h.keepBlk fun k hk => by
    have := (h.blk k hk).2
    show (w.heap ++ os)[k]? = w.heap[k]?
    rw [Array.getElem?_append_left this]
theorem set_run {α : Type} (xs : List α) (k : Nat) (y : α) (ys : List α) (hk : k + (ys.length + 1) ≤ xs.length) : (xs.set k y).take (k + 1) ++ ys ++ (xs.set k y).drop (k + 1 + ys.length) = xs.take k ++ y :: ys ++ xs.drop (k + (ys.length + 1)) := by
  rw [List.take_succ_eq_append_getElem (by rw [List.length_set]; omega), List.getElem_set_self, List.take_set_of_le (Nat.le_refl _), List.drop_set_of_lt (by omega)]
  rw [show k + 1 + ys.length = k + (ys.length + 1) by omega]
  simp
theorem own_runL {T base g n c : Nat} : ∀ (ys : List Ltr) (k : Nat) (w : World) (xs : List Ltr), (∀ y ∈ ys, y.ok) → k + ys.length ≤ xs.length → own T base w (.slice (some ⟨g, 0, none⟩) n c) xs →
    own T base (w.setCells g (k * 2) (ys.flatMap Ltr.cells)) (.slice (some ⟨g, 0, none⟩) n c) (xs.take k ++ ys ++ xs.drop (k + ys.length)) ∧ w.grownBy (w.setCells g (k * 2) (ys.flatMap Ltr.cells)) (some g)
  | [], k, w, xs, _, _, h => by
    refine ⟨?_, World.grownBy.refl _ _⟩
    simpa [World.setCells] using h
  | y :: ys, k, w, xs, hy, hl, h => by
    simp only [List.length_cons] at hl
    have h1 := own_setLtr h (k := k) (by omega) y (hy y (by simp))
    obtain ⟨h2, h3⟩ := own_runL ys (k + 1) _ (xs.set k y) (fun z hz => hy z (by simp [hz])) (by rw [List.length_set]; omega) h1
    rw [set_run xs k y ys hl] at h2
    have e : w.setCells g (k * 2) ((y :: ys).flatMap Ltr.cells) = ((w.setCell ⟨g, k * 2, none⟩ (.int .i64 y.id)).setCell ⟨g, k * 2 + 1, none⟩ (.string y.code)).setCells g ((k + 1) * 2) (ys.flatMap Ltr.cells) := by
      rw [show (k + 1) * 2 = k * 2 + 1 + 1 by omega]
      simp only [List.flatMap_cons, Ltr.cells, Fwd.cells, List.cons_append, List.nil_append, World.setCells]
    rw [e]
    exact ⟨h2, grown_trans3 (grown_setCell (p := ⟨g, k * 2 + 1, none⟩) (grown_setCell (p := ⟨g, k * 2, none⟩) (World.grownBy.refl w (some g)) (.inl rfl) _) (.inl rfl) _) h3⟩
theorem own_holdsL {T base g n c : Nat} {w : World} {xs : List Ltr} (h : own T base w (.slice (some ⟨g, 0, none⟩) n c) xs) : Sort.HoldsK Ltr.cells 2 w g 0 xs.toArray := by
  unfold Sort.HoldsK
  intro t ht
  rw [Sort.size_flatK] at ht
  have ht' : t < xs.length * 2 := by simpa using ht
  have hlt : t / 2 < xs.length := by omega
  refine ⟨?_, by rw [Nat.zero_add]; exact h.freeAt _⟩
  obtain ⟨_, c1, c2⟩ := own_ltr h (t / 2) hlt
  rw [Sort.get_flatK _ _ _ _ (by simpa using ht'), show (xs.toArray)[t / 2]! = xs[t / 2] by simp [hlt], Nat.zero_add]
  rcases (show t % 2 = 0 ∨ t % 2 = 1 by omega) with e | e
  · rw [e]
    conv => lhs; rw [show t = t / 2 * 2 by omega]
    exact c1
  · rw [e]
    conv => lhs; rw [show t = t / 2 * 2 + 1 by omega]
    exact c2
/-- What lies behind a sort of a row of the call's own. -/
theorem sorted_ownL {T base g n c q : Nat} {w : World} {xs : List Ltr} {d' : Array Ltr} {os : Array Obj} (h : own T base w (.slice (some ⟨g, 0, none⟩) n c) xs) (hp : d'.toList.Perm xs) :
    own T base (sortWorldK Ltr.cells 2 w g 0 q d' os) (.slice (some ⟨g, 0, none⟩) n c) d'.toList ∧ w.grownBy (sortWorldK Ltr.cells 2 w g 0 q d' os) (some g) := by
  have hH := own_holdsL h
  have hl := hp.length_eq
  have e1 : sortWorldK Ltr.cells 2 w g 0 q d' os = Sort.grow ((w.drewN q).setCells g 0 (d'.toList.flatMap Ltr.cells)) os := by
    unfold sortWorldK Sort.putRowK
    rw [flat2 Ltr.cells (fun _ => rfl) d', Lib.sorted_world id w g 0 q (Sort.flatK Ltr.cells 2 xs.toArray) (d'.toList.flatMap Ltr.cells) os hH (by rw [flat2_len _ (fun _ => rfl), Sort.size_flatK, hl]; simp)]
    simp
  have bq : Below w.heap.size w (w.drewN q) := later_drewN (Below.refl _ _) q
  have hok : ∀ y ∈ d'.toList, y.ok := fun y hy => by
    obtain ⟨k, hk, rfl⟩ := List.getElem_of_mem (hp.mem_iff.1 hy)
    exact (own_ltr h k hk).1
  obtain ⟨h2, h3⟩ := own_runL d'.toList 0 (w.drewN q) xs hok (by omega) (h.below bq)
  have e : xs.take 0 ++ d'.toList ++ xs.drop (0 + d'.toList.length) = d'.toList := by simp [hl]
  rw [e, Nat.zero_mul] at h2
  rw [Nat.zero_mul] at h3
  rw [e1]
  refine ⟨own_grow2 h2 os, ?_⟩
  have h4 := grown_trans3 (grown_below (World.grownBy.refl w (some g)) bq) h3
  exact ⟨h4.os, h4.tape, h4.output, Nat.le_trans h4.size (by simp [Go.Sort.grow]), fun k hk hne => by
    show (_ ++ os)[k]? = _
    rw [Array.getElem?_append_left (Nat.lt_of_lt_of_le hk h4.size)]
    exact h4.block k hk hne⟩
end Go.Proofs.YtpinkbodbedajaaGreatDoor

namespace Go.Proofs
open Go.Shelf
def Tryz.laysIns_ren : Go.Shelf.Ren := ⟨fun | 20 => 264 | n => n, fun | 24 => 89 | 22 => 29 | 3 => 3 | 25 => 187 | 4 => 4 | 0 => 0 | n => n, fun | n => n⟩
theorem Tryz.laysIns : Go.Proofs.SlLaysF0.n20 Tryz.prog Tryz.laysIns_ren := {
  mixed := by kernel_rfl
  f20 := ⟨Tryz.f264.name, by decide, Tryz.func264.trans (congrArg some (by kernel_rfl))⟩
  t0 := Tryz.underlying0
  a0 := Tryz.isAgg0
  z0 := Tryz.sizeOf0
  v0 := Tryz.zeroValue0
  t3 := Tryz.underlying3
  a3 := Tryz.isAgg3
  z3 := Tryz.sizeOf3
  v3 := Tryz.zeroValue3
  t4 := Tryz.underlying4
  a4 := Tryz.isAgg4
  z4 := Tryz.sizeOf4
  v4 := Tryz.zeroValue4
  t22 := Tryz.underlying29
  a22 := Tryz.isAgg29
  z22 := Tryz.sizeOf29
  v22 := Tryz.zeroValue29
  t25 := Tryz.underlying187
  a25 := Tryz.isAgg187
  z25 := Tryz.sizeOf187
  v25 := Tryz.zeroValue187 }
end Go.Proofs
namespace Go.Proofs.YtpinkbodbedajaaGreatDoor
open Go.RowKit

def sortedA (xs : List Ltr) : Array Ltr := Sort.insertionSort (ltOf fun x y : Ltr => Lib.compareBytes x.code.data.toList y.code.data.toList) xs.toArray 0 xs.toArray.size
/-- The letters in the order of their codes; letters of one code keep their order. -/
def sortedL (xs : List Ltr) : List Ltr := (sortedA xs).toList
theorem sortedA_perm (xs : List Ltr) : (sortedA xs).toList.Perm xs :=
  perm_of_in (Sort.insertionSort_holds (lt := ltOf fun x y : Ltr => Lib.compareBytes x.code.data.toList y.code.data.toList) (swo_code Ltr.code) xs.toArray 0 xs.toArray.size (Nat.zero_le _) (Nat.le_refl _)).1
theorem sortedL_perm (xs : List Ltr) : (sortedL xs).Perm xs := sortedA_perm xs
theorem sortedL_nil : sortedL [] = [] := (sortedL_perm []).eq_nil
theorem cmp_SB (x y : Ltr) (W : World) : Calls Tryz.prog 164 #[.agg #[.int .i64 x.id, .string x.code], .agg #[.int .i64 y.id, .string y.code]] W fun e w' => e = .returned (.int .i64 (Lib.compareBytes x.code.data.toList y.code.data.toList)) ∧ ∃ q os', w' = Sort.grow (W.drewN q) os' := by
  have hcon := fun W' => Tryz.strings_Compare x.code y.code W'
  change ∀ W', Calls Tryz.prog 165 _ _ _ at hcon
  generalize Lib.compareBytes x.code.data.toList y.code.data.toList = r at hcon ⊢
  go_enter Tryz.func164, Tryz.ntmps164
  go_wp2_with (go_at_call 165; refine (hcon _).mono ?_; rintro e w' ⟨rfl, rfl⟩)
  go_ret
  exact ⟨rfl, 0, _, by rw [Go.Sort.alloc_eq_grow, Go.Sort.alloc_eq_grow, Go.Sort.grow_grow]; rfl⟩
theorem stable_L (T base : Nat) (v : Value) (xs : List Ltr) (w : World) (hv : own T base w v xs) (hl : xs.length ≤ 19) :
    Calls Tryz.prog 227 #[v, .int .i64 xs.length, .func (.func 164) #[] #[]] w fun e w' => e = .returned (.tuple #[]) ∧ own T base w' v (sortedL xs) ∧ w.grownBy w' v.ownBlock := by
  have h20 : ¬ (20 : Int) ≤ (xs.length : Int) := by omega
  have h20' : ¬ (20 : Int) < (xs.length : Int) := by omega
  rcases hv.form with ⟨rfl, rfl⟩ | ⟨g, c, rfl, hg, hgl, hc, hm⟩
  · have hn : Calls Tryz.prog 264 #[.slice none 0 0, .int .i64 0, .int .i64 0, .func (.func 164) #[] #[]] w fun e w' => e = .returned (.tuple #[]) ∧ w' = w := by
      go_enter Tryz.func264, Tryz.ntmps264
      go_wp2
      refine wp_loop_rounds 1 ?_
      rw [rounds_succ]
      go_wp2
      go_end0
      exact ⟨rfl, rfl⟩
    go_enter Tryz.func227, Tryz.ntmps227
    go_wp2
    refine wp_loop_rounds 1 ?_
    rw [rounds_succ]
    go_wp2_with (go_at_call 264; refine hn.mono ?_; rintro e w1 ⟨rfl, rfl⟩)
    refine wp_loop_rounds 1 ?_
    rw [rounds_succ]
    go_wp2
    go_end0
    exact ⟨rfl, by rw [sortedL_nil]; exact hv, World.grownBy.refl _ _⟩
  · have eg : ∀ args w, (callFunc 164 args).run Tryz.prog w = .ok (.enter 164 args) w := enters_of Tryz.func164 (by kernel_rfl) rfl
    have hc := AnyQ.insertionSortCmpFunc Tryz.laysIns 2 Tryz.isAgg89 Tryz.sizeOf89 Ltr.cells (fun _ => rfl) (fun x v hv => by simp [Ltr.cells] at hv; rcases hv with rfl | rfl <;> rfl) (fun x y : Ltr => Lib.compareBytes x.code.data.toList y.code.data.toList) 164 #[] g 0 c 0 xs.toArray.size xs.toArray w eg (fun _ _ _ _ x y => cmp_SB x y _) (own_holdsL hv) hgl (Nat.zero_le _) (Nat.le_refl _) (by simp; omega)
    have hp := sortedA_perm xs
    have hsl : Hid (sortedL xs = (sortedA xs).toList) := rfl
    change Calls Tryz.prog 264 _ _ _ at hc
    change Calls _ _ _ _ (fun e w' => e = .returned (.tuple #[]) ∧ ∃ n os, w' = sortWorldK Ltr.cells 2 w g 0 n (sortedA xs) os) at hc
    generalize sortedA xs = d' at hc hp hsl
    rw [show xs.toArray.size = xs.length from rfl] at hc
    have HV := Lib.hid hv; have HP := Lib.hid hp
    clear hv hp eg
    go_enter Tryz.func227, Tryz.ntmps227
    go_wp2
    refine wp_loop_rounds 1 ?_
    rw [rounds_succ]
    go_wp2_with (go_at_call 264; refine hc.mono ?_; rintro e w1 ⟨rfl, n, os, rfl⟩)
    refine wp_loop_rounds 1 ?_
    rw [rounds_succ]
    go_wp2
    go_end0
    obtain ⟨h1, h2⟩ := sorted_ownL (q := n) (os := os) HV.out HP.out
    exact ⟨rfl, by rw [hsl.out]; exact h1, h2⟩
theorem stable_S (T base : Nat) (v : Value) (xs : List Ltr) (w : World) (hv : own T base w v xs) (hl : xs.length ≤ 19) :
    Calls Tryz.prog 163 #[v, .func (.func 164) #[] #[]] w fun e w' => e = .returned (.tuple #[]) ∧ own T base w' v (sortedL xs) ∧ w.grownBy w' v.ownBlock := by
  have hc := stable_L T base v xs w hv hl
  obtain ⟨A, n, c, rfl, hn, _, _, _⟩ := hv.rd
  subst hn
  have HC := Lib.hid hc; clear hc hv
  go_enter Tryz.func163, Tryz.ntmps163
  go_wp2_with (go_at_call 227; refine HC.out.mono ?_; rintro e w1 ⟨rfl, hy, hg⟩)
  go_end0
  exact ⟨rfl, hy, hg⟩
theorem impl_SortBatch (v : Value) (xs : List Ltr) (w : World) (hv : rd w w.heap.size v xs) (hl : xs.length ≤ 19) (hok : okB xs = true) :
    Calls Tryz.prog 97 #[v] w fun e w' => ∃ v', e = .returned (.tuple #[v', .bool true]) ∧ own 89 w.heap.size w' v' (sortedL xs) ∧ Below w.heap.size w w' := by
  have HV := Lib.hid hv; clear hv
  have HOK := Lib.hid hok; clear hok
  go_enter Tryz.func97, Tryz.ntmps97
  go_wp2_with fail
  refine (impl_BatchValid _ xs _ HV.out).mono ?_
  rw [HOK.out]
  rintro e w1 ⟨rfl, b1⟩
  go_wp2_with fail
  refine (impl_copyLetters _ xs _ (HV.out.on b1) (by omega)).mono ?_
  rintro e w2 ⟨v2, rfl, o2, b2⟩
  have l2 := b1.trans (b2.mono b1.size)
  have O2 := Lib.hid o2; clear o2
  go_wp2_with fail
  refine (stable_S _ _ v2 xs _ O2.out hl).mono ?_
  rintro e w3 ⟨rfl, o3, g3⟩
  have l3 : Below w.heap.size w w3 := l2.grown g3 l2.size (fun k hk => by have := (O2.out.blk k hk).1; have := b1.size; omega)
  have O3 := Lib.hid (o3.base_ b1.size); clear o3
  go_wp2_with fail
  go_ret2
  exact ⟨v2, rfl, O3.out, l3⟩
theorem so_sorted (v : Value) (xs : List Ltr) (w : World) (hv : rd w w.heap.size v xs) (hl : xs.length ≤ 19) (hok : okB xs = true) :
    Calls Tryz.prog 37 #[v] w fun e w' => ∃ v', e = .returned v' ∧ own 89 w.heap.size w' v' (sortedL xs) ∧ Below w.heap.size w w' := by
  have HV := Lib.hid hv; clear hv
  go_enter Tryz.func37, Tryz.ntmps37
  go_wp2_with fail
  refine (impl_SortBatch _ xs _ HV.out hl hok).mono ?_
  rintro e w1 ⟨v1, rfl, o1, b1⟩
  have O1 := Lib.hid o1; clear o1
  go_wp2_with fail
  go_ret
  exact ⟨v1, rfl, O1.out, b1⟩

end Go.Proofs.YtpinkbodbedajaaGreatDoor

namespace Go.Proofs.YtpinkbodbedajaaGreatDoor
open Go.RowKit Go.Shelf
attribute [local go_sem] Oper.semAt_some

theorem Tryz.infoLt : (Tryz.prog.info? 89).map (fun i => (i.zero, i.size, i.bytes)) = some (some (.agg #[.int .i64 0, .string ⟨#[]⟩]), 2, 24) := by kernel_rfl

/-! ### What is parsed -/
def partLt (x : ByteArray) : Option Ltr := match cutAt 58 x with
  | some (p, q) => if numOk p then some ⟨numV p, q⟩ else none
  | none => none
def allLt (ps : List ByteArray) : Bool := ps.all fun x => (partLt x).isSome
def gotLt (ps : List ByteArray) : List Ltr := ps.filterMap partLt
def pbParts (t : ByteArray) : Bool := allLt (partsB 32 t) && decide ((partsB 32 t).length ≤ 60)
def pbSome (t : ByteArray) : Bool := pbParts t && sEq (fmtB (gotLt (partsB 32 t))) t
def pbOk (t : ByteArray) : Bool := sEq t ⟨#[45]⟩ || pbSome t
def pbL (t : ByteArray) : List Ltr := if sEq t ⟨#[45]⟩ then [] else if pbSome t then gotLt (partsB 32 t) else []
theorem partLt_none {x : ByteArray} (h : cutAt 58 x = none) : partLt x = none := by unfold partLt; rw [h]
theorem partLt_no {x p q : ByteArray} (h : cutAt 58 x = some (p, q)) (hn : numOk p = false) : partLt x = none := by unfold partLt; rw [h]; simp [hn]
theorem partLt_yes {x p q : ByteArray} (h : cutAt 58 x = some (p, q)) (hn : numOk p = true) : partLt x = some ⟨numV p, q⟩ := by unfold partLt; rw [h]; simp [hn]
theorem gotLt_len : ∀ ps : List ByteArray, allLt ps = true → (gotLt ps).length = ps.length
  | [], _ => rfl
  | x :: ps, h => by
    unfold allLt at h
    rw [List.all_cons, Bool.and_eq_true] at h
    obtain ⟨y, hy⟩ := Option.isSome_iff_exists.1 h.1
    unfold gotLt
    rw [List.filterMap_cons, hy]
    show (gotLt ps).length + 1 = _
    rw [gotLt_len ps h.2]
    rfl
theorem gotLt_snoc {ps : List ByteArray} {x : ByteArray} {y : Ltr} (h : partLt x = some y) : gotLt (ps ++ [x]) = gotLt ps ++ [y] := by
  unfold gotLt
  rw [List.filterMap_append]
  simp [h]
theorem allLt_snoc (ps : List ByteArray) (x : ByteArray) : allLt (ps ++ [x]) = (allLt ps && (partLt x).isSome) := by
  unfold allLt
  rw [List.all_append]
  simp
theorem allLt_bad (ps : List ByteArray) {x : ByteArray} (h : partLt x = none) : allLt (ps ++ [x]) = false := by
  rw [allLt_snoc, h]; simp
theorem allLt_prefix {ps qs : List ByteArray} (h : ps <+: qs) (hf : allLt ps = false) : allLt qs = false := by
  obtain ⟨r, rfl⟩ := h
  unfold allLt at *
  rw [List.all_append, hf]
  rfl

/-- What lies between two rounds. -/
def pbI (h : Nat) (w0 : World) (B : Nat) (pre : List ByteArray) (W : World) : Prop :=
  (∃ v, Boxed W (h + 1 + 1) 29 v ∧ own 89 B W v (gotLt pre)) ∧ B ≤ W.heap.size ∧ allLt pre = true ∧ pre.length ≤ 60 ∧ Boxed W h 29 (.slice none 0 0) ∧ Boxed W (h + 1) 4 (.bool false) ∧ Below h w0 W
/-- .. where a round has returned. -/
def pbX (h : Nat) (w0 : World) (pre : List ByteArray) (W : World) : Prop :=
  (allLt pre = false ∨ 60 < pre.length) ∧ Boxed W h 29 (.slice none 0 0) ∧ Boxed W (h + 1) 4 (.bool false) ∧ Below h w0 W
theorem pbI_bears {h B z : Nat} {w0 : World} (hz : h + 1 + 1 < z) (hzB : z < B) (hs : h ≤ w0.heap.size) : Bears B z (pbI h w0 B) := by
  rintro pre A C row ⟨⟨v, hv, ho⟩, h0, h1, h2, h3, h4, h5⟩ hg hr
  have ne : ∀ k, k < z → some k ≠ row := fun k hk e => by
    rcases hr k e.symm with h | ⟨h, _⟩ <;> omega
  refine ⟨⟨v, hv.kept hg (ne _ (by omega)), ho.grown hg ?_⟩, Nat.le_trans h0 hg.size, h1, h2, h3.kept hg (ne _ (by omega)), h4.kept hg (ne _ (by omega)), h5.grown hg (Nat.le_trans hs h5.size) fun k e => ?_⟩
  · cases hb : v.ownBlock with
    | none => exact .inl rfl
    | some k =>
      refine .inr fun e => ?_
      have hk := (ho.blk k hb).1
      rcases hr k e.symm with h | ⟨_, o, ho1, ho2⟩
      · omega
      · obtain ⟨o', ho3, ho4⟩ := own_isCells ho hb
        rw [ho3] at ho1
        injection ho1 with ho1
        rw [ho1, ho2] at ho4
        cases ho4
  · rcases hr k e with h | ⟨h, _⟩ <;> omega
theorem pbX_bears {h B z : Nat} {w0 : World} (hz : h + 1 + 1 < z) (hzB : z < B) (hs : h ≤ w0.heap.size) : Bears B z (pbX h w0) := by
  rintro pre A C row ⟨h1, h3, h4, h5⟩ hg hr
  have ne : ∀ k, k < z → some k ≠ row := fun k hk e => by
    rcases hr k e.symm with h | ⟨h, _⟩ <;> omega
  refine ⟨h1, h3.kept hg (ne _ (by omega)), h4.kept hg (ne _ (by omega)), h5.grown hg (Nat.le_trans hs h5.size) fun k e => ?_⟩
  rcases hr k e with h | ⟨h, _⟩ <;> omega

set_option maxRecDepth 100000 in
set_option maxHeartbeats 3200000 in
theorem impl_ParseBatch (t : ByteArray) (w : World) (ht : t.size ≤ maxLen) (hX : TabW w) :
    Calls Tryz.prog 133 #[.string t] w fun e w' => ∃ v', e = .returned (.tuple #[v', .bool (pbOk t)]) ∧ own 89 w.heap.size w' v' (pbL t) ∧ Below w.heap.size w w' := by
  have HTB := Lib.hid hX; clear hX
  refine (callsIn_wide (n := 9)).1 ?_
  have hn9 : 1 ≤ 9 := by omega
  refine callsIn_of_wp_marks Tryz.func133 rfl trivial ?_ rfl
  simp only [Tryz.ntmps133, List.size_toArray, List.length_cons, List.length_nil, Nat.reduceAdd, Nat.reduceSub, Array.replicate_succ, Array.replicate_zero, List.push_toArray, List.append_toArray, List.nil_append, List.cons_append]
  by_cases h45 : sEq t ⟨#[45]⟩ = true
  · have hO : pbOk t = true := by unfold pbOk; rw [h45]; rfl
    have hR : pbL t = [] := by unfold pbL; rw [if_pos h45]
    have HO := Lib.hid hO; have HR := Lib.hid hR
    clear hO hR
    have h46 : (t.toList == [45]) = true := by unfold sEq at h45; rw [ByteArray.toList_eq ⟨#[45]⟩] at h45; exact h45
    clear h45
    gi_wp2
    refine ⟨.tuple #[.slice none 0 0, .bool true], by simp [results, Tryz.results133, go_sem], _, by rw [HO.out], by rw [HR.out]; exact own.nil_ _ _ _, ?_⟩
    exact ((Below.refl _ w).alloc (Nat.le_refl _) _).alloc (by simp) _
  · have h46 : (t.toList == [45]) = false := by rw [Bool.not_eq_true] at h45; unfold sEq at h45; rw [ByteArray.toList_eq ⟨#[45]⟩] at h45; exact h45
    have HO : Hid (pbOk t = pbSome t) := by show _ = _; unfold pbOk; rw [Bool.not_eq_true] at h45; rw [h45]; rfl
    have HR : Hid (pbL t = if pbSome t then gotLt (partsB 32 t) else []) := by show _ = _; unfold pbL; rw [if_neg h45]
    clear h45
    have HS := fun W => strings_SplitSeq t 32 W
    have b0 := ((Boxed.new w 29 (.slice none 0 0)).alloc (Obj.cells #[.bool false] 4)).alloc (Obj.cells #[.slice none 0 0] 29)
    have b1 := (Boxed.new (w.alloc (Obj.cells #[.slice none 0 0] 29)) 4 (.bool false)).alloc (Obj.cells #[.slice none 0 0] 29)
    have b2 := Boxed.new ((w.alloc (Obj.cells #[.slice none 0 0] 29)).alloc (Obj.cells #[.bool false] 4)) 29 (.slice none 0 0)
    have l3 : Below w.heap.size w (((w.alloc (Obj.cells #[.slice none 0 0] 29)).alloc (Obj.cells #[.bool false] 4)).alloc (Obj.cells #[.slice none 0 0] 29)) := (((Below.refl _ w).alloc (Nat.le_refl _) _).alloc (by simp) _).alloc (by simp; omega) _
    rw [World.size_alloc] at b1 b2
    rw [World.size_alloc] at b2
    have B0 := Lib.hid b0; have B1 := Lib.hid b1; have B2 := Lib.hid b2; have L3 := Lib.hid l3
    clear b0 b1 b2 l3
    gi_wp2_with (refine ⟨trivial, ?_⟩; gi_at_call 196; refine (callsIn_wide.2 (HS _)).mono ?_; rintro e w6 ⟨rfl, hcap, hb6, hz6⟩)
    have hz3 : (((w.alloc (Obj.cells #[.slice none 0 0] 29)).alloc (Obj.cells #[.bool false] 4)).alloc (Obj.cells #[.slice none 0 0] 29)).heap.size = w.heap.size + 1 + 1 + 1 := by simp
    generalize (((w.alloc (Obj.cells #[.slice none 0 0] 29)).alloc (Obj.cells #[.bool false] 4)).alloc (Obj.cells #[.slice none 0 0] 29)) = w3 at *
    rw [hz3] at hcap hz6
    have x0 : Boxed w6 (w.heap.size) 29 (.slice none 0 0) := (hb6.block _ (by omega)).trans B0.out
    have x1 : Boxed w6 (w.heap.size + 1) 4 (.bool false) := (hb6.block _ (by omega)).trans B1.out
    have x2 : Boxed w6 (w.heap.size + 1 + 1) 29 (.slice none 0 0) := (hb6.block _ (by omega)).trans B2.out
    have l6 : Below w.heap.size w w6 := L3.out.trans (hb6.mono (by omega))
    clear B0 B1 B2 L3 hb6 HS hz3
    obtain ⟨i0, hi, hi0, hi1, hi2⟩ := info_parts Tryz.infoLt
    refine range_iterZ (F := Fence.wide) (n := 9) rfl (by omega) (gf := 278) (lb := #[.pointer (some ⟨w.heap.size + 1 + 1 + 1 + 1, 0, none⟩), .pointer (some ⟨w.heap.size + 1 + 1 + 1, 0, none⟩), .pointer (some ⟨w.heap.size + 1 + 1 + 1 + 2, 0, none⟩)]) rfl trivial (enters_of Tryz.func278 (by kernel_rfl) rfl)
      (split_iter 8 (w.heap.size + 1 + 1 + 1) (by omega) 32 t w6 hcap ht) (fun k hk => by simp at hk; omega) (by omega) (fun _ => rfl)
      (pbI w.heap.size w w6.heap.size) (pbX w.heap.size w) (pbI_bears (by omega) (by omega) (Nat.le_refl _)) (pbX_bears (by omega) (by omega) (Nat.le_refl _))
      ⟨⟨_, x2, own.nil_ _ _ _⟩, Nat.le_refl _, rfl, Nat.zero_le _, x0, x1, l6⟩
      (fun x => { tmps := #[.string t, undef, .pointer (some ⟨w.heap.size, 0, none⟩), .pointer (some ⟨w.heap.size + 1, 0, none⟩), .pointer (some ⟨w.heap.size + 1 + 1, 0, none⟩), .string x, undef, undef, undef, undef, undef, .string t, .bool false, .string t, .func (.func 278) #[] #[.pointer (some ⟨w.heap.size + 1 + 1 + 1 + 1, 0, none⟩), .pointer (some ⟨w.heap.size + 1 + 1 + 1, 0, none⟩), .pointer (some ⟨w.heap.size + 1 + 1 + 1 + 2, 0, none⟩)], .string x, undef, undef, undef, undef, undef, undef, undef, undef, undef, undef, undef, undef, undef, undef, undef, undef, undef, undef, undef, undef, undef, undef, undef, undef, undef, undef, undef, undef, undef, undef, undef, undef, undef], defers := [] }) ?assign ?body ?done ?stop
    case assign =>
      intro l x W K hK
      gi_wp2
      exact hK
    case body =>
      rintro l pre x W ⟨⟨v, hv, ho⟩, hBW, hall, hlen, y0, y1, hB⟩ _ hx
      have hd : 1 ≤ 9 - 1 - 1 := by omega
      have HC := strings_Cut1 x 58 W hx
      have y0c := Lib.hid y0; have y1c := Lib.hid y1; have hvc := Lib.hid hv; have hoc := Lib.hid ho
      rcases hcx : cutAt 58 x with _ | ⟨p, q⟩
      · have HCn : Calls Tryz.prog 130 #[.string x, .string ⟨#[58]⟩] W fun e w' => Below W.heap.size W w' ∧ e = .returned (.tuple #[.string x, .string ⟨#[]⟩, .bool false]) := HC.mono fun e w' h => by
          obtain ⟨hb, ⟨_, he⟩ | ⟨p, q, h, _⟩⟩ := h
          · exact ⟨hb, he⟩
          · rw [hcx] at h; cases h
        have HP : Hid (allLt (pre ++ [x]) = false) := allLt_bad pre (partLt_none hcx)
        have HN := Lib.hid (fun V => impl_parseNumber x V hx)
        generalize numOk x = nok at *
        generalize numV x = nv at *
        clear HC hcx y0 y1 hv ho
        gi_wp2_with (first | (refine ⟨trivial, ?_⟩; gi_at_call 130; refine (CallsIn.inRound l (callsIn_wide.2 HCn)).mono ?_; rintro e W2 ⟨hb, rfl⟩; have z0 : Boxed W2 _ _ _ := (hb.block _ y0c.out.lt).trans y0c.out; have z1 : Boxed W2 _ _ _ := (hb.block _ y1c.out.lt).trans y1c.out; have c0 := z0.cell; have c1 := z1.cell; have f0 := z0.frozen; have f1 := z1.frozen) | (refine ⟨trivial, ?_⟩; gi_at_call 197; refine (CallsIn.inRound l (callsIn_wide.2 (HN.out _))).mono ?_; rintro e _ ⟨rfl, rfl⟩))
        obtain ⟨r0, r1, r2, r3⟩ := set_two z0 z1 (.slice none 0 0) (.bool false)
        exact ⟨(keeps_below hb).trans r2, .inl HP.out, r0, r1, (hB.trans (hb.mono hB.size)).trans (r3 _ (Nat.le_refl _))⟩
      · have HCn : Calls Tryz.prog 130 #[.string x, .string ⟨#[58]⟩] W fun e w' => Below W.heap.size W w' ∧ e = .returned (.tuple #[.string p, .string q, .bool true]) := HC.mono fun e w' h => by
          obtain ⟨hb, ⟨h, _⟩ | ⟨p', q', h, he⟩⟩ := h
          · rw [hcx] at h; cases h
          · rw [hcx] at h; cases h; exact ⟨hb, he⟩
        have hpq := cut_sizes hcx
        have HN := Lib.hid (fun V => impl_parseNumber p V (by omega))
        cases hno : numOk p
        · have HP : Hid (allLt (pre ++ [x]) = false) := allLt_bad pre (partLt_no hcx hno)
          rw [hno] at HN
          generalize numV p = nv at *
          clear HC hcx y0 y1 hv ho hno
          gi_wp2_with (first | (refine ⟨trivial, ?_⟩; gi_at_call 130; refine (CallsIn.inRound l (callsIn_wide.2 HCn)).mono ?_; rintro e W2 ⟨hb, rfl⟩; have z0 : Boxed W2 _ _ _ := (hb.block _ y0c.out.lt).trans y0c.out; have z1 : Boxed W2 _ _ _ := (hb.block _ y1c.out.lt).trans y1c.out; have c0 := z0.cell; have c1 := z1.cell; have f0 := z0.frozen; have f1 := z1.frozen) | (refine ⟨trivial, ?_⟩; gi_at_call 197; refine (CallsIn.inRound l (callsIn_wide.2 (HN.out _))).mono ?_; rintro e _ ⟨rfl, rfl⟩))
          obtain ⟨r0, r1, r2, r3⟩ := set_two z0 z1 (.slice none 0 0) (.bool false)
          exact ⟨(keeps_below hb).trans r2, .inl HP.out, r0, r1, (hB.trans (hb.mono hB.size)).trans (r3 _ (Nat.le_refl _))⟩
        · have hpx := partLt_yes hcx hno
          have hnb := nVal_bound (d := absB p) (ng := negB p)
          rw [show nVal (absB p) (negB p) = numV p from rfl] at hnb
          rw [hno] at HN
          generalize numV p = nv at *
          have HP := Lib.hid hpx
          have hgl := gotLt_len pre hall
          obtain ⟨A, m, cp, rfl, hm, _, _, _⟩ := ho.rd
          clear HC hcx hpx y0 y1 hv ho hno
          by_cases h20 : m = 60
          · have hm20 : ((m : Int) == 60) = true := by simp [h20]
            have HL : Hid (60 < (pre ++ [x]).length) := by show _ < _; rw [List.length_append]; show 60 < pre.length + 1; omega
            clear h20 hm hgl hpq
            gi_wp2_with (first | (refine ⟨trivial, ?_⟩; gi_at_call 130; refine (CallsIn.inRound l (callsIn_wide.2 HCn)).mono ?_; rintro e W2 ⟨hb, rfl⟩; have z0 : Boxed W2 _ _ _ := (hb.block _ y0c.out.lt).trans y0c.out; have z1 : Boxed W2 _ _ _ := (hb.block _ y1c.out.lt).trans y1c.out; have z2 : Boxed W2 _ _ _ := (hb.block _ hvc.out.lt).trans hvc.out; have c0 := z0.cell; have c1 := z1.cell; have c2 := z2.cell; have f0 := z0.frozen; have f1 := z1.frozen) | (refine ⟨trivial, ?_⟩; gi_at_call 197; refine (CallsIn.inRound l (callsIn_wide.2 (HN.out _))).mono ?_; rintro e _ ⟨rfl, rfl⟩))
            obtain ⟨r0, r1, r2, r3⟩ := set_two z0 z1 (.slice none 0 0) (.bool false)
            exact ⟨(keeps_below hb).trans r2, .inr HL.out, r0, r1, (hB.trans (hb.mono hB.size)).trans (r3 _ (Nat.le_refl _))⟩
          · have hm20 : ((m : Int) == 60) = false := beq_eq_false_iff_ne.2 (by omega)
            have hg19 : (gotLt pre).length ≤ 59 := by omega
            have HPL : Hid (pre.length ≤ 59) := by show _ ≤ _; omega
            have HY : Hid (Ltr.ok ⟨nv, q⟩) := ⟨by show isI64 nv; unfold isI64; omega, by show q.size ≤ _; omega⟩
            clear h20 hm hgl hpq hnb
            gi_wp2_with (first | (refine ⟨trivial, ?_⟩; gi_at_call 130; refine (CallsIn.inRound l (callsIn_wide.2 HCn)).mono ?_; rintro e W2 ⟨hb, rfl⟩; have z0 : Boxed W2 _ _ _ := (hb.block _ y0c.out.lt).trans y0c.out; have z1 : Boxed W2 _ _ _ := (hb.block _ y1c.out.lt).trans y1c.out; have z2 : Boxed W2 _ _ _ := (hb.block _ hvc.out.lt).trans hvc.out; have c2 := z2.cell; have o2 := hoc.out.below hb; have hs2 := hb.size) | (refine ⟨trivial, ?_⟩; gi_at_call 197; refine (CallsIn.inRound l (callsIn_wide.2 (HN.out _))).mono ?_; rintro e _ ⟨rfl, rfl⟩) | (gi_at_builtin; refine wpListIn_append1 (α := Ltr) rfl (.tmp 38) (.tmp 42) 29 rfl w6.heap.size 89 i0 _ 24 Tryz.underlying29 hi hi0 hi1 hi2 rfl (by decide) (.slice A m cp) (gotLt pre) ⟨nv, q⟩ rfl (o2.alloc _) ⟨W2.heap.size, 0, none⟩ 1 (Ltr.cells ⟨nv, q⟩) rfl ⟨HY.out, rfl⟩ (news_at W2 _ (Ltr.cells ⟨nv, q⟩)) (by unfold maxLen; omega) (by omega) (by simp; omega) ?_; intro v5 w5 o5 hg5; have u2 : Boxed w5 _ _ _ := (z2.alloc _).kept hg5 (fun e => by have := (o2.blk _ e.symm).1; omega); have e2 := u2.cell; have g2 := u2.frozen; obtain ⟨A5, n5, c5, rfl, -, -, -, -⟩ := o5.rd))
            have hk5 : ∀ k, k < w6.heap.size → k ≠ w.heap.size + 1 + 1 → (w5.setCell ⟨w.heap.size + 1 + 1, 0, none⟩ (.slice A5 n5 c5)).heap[k]? = W.heap[k]? := fun k h1 h2 => by
              have a1 := (grownBy_setCell' w5 (w.heap.size + 1 + 1) (.slice A5 n5 c5)).block k (by have := hg5.size; simp at this; omega) (fun e => h2 (by injection e))
              have a2 := hg5.block k (by simp; omega) (fun e => by have := (o2.blk _ e.symm).1; omega)
              exact a1.trans (a2.trans ((Below.heap_alloc W2 _ k (by omega)).trans (hb.block k (by omega))))
            have hko : KeepsOthers W (w5.setCell ⟨w.heap.size + 1 + 1, 0, none⟩ (.slice A5 n5 c5)) := (((keeps_below hb).trans (KeepsOthers.alloc W2 _)).trans (KeepsOthers.of_grownBy hg5 fun j o ej hj => by
              obtain ⟨o', h1, h2⟩ := own_isCells (o2.alloc (Obj.cells #[.int .i64 nv, .string q] 89)) ej
              rw [h1] at hj; injection hj with hj; rw [← hj]; exact h2)).trans (KeepsOthers.setCell _ _ _)
            refine ⟨hko, fun k hk => hk5 k (by simp at hk; omega) (by simp at hk; omega), ⟨_, u2.set _, ?_⟩, ?_, ?_, ?_, ?_, ?_, ?_⟩
            · rw [gotLt_snoc HP.out]
              exact own_out o5 ⟨w.heap.size + 1 + 1, 0, none⟩ _ (by show w.heap.size + 1 + 1 < _; omega)
            · have := hg5.size; simp at this; simp; omega
            · rw [allLt_snoc, hall, HP.out]; rfl
            · have := HPL.out; rw [List.length_append]; show pre.length + 1 ≤ 60; omega
            · exact (hk5 _ (by omega) (by omega)).trans y0c.out
            · exact (hk5 _ (by omega) (by omega)).trans y1c.out
            · refine hB.trans ⟨?_, ?_, ?_, ?_, fun k h1 => hk5 k (by omega) (by omega)⟩
              · exact hg5.os.trans hb.os
              · exact hg5.tape.trans hb.tape
              · exact hg5.output.trans hb.output
              · exact hko.1
    case done =>
      rintro D ys W hD rfl ⟨⟨v, hv, ho⟩, hBW, hall, hlen, y0, y1, hB⟩ hK
      have hPS : pbSome t = sEq (fmtB (gotLt (partsB 32 t))) t := by unfold pbSome pbParts; rw [hall, decide_eq_true hlen]; rfl
      obtain ⟨A, m, cp, rfl, -, -, -, -⟩ := ho.rd
      have HV := impl_FormatBatch (.slice A m cp) (gotLt (partsB 32 t)) W ho.rd (HTB.out.on hB)
      have hfz := fmtB_size (gotLt (partsB 32 t))
      have y0c := Lib.hid y0; have y1c := Lib.hid y1; have hvc := Lib.hid hv; have hoc := Lib.hid ho
      have c2 := hv.cell
      clear hall hlen ho hv y0 y1
      obtain ⟨F, hFe⟩ : ∃ F, fmtB (gotLt (partsB 32 t)) = F := ⟨_, rfl⟩
      rw [hFe] at HV hPS hfz
      clear hFe
      cases hro : sEq F t
      · rw [hro] at hPS
        have HPS := Lib.hid hPS
        have hq : (F.toList == t.toList) = false := by unfold sEq at hro; exact hro
        clear hPS hro
        dsimp only
        gi_wp2_with (refine ⟨trivial, ?_⟩; gi_at_call 12; refine (callsIn_wide.2 HV).mono ?_; rintro e W2 ⟨rfl, hb⟩; have z0 : Boxed W2 _ _ _ := (hb.block _ y0c.out.lt).trans y0c.out; have z1 : Boxed W2 _ _ _ := (hb.block _ y1c.out.lt).trans y1c.out; have z2 : Boxed W2 _ _ _ := (hb.block _ hvc.out.lt).trans hvc.out; have c0 := z0.cell; have c1 := z1.cell; have c2 := z2.cell; have f0 := z0.frozen; have f1 := z1.frozen)
        obtain ⟨r0, r1, r2, r3⟩ := set_two z0 z1 (.slice none 0 0) (.bool false)
        have hD2 : ((W2.setCell ⟨w.heap.size, 0, none⟩ (.slice none 0 0)).setCell ⟨w.heap.size + 1, 0, none⟩ (.bool false)).heap[D]? = some (.deferred (some [])) := r2.same _ _ ((keeps_below hb).same _ _ hK rfl) rfl
        have k0 := (r0.kept (grownBy_putObj' ((W2.setCell ⟨w.heap.size, 0, none⟩ (.slice none 0 0)).setCell ⟨w.heap.size + 1, 0, none⟩ (.bool false)) D (.deferred none)) (fun e => by injection e; omega)).cell
        have k1 := (r1.kept (grownBy_putObj' ((W2.setCell ⟨w.heap.size, 0, none⟩ (.slice none 0 0)).setCell ⟨w.heap.size + 1, 0, none⟩ (.bool false)) D (.deferred none)) (fun e => by injection e; omega)).cell
        have hBz : Below w.heap.size w (((W2.setCell ⟨w.heap.size, 0, none⟩ (.slice none 0 0)).setCell ⟨w.heap.size + 1, 0, none⟩ (.bool false)).putObj D (.deferred none)) := ((hB.trans (hb.mono hB.size)).trans (r3 _ (Nat.le_refl _))).grown (grownBy_putObj' _ _ _) (by have := ((hB.trans (hb.mono hB.size)).trans (r3 _ (Nat.le_refl _))).size; omega) (fun r e => by injection e; omega)
        refine ⟨by simp, .inl ⟨_, _, rfl, run_takeDeferred hD2, ?_⟩⟩
        refine ⟨.tuple #[.slice none 0 0, .bool false], by simp [results, Tryz.results133, go_sem, k0, k1], _, by rw [HO.out, HPS.out], by rw [HR.out, HPS.out]; exact own.nil_ _ _ _, hBz⟩
      · rw [hro] at hPS
        have HPS := Lib.hid hPS
        have hq : (F.toList == t.toList) = true := by unfold sEq at hro; exact hro
        clear hPS hro
        dsimp only
        gi_wp2_with (refine ⟨trivial, ?_⟩; gi_at_call 12; refine (callsIn_wide.2 HV).mono ?_; rintro e W2 ⟨rfl, hb⟩; have z0 : Boxed W2 _ _ _ := (hb.block _ y0c.out.lt).trans y0c.out; have z1 : Boxed W2 _ _ _ := (hb.block _ y1c.out.lt).trans y1c.out; have z2 : Boxed W2 _ _ _ := (hb.block _ hvc.out.lt).trans hvc.out; have c0 := z0.cell; have c1 := z1.cell; have c2 := z2.cell; have f0 := z0.frozen; have f1 := z1.frozen)
        obtain ⟨r0, r1, r2, r3⟩ := set_two z0 z1 (.slice A m cp) (.bool true)
        have o2 := hoc.out.below hb
        have oz := own_out (own_out o2 ⟨w.heap.size, 0, none⟩ (.slice A m cp) (by show w.heap.size < _; omega)) ⟨w.heap.size + 1, 0, none⟩ (.bool true) (by show w.heap.size + 1 < _; omega)
        have hD2 : ((W2.setCell ⟨w.heap.size, 0, none⟩ (.slice A m cp)).setCell ⟨w.heap.size + 1, 0, none⟩ (.bool true)).heap[D]? = some (.deferred (some [])) := r2.same _ _ ((keeps_below hb).same _ _ hK rfl) rfl
        have k0 := (r0.kept (grownBy_putObj' ((W2.setCell ⟨w.heap.size, 0, none⟩ (.slice A m cp)).setCell ⟨w.heap.size + 1, 0, none⟩ (.bool true)) D (.deferred none)) (fun e => by injection e; omega)).cell
        have k1 := (r1.kept (grownBy_putObj' ((W2.setCell ⟨w.heap.size, 0, none⟩ (.slice A m cp)).setCell ⟨w.heap.size + 1, 0, none⟩ (.bool true)) D (.deferred none)) (fun e => by injection e; omega)).cell
        have hBz : Below w.heap.size w (((W2.setCell ⟨w.heap.size, 0, none⟩ (.slice A m cp)).setCell ⟨w.heap.size + 1, 0, none⟩ (.bool true)).putObj D (.deferred none)) := ((hB.trans (hb.mono hB.size)).trans (r3 _ (Nat.le_refl _))).grown (grownBy_putObj' _ _ _) (by have := ((hB.trans (hb.mono hB.size)).trans (r3 _ (Nat.le_refl _))).size; omega) (fun r e => by injection e; omega)
        refine ⟨by simp, .inl ⟨_, _, rfl, run_takeDeferred hD2, ?_⟩⟩
        refine ⟨.tuple #[.slice A m cp, .bool true], by simp [results, Tryz.results133, go_sem, k0, k1], _, by rw [HO.out, HPS.out], by rw [HR.out, HPS.out, if_pos rfl]; exact (oz.grown (grownBy_putObj' _ D _) (own_notD oz hD2)).base_ (by omega), hBz⟩
    case stop =>
      rintro D pre W hD hpre ⟨hbad, y0, y1, hB⟩ hK
      have hPS : pbSome t = false := by
        unfold pbSome pbParts
        rcases hbad with h | h
        · rw [allLt_prefix hpre h]; rfl
        · have := hpre.length_le
          rw [decide_eq_false (by omega)]
          simp
      have HPS := Lib.hid hPS
      have k0 := (y0.kept (grownBy_putObj' W D (.deferred none)) (fun e => by injection e; omega)).cell
      have k1 := (y1.kept (grownBy_putObj' W D (.deferred none)) (fun e => by injection e; omega)).cell
      have hBz : Below w.heap.size w (W.putObj D (.deferred none)) := hB.grown (grownBy_putObj' _ _ _) hB.size (fun r e => by injection e; omega)
      clear hPS hbad hpre
      dsimp only
      gi_wp2
      refine ⟨by simp, .inl ⟨_, _, rfl, run_takeDeferred hK, ?_⟩⟩
      refine ⟨.tuple #[.slice none 0 0, .bool false], by simp [results, Tryz.results133, go_sem, k0, k1], _, by rw [HO.out, HPS.out], by rw [HR.out, HPS.out]; exact own.nil_ _ _ _, hBz⟩

end Go.Proofs.YtpinkbodbedajaaGreatDoor

namespace Go.Proofs.YtpinkbodbedajaaGreatDoor
open Go.RowKit Go.Shelf
attribute [local go_sem] Oper.semAt_some

end Go.Proofs.YtpinkbodbedajaaGreatDoor

namespace Go.Proofs.YtpinkbodbedajaaGreatDoor
open Go.RowKit

end Go.Proofs.YtpinkbodbedajaaGreatDoor

namespace Go.Proofs.YtpinkbodbedajaaGreatDoor
open Go.RowKit

/-- A plan as a text; nothing if it is not valid. -/
def fmtPl (p : Pln) : ByteArray := if planOk p = true then decB p.bins.toNat ++ ⟨#[32]⟩ ++ decB p.passes.toNat ++ ⟨#[32]⟩ ++ joinT p.order spT else ⟨#[]⟩
theorem fmtPl_no {p : Pln} (h : planOk p = false) : fmtPl p = ⟨#[]⟩ := by unfold fmtPl; rw [h]; rfl
theorem fmtPl_yes {p : Pln} (h : planOk p = true) : fmtPl p = decB p.bins.toNat ++ ⟨#[32]⟩ ++ decB p.passes.toNat ++ ⟨#[32]⟩ ++ joinT p.order spT := by unfold fmtPl; rw [if_pos h]
theorem plan_codes {p : Pln} (h : planOk p = true) : ∀ c ∈ p.order, isCode c = true := fun c hc => by
  obtain ⟨k, hk, rfl⟩ := List.getElem_of_mem hc
  have h1 := List.all_eq_true.1 (show (List.range p.order.length).all (goodC p.order) = true from (planOk_iff.1 h).2.2.2) k (by simpa using hk)
  rw [goodC_of hk, Bool.and_eq_true] at h1
  exact h1.1
theorem order_size {p : Pln} (h : planOk p = true) : (joinT p.order spT).size ≤ 480 := by
  have h1 := joinT_size p.order spT 7 fun c hc => Nat.le_of_eq (code_mem (plan_codes h c hc)).1
  have h2 := (planOk_iff.1 h).2.1.2
  have h3 : p.order.length * (7 + spT.size) ≤ 60 * 8 := Nat.mul_le_mul h2 (Nat.le_refl _)
  omega

set_option maxRecDepth 100000 in
set_option maxHeartbeats 1600000 in
theorem impl_FormatPlan (v : Value) (p : Pln) (w : World) (hv : rdP w w.heap.size v p) (ht : TabW w) :
    Calls Tryz.prog 13 #[v] w fun e w' => e = .returned (.string (fmtPl p)) ∧ Below w.heap.size w w' := by
  obtain ⟨A, c, rfl⟩ := openP hv
  obtain ⟨w0, hw0⟩ : ∃ u, u = w.alloc (Obj.cells #[.int .i64 p.bins, .int .i64 p.passes, .slice A p.order.length c] 25) := ⟨_, rfl⟩
  have hb0 : w0.heap[w.heap.size]? = some (.cells #[.int .i64 p.bins, .int .i64 p.passes, .slice A p.order.length c] 25 (0, 0)) := by rw [hw0]; exact heap_alloc_new w _
  have hl0 : Below w.heap.size w w0 := by rw [hw0]; exact (Below.refl _ _).alloc (Nat.le_refl _) _
  have HPV := Lib.hid (impl_PlanValid _ p w0 (hv.on hl0))
  have HRD : Hid (∀ W, Below w.heap.size w W → rd W W.heap.size (.slice A p.order.length c) p.order) := fun W hW => by
    obtain ⟨vo, e, _, _, h⟩ := hv
    injection e with e
    injection e with e
    injection e with _ e
    injection e with _ e
    injection e with e _
    rw [e]
    exact h.on hW
  have HTB := Lib.hid ht
  have HW := Lib.hid hw0; clear hw0
  obtain ⟨q0, q1, q2, _, _, _⟩ := threeF hb0
  have HL0 := Lib.hid hl0; have HB0 := Lib.hid hb0
  clear hl0 hb0 hv ht
  go_enter Tryz.func13, Tryz.ntmps13
  go_wp2_with fail
  rw [← HW.out]
  refine HPV.out.mono ?_
  cases hp : planOk p
  · rintro e w1 ⟨rfl, b1⟩
    have HF := Lib.hid (fmtPl_no hp)
    have HL1 := Lib.hid (later_trans HL0.out b1)
    clear hp b1
    go_wp2_with fail
    go_ret
    exact ⟨ret_str HF.out.symm, HL1.out⟩
  · rintro e w1 ⟨rfl, b1⟩
    have hb1 := blk_below HB0.out b1
    have HL1 := Lib.hid (later_trans HL0.out b1)
    have HF := Lib.hid (fmtPl_yes hp)
    obtain ⟨⟨x1, x2, x3, x4⟩, ⟨x5, x6⟩, _⟩ := planOk_iff.1 hp
    have hjz := order_size hp
    have HJ : Hid (∀ W, Below w1.heap.size w1 W → Calls Tryz.prog 57 #[.slice A p.order.length c, .string ⟨#[32]⟩] W fun e w' => e = .returned (.string (joinT p.order spT)) ∧ Below W.heap.size W w') := fun W hW => join_rd (sep := spT) (HRD.out W (later_trans HL1.out hW)) (by omega) (by omega) (by omega)
    obtain ⟨bi, pa, od⟩ := p
    simp only at x1 x2 x3 x4 hjz HJ q0 q1 q2 hb1 HB0 HF ⊢
    obtain ⟨bi, rfl⟩ := Int.eq_ofNat_of_zero_le (show 0 ≤ bi by omega)
    obtain ⟨pa, rfl⟩ := Int.eq_ofNat_of_zero_le (show 0 ≤ pa by omega)
    have HI1 : Hid (∀ W, Below w1.heap.size w1 W → Calls Tryz.prog 56 #[.int .i64 (bi : Int)] W fun e w' => e = .returned (.string (decB bi)) ∧ Below W.heap.size W w') := fun W hW => strconv_ItoaN bi W (by omega) (HTB.out.on (later_trans HL1.out hW))
    have HI2 : Hid (∀ W, Below w1.heap.size w1 W → Calls Tryz.prog 56 #[.int .i64 (pa : Int)] W fun e w' => e = .returned (.string (decB pa)) ∧ Below W.heap.size W w') := fun W hW => strconv_ItoaN pa W (by omega) (HTB.out.on (later_trans HL1.out hW))
    have s1 := (dec10_size (n := bi) (by omega)).1
    have s2 := (dec10_size (n := pa) (by omega)).1
    have HF2 : Hid (fmtPl ⟨(bi : Int), (pa : Int), od⟩ = decB bi ++ ⟨#[32]⟩ ++ decB pa ++ ⟨#[32]⟩ ++ joinT od spT) := HF.out
    clear HF
    generalize decB bi = B1 at *
    generalize decB pa = B2 at *
    generalize joinT od spT = J at *
    have a1 : ¬ 9223372036854775807 < B1.size + 1 := by omega
    have a2 : ¬ 9223372036854775807 < B1.size + 1 + B2.size := by omega
    have a3 : ¬ 9223372036854775807 < B1.size + 1 + B2.size + 1 := by omega
    have a4 : ¬ 9223372036854775807 < B1.size + 1 + B2.size + 1 + J.size := by omega
    have ld := later_drew (Below.refl w1.heap.size w1)
    clear hp b1 q0 q1 q2 x1 x2 x3 x4 x5 x6
    obtain ⟨c0, c1, c2, _, _, _⟩ := threeF hb1
    have q0 := fun W (hW : Below w1.heap.size w1 W) => (hW.cell (p := ⟨w.heap.size, 0, none⟩) (block_of_cell c0)).trans c0
    have q1 := fun W (hW : Below w1.heap.size w1 W) => (hW.cell (p := ⟨w.heap.size, 1, none⟩) (block_of_cell c1)).trans c1
    have q2 := fun W (hW : Below w1.heap.size w1 W) => (hW.cell (p := ⟨w.heap.size, 2, none⟩) (block_of_cell c2)).trans c2
    clear hb1 c0 c1 c2
    go_wp2_with fail
    go_region_held3 (fun W => Below w1.heap.size w1 W) (first | exact ld | exact k3 | exact k2 | exact k1 | fail) (first | (go_at_call 56; first | ((with_reducible refine (HI1.out _ (by first | exact ld | exact k1 | exact k2)).mono ?_); rintro e u1 ⟨rfl, z1⟩; have k1 := later_trans ld z1) | ((with_reducible refine (HI2.out _ (by first | exact k1 | exact ld)).mono ?_); rintro e u2 ⟨rfl, z2⟩; have k2 := later_trans k1 z2) | fail) | (go_at_call 57; first | ((with_reducible refine (HJ.out _ (by first | exact k2 | exact k1 | exact ld)).mono ?_); rintro e u3 ⟨rfl, z3⟩; have k3 := later_trans k2 z3) | fail) | fail)
    all_goals
      have K3 := Lib.hid (later_trans HL1.out k3)
      clear k1 k2 k3 z1 z2 z3 ld
      go_wp2_with fail
      go_ret
      exact ⟨ret_str HF2.out.symm, K3.out⟩

end Go.Proofs.YtpinkbodbedajaaGreatDoor
