/- FC FR PS ZS QC -/
import Derived.Test.YtpinkbodbedajaaGreatDoorQ29
import Derived.Test.YtpinkbodbedajaaGreatDoorQ4
import Derived.Test.YtpinkbodbedajaaGreatDoorQ21
import Derived.Lib.SplitLaws
namespace Go.Proofs.YtpinkbodbedajaaGreatDoor
open Go.RowKit



end Go.Proofs.YtpinkbodbedajaaGreatDoor

namespace Go.Proofs.YtpinkbodbedajaaGreatDoor
open Go.RowKit

def fmtU (x : Fwd) : ByteArray := x.src ++ ⟨#[62]⟩ ++ x.dst
theorem pfx_size {s : ByteArray} (h : isPfx s = true) : s.size ≤ 7 := by
  unfold isPfx at h
  simp only [Bool.and_eq_true, decide_eq_true_iff] at h
  omega
theorem name_size {s : ByteArray} (h : isName s = true) : 1 ≤ s.size ∧ s.size ≤ 8 := by
  unfold isName at h
  simp only [Bool.and_eq_true, decide_eq_true_iff] at h
  omega
/-- Rules as a text; nothing if they are not valid. -/
def fmtRu (rs : List Fwd) : ByteArray := if rulesOk rs = true then (if rs.length = 0 then ⟨#[45]⟩ else joinT (rs.map fmtU) spT) else ⟨#[]⟩
theorem fmtRu_no {rs : List Fwd} (h : rulesOk rs = false) : fmtRu rs = ⟨#[]⟩ := by unfold fmtRu; rw [h]; rfl
theorem fmtRu_empty {rs : List Fwd} (h : rulesOk rs = true) (h0 : rs.length = 0) : fmtRu rs = ⟨#[45]⟩ := by unfold fmtRu; rw [if_pos h, if_pos h0]
theorem fmtRu_some {rs : List Fwd} (h : rulesOk rs = true) (h0 : rs.length ≠ 0) : fmtRu rs = joinT (rs.map fmtU) spT := by unfold fmtRu; rw [if_pos h, if_neg h0]
theorem rule_sizes {rs : List Fwd} (h : rulesOk rs = true) {k : Nat} (hk : k < rs.length) : rs[k].src.size ≤ 7 ∧ 1 ≤ rs[k].dst.size ∧ rs[k].dst.size ≤ 8 := by
  obtain ⟨h1, h2, _⟩ := (rulesOk_iff.1 h).2 k hk
  exact ⟨pfx_size h1, name_size h2⟩
theorem rule_fmt {rs : List Fwd} (h : rulesOk rs = true) : ∀ p ∈ rs.map fmtU, p.size ≤ 16 ∧ 1 ≤ p.size := fun p hp => by
  obtain ⟨x, hx, rfl⟩ := List.mem_map.1 hp
  obtain ⟨k, hk, rfl⟩ := List.getElem_of_mem hx
  have h1 := rule_sizes h hk
  unfold fmtU
  rw [ByteArray.size_append, ByteArray.size_append]
  show _ + 1 + _ ≤ 16 ∧ 1 ≤ _ + 1 + _
  omega
def preU (rs : List Fwd) (k : Nat) : ByteArray := joinT ((rs.take k).map fmtU) spT
theorem preU_zero (rs : List Fwd) : preU rs 0 = ⟨#[]⟩ := joinT_nil _
theorem preU_one {rs : List Fwd} (h : 0 < rs.length) : preU rs 1 = fmtU rs[0] := by
  unfold preU
  rw [List.take_succ_eq_append_getElem h, List.take_zero, List.nil_append, List.map_cons, List.map_nil, joinT_one]
theorem preU_succ {rs : List Fwd} {k : Nat} (h : k < rs.length) (h0 : 0 < k) : preU rs (k + 1) = preU rs k ++ spT ++ fmtU rs[k] := by
  unfold preU
  rw [List.take_succ_eq_append_getElem h, List.map_append, List.map_cons, List.map_nil, joinT_snoc]
  intro e
  have := congrArg List.length e
  rw [List.length_map, List.length_take, List.length_nil] at this
  omega
theorem preU_size {rs : List Fwd} (h : rulesOk rs = true) (k : Nat) : (preU rs k).size ≤ 340 := by
  have h1 := joinT_size ((rs.take k).map fmtU) spT 16 fun p hp => (rule_fmt h p (by
    obtain ⟨x, hx, rfl⟩ := List.mem_map.1 hp
    exact List.mem_map.2 ⟨x, List.mem_of_mem_take hx, rfl⟩)).1
  have h2 := (rulesOk_iff.1 h).1
  rw [List.length_map] at h1
  have h3 : (rs.take k).length * (16 + spT.size) ≤ 20 * 17 := Nat.mul_le_mul (by rw [List.length_take]; omega) (Nat.le_refl _)
  unfold preU
  omega
theorem preU_pos {rs : List Fwd} (h : rulesOk rs = true) (h0 : 0 < rs.length) : 1 ≤ (preU rs rs.length).size := by
  obtain ⟨k, hk⟩ : ∃ k, rs.length = k + 1 := ⟨rs.length - 1, by omega⟩
  rw [hk]
  have hp : ∀ (j : Nat) (hj : j < rs.length), 1 ≤ (fmtU rs[j]).size := fun j hj => (rule_fmt h _ (List.mem_map.2 ⟨_, List.getElem_mem hj, rfl⟩)).2
  by_cases hk0 : k = 0
  · subst hk0
    rw [preU_one h0]; exact hp 0 h0
  · rw [preU_succ (by omega) (by omega), ByteArray.size_append]
    have := hp k (by omega)
    omega
theorem fmtRu_size (rs : List Fwd) : (fmtRu rs).size ≤ 340 := by
  cases h : rulesOk rs
  · rw [fmtRu_no h]; exact Nat.zero_le _
  · by_cases h0 : rs.length = 0
    · rw [fmtRu_empty h h0]; exact (by decide : (1 : Nat) ≤ 340)
    · rw [fmtRu_some h h0]
      have := preU_size h rs.length
      unfold preU at this
      rwa [List.take_length] at this

set_option maxRecDepth 100000 in
set_option maxHeartbeats 1600000 in
theorem impl_FormatRules (v : Value) (rs : List Fwd) (w : World) (hv : rd w w.heap.size v rs) :
    Calls Tryz.prog 91 #[v] w fun e w' => e = .returned (.string (fmtRu rs)) ∧ Below w.heap.size w w' := by
  have HV := Lib.hid hv
  obtain ⟨A, n, c, rfl, hn, hc, hm, hr⟩ := hv
  subst hn
  have HR := Lib.hid hr; clear hr
  obtain ⟨i0, hi, hz0, hz1, hz2⟩ := info_parts Tryz.infoStr
  have l0 := Below.refl w.heap.size w
  go_enter Tryz.func91, Tryz.ntmps91
  go_wp2_with fail
  refine (impl_RulesValid _ rs _ HV.out).mono ?_
  rintro e w1 ⟨rfl, b1⟩
  have l1 := b1
  clear b1 l0
  cases hok : rulesOk rs
  · have HF := Lib.hid (fmtRu_no hok)
    clear hok
    go_wp2_with fail
    go_ret
    exact ⟨ret_str HF.out.symm, l1⟩
  have HOK := Lib.hid hok
  have h60 := (rulesOk_iff.1 hok).1
  by_cases h0 : rs.length = 0
  · have HF := Lib.hid (fmtRu_empty hok h0)
    have hl0 : ((rs.length : Int) == 0) = true := by rw [h0]; rfl
    clear hok h0
    go_wp2_with fail
    go_ret
    exact ⟨ret_str HF.out.symm, l1⟩
  have HF := Lib.hid (fmtRu_some hok h0)
  have hl0 : ((rs.length : Int) == 0) = false := beq_eq_false_iff_ne.2 (by omega)
  have hpos : 0 < rs.length := by omega
  clear hok h0
  have hmk := make_row (P := Tryz.prog) 23 9 i0 _ Tryz.underlying23 hi hz0 rs.length (by rw [hz2]; omega) (by omega)
  go_wp2_with fail
  have hf0 : filled 9 (w1.alloc (Obj.cells (madeCells #[.string ⟨#[]⟩] rs.length) 9)) w1.heap.size rs.length 0 (rs.map fmtU) := filled.made w1 _ _ _ (by rw [size_madeCells]; exact (Nat.mul_one _).symm) _
  have hb0 : Below w1.heap.size w1 (w1.alloc (Obj.cells (madeCells #[.string ⟨#[]⟩] rs.length) 9)) := (Below.refl _ _).alloc (Nat.le_refl _) _
  generalize w1.alloc (Obj.cells (madeCells #[.string ⟨#[]⟩] rs.length) 9) = w0 at *
  clear hmk
  have HLN : Hid ((rs.map fmtU).length = rs.length) := by show _ = _; rw [List.length_map]
  go_loopw [17] (fun i wr => ∃ k : Nat, k ≤ rs.length ∧ i = .int .i64 k ∧ Below w1.heap.size w1 wr ∧ filled 9 wr w1.heap.size rs.length k (rs.map fmtU)) (fun i _ => rs.length - (intOf i).toNat)
  case atStart => exact ⟨0, Nat.zero_le _, rfl, hb0, hf0⟩
  case round =>
    obtain ⟨k, hk, rfl, hbl, hf⟩ := hrel
    obtain ⟨w2, rfl⟩ : ∃ w2 : World, w2 = wr := ⟨_, rfl⟩
    clear hf0 hb0
    have hs1 := l1.size
    by_cases hlt : k < rs.length
    · obtain ⟨b, o, rfl, hb, _, y1, y2⟩ := HR.out.fwdU k hlt
      have y1 := y1 w2 (later_trans l1 hbl)
      have y2 := y2 w2 (later_trans l1 hbl)
      have HSZ0 := Lib.hid (rule_sizes HOK.out hlt)
      have hLk : (rs.map fmtU)[k]'(by rw [HLN.out]; exact hlt) = fmtU rs[k] := by simp
      have HSZ := Lib.hid (rule_fmt HOK.out (fmtU rs[k]) (List.mem_map.2 ⟨_, List.getElem_mem hlt, rfl⟩))
      have HST := Lib.hid (fun (W : World) (hF : filled 9 W w1.heap.size rs.length k (rs.map fmtU)) => hF.step (by rw [HLN.out]; exact hlt) (by rw [HLN.out]; exact Nat.le_refl _) (ecs := [.string (fmtU rs[k])]) (by rw [hLk]; exact ⟨by have := HSZ.out.1; unfold maxLen; omega, rfl⟩))
      clear hLk
      generalize rs[k] = x at *
      obtain ⟨p, q⟩ := x
      have hsz := HSZ0.out
      simp only at hsz y1 y2
      obtain ⟨s1, _, s2⟩ := hsz
      have HFX : Hid (fmtU ⟨p, q⟩ = p ++ ⟨#[62]⟩ ++ q) := rfl
      have hki : (k : Int) < (rs.length : Int) := by omega
      have hki0 : (0 : Int) ≤ (k : Int) := by omega
      have hs2 := hbl.size
      have hne : w1.heap.size < w2.heap.size := by obtain ⟨cs, h1, _⟩ := hf; exact (Array.getElem?_eq_some_iff.1 h1).1
      have hs60 : ¬ 9223372036854775807 < p.size + 1 + q.size := by omega
      have hs61 : ¬ 9223372036854775807 < p.size + 1 := by omega
      have lb : Below w2.heap.size w2 (w2.alloc (Obj.cells #[.string p, .string q] 174)) := (Below.refl _ _).alloc (Nat.le_refl _) _
      have hf3 := hf.below lb
      obtain ⟨u0, g0⟩ := hf3.cell (j := k) (by show _ < _ * 1; omega)
      have f0 := hf3.free k
      have HF3 := Lib.hid hf
      have HLB := Lib.hid hbl
      clear hf3 hf
      go_wp2_with fail
      go_roundw
      case rel =>
        have := HST.out _ HF3.out
        rw [show k * El.size ByteArray = k from Nat.mul_one k, HFX.out] at this
        have hbs := HLB.out.trans (setAll_below [.string (p ++ ⟨#[62]⟩ ++ q)] _ k _ (Nat.le_refl _))
        exact ⟨k + 1, by omega, by go_num, hbs.alloc hbs.size _, this.below ((Below.refl _ _).alloc (Nat.le_refl _) _)⟩
      case measure => simp [intOf]; omega
    · have HE := Lib.hid (show k = rs.length by omega)
      have HO := Lib.hid ((HE.out ▸ hf : filled _ _ _ _ rs.length _).own HLN.out.symm (Nat.le_refl _) (by unfold maxLen; omega))
      clear hf
      have l2 := later_trans l1 hbl
      have hjz := joinT_size (rs.map fmtU) spT 16 fun p hp => (rule_fmt HOK.out p hp).1
      rw [HLN.out] at hjz
      have hjz2 : rs.length * (16 + spT.size) ≤ 20 * 17 := Nat.mul_le_mul h60 (Nat.le_refl _)
      have HJ := Lib.hid (join_own (sep := spT) HO.out HLN.out.symm (by rw [HLN.out]; omega) (by omega))
      clear hjz hjz2
      go_wp2_with fail
      refine HJ.out.mono ?_
      rw [← HF.out]
      rintro e w3 ⟨rfl, b3⟩
      have l3 := later_trans l2 b3
      go_wp2_with fail
      go_ret
      exact ⟨rfl, l3⟩

end Go.Proofs.YtpinkbodbedajaaGreatDoor

namespace Go.Proofs.YtpinkbodbedajaaGreatDoor
open Go.RowKit

theorem spl_nosep {c : UInt8} : ∀ {p : List UInt8}, c ∉ p → spl c p = [p]
  | [], _ => rfl
  | b :: p, h => by
    have hb : b ≠ c := fun e => h (by rw [e]; simp)
    exact spl_cons hb (spl_nosep fun m => h (List.mem_cons_of_mem _ m))
theorem spl_app {c : UInt8} (s : List UInt8) : ∀ {p : List UInt8}, c ∉ p → spl c (p ++ c :: s) = p :: spl c s
  | [], _ => spl_eq c s
  | b :: p, h => by
    have hb : b ≠ c := fun e => h (by rw [e]; simp)
    exact spl_cons hb (spl_app s fun m => h (List.mem_cons_of_mem _ m))
theorem inter_cons {α : Type} (sep a b : List α) (l : List (List α)) : sep.intercalate (a :: b :: l) = a ++ sep ++ sep.intercalate (b :: l) := by
  simp [List.intercalate, List.intersperse]
theorem inter_one {α : Type} (sep a : List α) : sep.intercalate [a] = a := by simp [List.intercalate, List.intersperse]
theorem spl_join {c : UInt8} : ∀ (ps : List (List UInt8)), ps ≠ [] → (∀ p ∈ ps, c ∉ p) → spl c ([c].intercalate ps) = ps
  | [], h, _ => absurd rfl h
  | [p], _, h => by rw [inter_one]; exact spl_nosep (h p (by simp))
  | p :: q :: ps, _, h => by
    rw [inter_cons, List.append_assoc, List.singleton_append, spl_app _ (h p (by simp)), spl_join (q :: ps) (by simp) fun x hx => h x (List.mem_cons_of_mem _ hx)]
theorem join_spl (c : UInt8) : ∀ s : List UInt8, [c].intercalate (spl c s) = s
  | [] => by show [c].intercalate [[]] = []; rw [inter_one]
  | b :: s => by
    have ih := join_spl c s
    obtain ⟨p, ps, hp⟩ := List.exists_cons_of_ne_nil (spl_ne c s)
    by_cases hb : b = c
    · subst hb
      rw [spl_eq, hp, inter_cons, ← hp, ih]
      rfl
    · rw [spl_cons hb hp]
      rw [hp] at ih
      cases ps with
      | nil => rw [inter_one] at ih ⊢; rw [ih]
      | cons q ps => rw [inter_cons] at ih ⊢; rw [← ih]; simp
theorem idx_at {c : UInt8} : ∀ {s : List UInt8} {i : Nat}, Lib.indexByte s c = (i : Int) → s = s.take i ++ c :: s.drop (i + 1)
  | [], i, h => by
    have : (-1 : Int) = (i : Int) := h
    omega
  | b :: s, i, h => by
    rw [idx_cons] at h
    have hg := Lib.indexByte_ge s c
    split at h
    · rename_i hb
      have e : i = 0 := by omega
      subst e hb
      rfl
    · obtain ⟨j, h1, rfl⟩ : ∃ j : Nat, Lib.indexByte s c = (j : Int) ∧ i = j + 1 := by
        split at h
        · omega
        · exact ⟨i - 1, by omega, by omega⟩
      have := idx_at h1
      show b :: s = b :: (s.take j ++ c :: s.drop (j + 1))
      rw [← this]
theorem idx_of {c : UInt8} (s : List UInt8) : ∀ {p : List UInt8}, c ∉ p → Lib.indexByte (p ++ c :: s) c = (p.length : Int)
  | [], _ => by rw [List.nil_append, idx_cons, if_pos rfl]; rfl
  | b :: p, h => by
    have hb : b ≠ c := fun e => h (by rw [e]; simp)
    have ih := idx_of s (p := p) fun m => h (List.mem_cons_of_mem _ m)
    rw [List.cons_append, idx_cons, if_neg hb, if_neg (by omega), ih]
    simp
theorem ba_toList {l : List UInt8} : (⟨l.toArray⟩ : ByteArray).data.toList = l := by simp
theorem joinT_data (ps : List ByteArray) : (joinT ps spT).data.toList = [(32 : UInt8)].intercalate (ps.map (·.data.toList)) := by
  unfold joinT Lib.join
  simp [spT]
theorem parts_join {ps : List ByteArray} (hne : ps ≠ []) (h : ∀ p ∈ ps, (32 : UInt8) ∉ p.data.toList) : partsB 32 (joinT ps spT) = ps := by
  unfold partsB
  rw [joinT_data, spl_join _ (by simpa using hne) (by simpa using h), List.map_map]
  conv => rhs; rw [← List.map_id ps]
  refine List.map_congr_left fun p _ => ?_
  exact ba_ext (by simp)
theorem join_parts (t : ByteArray) : joinT (partsB 32 t) spT = t := by
  refine ba_ext ?_
  rw [joinT_data]
  unfold partsB
  rw [List.map_map, show (((fun x : ByteArray => x.data.toList) ∘ fun l : List UInt8 => (⟨l.toArray⟩ : ByteArray)) = id) from funext fun l => by simp, List.map_id]
  exact join_spl 32 _
theorem parts_ne (t : ByteArray) : partsB 32 t ≠ [] := by
  unfold partsB
  simp [spl_ne]
theorem ext_take (s : ByteArray) (i : Nat) : (s.extract 0 i).data.toList = s.data.toList.take i := by
  rw [ByteArray.data_extract]; simp
theorem ext_drop (s : ByteArray) (i : Nat) : (s.extract i s.size).data.toList = s.data.toList.drop i := by
  rw [ByteArray.data_extract]
  simp
  exact List.take_of_length_le (by rw [List.length_drop]; exact Nat.le_of_eq (congrArg (fun z => z - i) (by rw [Array.length_toList]; rfl)))
/-- A part that is cut is the text of the rule. -/
theorem part_fmt {x : ByteArray} {y : Fwd} (h : partR x = some y) : fmtU y = x := by
  unfold partR cutAt at h
  split at h
  · cases h
  · rename_i hn
    obtain ⟨i, hi⟩ : ∃ i : Nat, Lib.indexByte x.data.toList 62 = (i : Int) := ⟨(Lib.indexByte x.data.toList 62).toNat, by omega⟩
    rw [hi] at h
    simp only [Option.map_some, Option.some.injEq, Int.toNat_natCast] at h
    rw [← h]
    refine ba_ext ?_
    unfold fmtU
    rw [ba_append, ba_append, ext_take, ext_drop]
    conv => rhs; rw [idx_at hi]
    simp
theorem rule_part {p q : ByteArray} (h : (62 : UInt8) ∉ p.data.toList) : partR (fmtU ⟨p, q⟩) = some ⟨p, q⟩ := by
  have hd : (fmtU ⟨p, q⟩).data.toList = p.data.toList ++ 62 :: q.data.toList := by
    unfold fmtU
    rw [ba_append, ba_append]
    simp
  have hi : Lib.indexByte (fmtU ⟨p, q⟩).data.toList 62 = (p.data.toList.length : Int) := by rw [hd]; exact idx_of _ h
  unfold partR
  rw [cut_some hi]
  simp only [Option.map_some, Option.some.injEq]
  have e1 : (fmtU ⟨p, q⟩).extract 0 p.data.toList.length = p := ba_ext (by rw [ext_take, hd]; simp)
  have e2 : (fmtU ⟨p, q⟩).extract (p.data.toList.length + 1) (fmtU ⟨p, q⟩).size = q := ba_ext (by
    rw [ext_drop, hd, show p.data.toList ++ 62 :: q.data.toList = (p.data.toList ++ [62]) ++ q.data.toList by simp]
    exact List.drop_left' (by simp))
  rw [e1, e2]
theorem got_fmt : ∀ {ps : List ByteArray}, allR ps = true → (gotR ps).map fmtU = ps
  | [], _ => rfl
  | x :: ps, h => by
    unfold allR at h
    rw [List.all_cons, Bool.and_eq_true] at h
    obtain ⟨y, hy⟩ := Option.isSome_iff_exists.1 h.1
    unfold gotR
    rw [List.filterMap_cons, hy]
    show fmtU y :: (gotR ps).map fmtU = _
    rw [part_fmt hy, got_fmt h.2]
theorem got_rules : ∀ {rs : List Fwd}, (∀ r ∈ rs, (62 : UInt8) ∉ r.src.data.toList) → gotR (rs.map fmtU) = rs ∧ allR (rs.map fmtU) = true
  | [], _ => ⟨rfl, rfl⟩
  | r :: rs, h => by
    have h1 := rule_part (p := r.src) (q := r.dst) (h r (by simp))
    obtain ⟨i1, i2⟩ := got_rules (rs := rs) fun x hx => h x (List.mem_cons_of_mem _ hx)
    unfold gotR allR at *
    rw [List.map_cons, List.filterMap_cons, h1, List.all_cons, h1, i2]
    exact ⟨by rw [i1], rfl⟩

theorem digs_mem {l : List UInt8} (h : digs l = true) : ∀ b ∈ l, 48 ≤ b.toNat ∧ b.toNat ≤ 57 := by
  unfold digs at h
  intro b hb
  have := List.all_eq_true.1 h b hb
  simpa [dig] using this
theorem lows_mem {l : List UInt8} (h : lows l = true) : ∀ b ∈ l, 97 ≤ b.toNat ∧ b.toNat ≤ 122 := by
  unfold lows at h
  intro b hb
  have := List.all_eq_true.1 h b hb
  simpa [low] using this
theorem rule_bytes {rs : List Fwd} (h : rulesOk rs = true) : ∀ r ∈ rs, (62 : UInt8) ∉ r.src.data.toList ∧ (32 : UInt8) ∉ (fmtU r).data.toList ∧ 2 ≤ (fmtU r).size := fun r hr => by
  obtain ⟨k, hk, rfl⟩ := List.getElem_of_mem hr
  obtain ⟨h1, h2, _⟩ := (rulesOk_iff.1 h).2 k hk
  have a1 := digs_mem (isPfx_iff.1 h1).1
  have a2 := lows_mem (isName_iff.1 h2).1
  have a3 := (isName_iff.1 h2).2.1
  refine ⟨fun m => ?_, fun m => ?_, ?_⟩
  · have := a1 _ m
    simp at this
  · unfold fmtU at m
    rw [ba_append, ba_append, List.mem_append, List.mem_append] at m
    rcases m with (m | m) | m
    · have := a1 _ m
      simp at this
    · simp at m
    · have := a2 _ m
      simp at this
  · unfold fmtU
    rw [ByteArray.size_append, ByteArray.size_append]
    show 2 ≤ _ + 1 + _
    omega
theorem rules_nil : rulesOk [] = true := by decide
theorem parse_fmt {rs : List Fwd} (h : rulesOk rs = true) : prOk (fmtRu rs) = true ∧ prR (fmtRu rs) = rs := by
  by_cases h0 : rs.length = 0
  · have e : rs = [] := List.eq_nil_of_length_eq_zero h0
    subst e
    rw [fmtRu_empty h h0]
    have hs : sEq (⟨#[45]⟩ : ByteArray) ⟨#[45]⟩ = true := sEq_refl _
    unfold prOk prR
    rw [hs]
    exact ⟨rfl, rfl⟩
  · have hb := rule_bytes h
    have hne : rs.map fmtU ≠ [] := fun e => h0 (by rw [← List.length_map (f := fmtU), e]; rfl)
    rw [fmtRu_some h h0]
    have hp := parts_join hne (fun p hp => by
      obtain ⟨r, hr, rfl⟩ := List.mem_map.1 hp
      exact (hb r hr).2.1)
    obtain ⟨g1, g2⟩ := got_rules (rs := rs) fun r hr => (hb r hr).1
    have hs : sEq (joinT (rs.map fmtU) spT) ⟨#[45]⟩ = false := sEq_false.2 fun e => by
      rw [e] at hp
      have hd : partsB 32 (⟨#[45]⟩ : ByteArray) = [⟨#[45]⟩] := by decide +kernel
      rw [hd] at hp
      have hm : (⟨#[45]⟩ : ByteArray) ∈ rs.map fmtU := by rw [← hp]; simp
      obtain ⟨r, hr, e2⟩ := List.mem_map.1 hm
      have := (hb r hr).2.2
      rw [e2] at this
      exact absurd this (by decide)
    have hS : prSome (joinT (rs.map fmtU) spT) = true := by
      unfold prSome
      rw [hp, g1, g2, h, decide_eq_true (by rw [List.length_map]; exact (rulesOk_iff.1 h).1)]
      rfl
    unfold prOk prR
    rw [hs, hS, hp, g1]
    exact ⟨rfl, by simp⟩
theorem fmt_parse {t : ByteArray} (h : prOk t = true) : fmtRu (prR t) = t := by
  unfold prOk at h
  unfold prR
  cases hs : sEq t ⟨#[45]⟩
  · rw [hs, Bool.false_or] at h
    rw [if_neg (by simp), if_pos h]
    unfold prSome at h
    simp only [Bool.and_eq_true, decide_eq_true_iff] at h
    obtain ⟨⟨h1, h2⟩, h3⟩ := h
    have hl := gotR_len _ h1
    have hpos : (partsB 32 t).length ≠ 0 := fun e => parts_ne t (List.eq_nil_of_length_eq_zero e)
    rw [fmtRu_some h3 (by omega), got_fmt h1, join_parts]
  · rw [if_pos rfl, fmtRu_empty rules_nil rfl]
    exact (sEq_iff.1 hs).symm

/-! ### As the reference parses -/
def spSome (t : ByteArray) : Bool := allR ((partsB 32 t).take 21) && sEq (fmtRu (gotR ((partsB 32 t).take 21))) t
theorem sp_eq {t : ByteArray} (h45 : sEq t ⟨#[45]⟩ = false) : spSome t = prSome t ∧ (prSome t = true → gotR ((partsB 32 t).take 21) = gotR (partsB 32 t)) := by
  have h1 : prSome t = true → (partsB 32 t).take 21 = partsB 32 t := fun h => by
    unfold prSome at h
    simp only [Bool.and_eq_true, decide_eq_true_iff] at h
    exact List.take_of_length_le (by omega)
  refine ⟨?_, fun h => by rw [h1 h]⟩
  rw [Bool.eq_iff_iff]
  constructor
  · intro h
    unfold spSome at h
    rw [Bool.and_eq_true] at h
    obtain ⟨ha, he⟩ := h
    rw [sEq_iff] at he
    have hg := gotR_len _ ha
    cases hr : rulesOk (gotR ((partsB 32 t).take 21))
    · rw [fmtRu_no hr] at he
      subst he
      have hd : partsB 32 (⟨#[]⟩ : ByteArray) = [⟨#[]⟩] := by decide +kernel
      rw [hd] at ha
      exact absurd ha (by decide +kernel)
    · have hl := (rulesOk_iff.1 hr).1
      have hle : (partsB 32 t).length ≤ 20 := by
        rw [hg, List.length_take] at hl
        omega
      have ht : (partsB 32 t).take 21 = partsB 32 t := List.take_of_length_le (by omega)
      rw [ht] at ha hr
      unfold prSome
      rw [ha, hr, decide_eq_true hle]
      rfl
  · intro h
    have ht := h1 h
    have hf := fmt_parse (t := t) (by unfold prOk; rw [h]; simp)
    unfold prR at hf
    rw [if_neg (by rw [h45]; simp), if_pos h] at hf
    unfold spSome
    rw [ht, hf, sEq_refl]
    unfold prSome at h
    simp only [Bool.and_eq_true] at h
    rw [h.1.1]
    rfl

end Go.Proofs.YtpinkbodbedajaaGreatDoor

namespace Go.Proofs.YtpinkbodbedajaaGreatDoor
open Go.RowKit

theorem indexB_one (s : ByteArray) (c : UInt8) : Lib.indexB s ⟨#[c]⟩ = Lib.indexByte s.data.toList c := by
  show Lib.index s.data.toList [c] = _
  exact Lib.index_one _ _
theorem parts_last {c : UInt8} {s : ByteArray} (h : Lib.indexByte s.data.toList c < 0) : partsB c s = [s] := by
  unfold partsB; rw [spl_none h]; rfl
theorem parts_cons {c : UInt8} {s : ByteArray} {i : Nat} (hi : Lib.indexByte s.data.toList c = (i : Int)) : partsB c s = s.extract 0 i :: partsB c (s.extract (i + 1) s.size) := by
  obtain ⟨hs1, hs2⟩ := spl_some hi
  unfold partsB
  rw [hs1, List.map_cons]
  have e1 : (⟨(s.data.toList.take i).toArray⟩ : ByteArray) = s.extract 0 i := ba_ext (by rw [ext_take])
  have e2 : s.data.toList.drop (i + 1) = (s.extract (i + 1) s.size).data.toList := by rw [ext_drop]
  rw [e1, e2]
theorem splitB_parts (c : UInt8) : ∀ (k : Nat) (s : ByteArray), Lib.countB s ⟨#[c]⟩ = k → Lib.splitB ⟨#[c]⟩ 0 k s = partsB c s
  | 0, s, hk => by
    rcases Lib.indexB_cases s ⟨#[c]⟩ with hix | ⟨i, hix, _⟩
    · rw [Lib.splitB_zero, parts_last (by rw [← indexB_one, hix]; decide)]
    · have := Lib.countB_hit s ⟨#[c]⟩ i (Nat.le_refl 1) hix
      omega
  | k + 1, s, hk => by
    rcases Lib.indexB_cases s ⟨#[c]⟩ with hix | ⟨i, hix, _⟩
    · rw [Lib.countB_miss s _ hix] at hk; omega
    · have h1 := Lib.countB_hit s ⟨#[c]⟩ i (Nat.le_refl 1) hix
      rw [Lib.splitB_hit ⟨#[c]⟩ 0 k s i hix, parts_cons (by rw [← indexB_one]; exact hix)]
      rw [show i + (⟨#[c]⟩ : ByteArray).size = i + 1 from rfl] at h1 ⊢
      rw [splitB_parts c k _ (by omega)]
      rfl
theorem parts_count (c : UInt8) (s : ByteArray) : (partsB c s).length = Lib.countB s ⟨#[c]⟩ + 1 := by
  rw [← splitB_parts c _ s rfl]
  exact Lib.splitB_all ⟨#[c]⟩ (Nat.le_refl 1) 0 _ s rfl
theorem parts_lenZ (c : UInt8) (s : ByteArray) : (partsB c s).length ≤ s.size + 1 := by
  rw [parts_count]
  have := Lib.countB_le ⟨#[c]⟩ (Nat.le_refl 1) s.size s (Nat.le_refl _)
  omega
theorem spl_memZ {c : UInt8} : ∀ {l p : List UInt8}, p ∈ spl c l → p.length ≤ l.length
  | [], p, h => by simp [spl] at h; subst h; exact Nat.le_refl _
  | b :: l, p, h => by
    by_cases hb : b = c
    · subst hb
      rw [spl_eq] at h
      rcases List.mem_cons.1 h with h | h
      · subst h; exact Nat.zero_le _
      · exact Nat.le_succ_of_le (spl_memZ h)
    · obtain ⟨q, qs, hq⟩ := List.exists_cons_of_ne_nil (spl_ne c l)
      rw [spl_cons hb hq] at h
      rcases List.mem_cons.1 h with h | h
      · subst h
        exact Nat.succ_le_succ (spl_memZ (c := c) (l := l) (by rw [hq]; simp))
      · exact Nat.le_succ_of_le (spl_memZ (c := c) (l := l) (by rw [hq]; exact List.mem_cons_of_mem _ h))
theorem parts_sizeZ {c : UInt8} {t p : ByteArray} (h : p ∈ partsB c t) : p.size ≤ t.size := by
  unfold partsB at h
  obtain ⟨l, hl, rfl⟩ := List.mem_map.1 h
  have := spl_memZ hl
  show l.toArray.size ≤ t.data.size
  simpa using this

/-! ### Lines -/
theorem parts_app {c : UInt8} (p : ByteArray) (hp : c ∉ p.data.toList) (s : ByteArray) : partsB c (p ++ ⟨#[c]⟩ ++ s) = p :: partsB c s := by
  unfold partsB
  have e : (p ++ ⟨#[c]⟩ ++ s).data.toList = p.data.toList ++ c :: s.data.toList := by rw [ba_append, ba_append]; simp
  rw [e, spl_app _ hp, List.map_cons]
theorem parts_empty (c : UInt8) : partsB c ⟨#[]⟩ = [⟨#[]⟩] := rfl
/-- Lines, each with its end. -/
def linesT (ls : List ByteArray) : ByteArray := ls.foldr (fun l t => l ++ ⟨#[10]⟩ ++ t) ⟨#[]⟩
theorem linesT_nil : linesT [] = ⟨#[]⟩ := rfl
theorem linesT_cons (l : ByteArray) (ls : List ByteArray) : linesT (l :: ls) = l ++ ⟨#[10]⟩ ++ linesT ls := rfl
theorem linesT_parts : ∀ ls : List ByteArray, (∀ l ∈ ls, (10 : UInt8) ∉ l.data.toList) → partsB 10 (linesT ls) = ls ++ [⟨#[]⟩]
  | [], _ => rfl
  | l :: ls, h => by
    rw [linesT_cons, parts_app l (h l (by simp)), linesT_parts ls fun x hx => h x (List.mem_cons_of_mem _ hx)]
    rfl

end Go.Proofs.YtpinkbodbedajaaGreatDoor

namespace Go.Proofs.YtpinkbodbedajaaGreatDoor
open Go.RowKit

theorem joinT_data1 (c : UInt8) (ps : List ByteArray) : (joinT ps ⟨#[c]⟩).data.toList = [c].intercalate (ps.map (·.data.toList)) := by
  unfold joinT Lib.join
  simp
theorem parts_join1 {c : UInt8} {ps : List ByteArray} (hne : ps ≠ []) (h : ∀ p ∈ ps, c ∉ p.data.toList) : partsB c (joinT ps ⟨#[c]⟩) = ps := by
  unfold partsB
  rw [joinT_data1, spl_join _ (by simpa using hne) (by simpa using h), List.map_map]
  conv => rhs; rw [← List.map_id ps]
  refine List.map_congr_left fun p _ => ?_
  exact ba_ext (by simp)
theorem join_parts1 (c : UInt8) (t : ByteArray) : joinT (partsB c t) ⟨#[c]⟩ = t := by
  refine ba_ext ?_
  rw [joinT_data1]
  unfold partsB
  rw [List.map_map, show (((fun x : ByteArray => x.data.toList) ∘ fun l : List UInt8 => (⟨l.toArray⟩ : ByteArray)) = id) from funext fun l => by simp, List.map_id]
  exact join_spl c _
theorem parts_ne1 (c : UInt8) (t : ByteArray) : partsB c t ≠ [] := by
  unfold partsB
  simp [spl_ne]
theorem cut_join {c : UInt8} {x a b : ByteArray} (h : cutAt c x = some (a, b)) : a ++ ⟨#[c]⟩ ++ b = x := by
  unfold cutAt at h
  split at h
  · cases h
  · rename_i hn
    obtain ⟨i, hi⟩ : ∃ i : Nat, Lib.indexByte x.data.toList c = (i : Int) := ⟨(Lib.indexByte x.data.toList c).toNat, by omega⟩
    rw [hi] at h
    simp only [Option.some.injEq, Int.toNat_natCast, Prod.mk.injEq] at h
    rw [← h.1, ← h.2]
    refine ba_ext ?_
    rw [ba_append, ba_append, ext_take, ext_drop]
    conv => rhs; rw [idx_at hi]
    simp
theorem cut_app {c : UInt8} {p q : ByteArray} (h : c ∉ p.data.toList) : cutAt c (p ++ ⟨#[c]⟩ ++ q) = some (p, q) := by
  have hd : (p ++ ⟨#[c]⟩ ++ q).data.toList = p.data.toList ++ c :: q.data.toList := by
    rw [ba_append, ba_append]
    simp
  have hi : Lib.indexByte (p ++ ⟨#[c]⟩ ++ q).data.toList c = (p.data.toList.length : Int) := by rw [hd]; exact idx_of _ h
  rw [cut_some hi]
  have e1 : (p ++ ⟨#[c]⟩ ++ q).extract 0 p.data.toList.length = p := ba_ext (by rw [ext_take, hd]; simp)
  have e2 : (p ++ ⟨#[c]⟩ ++ q).extract (p.data.toList.length + 1) (p ++ ⟨#[c]⟩ ++ q).size = q := ba_ext (by
    rw [ext_drop, hd, show p.data.toList ++ c :: q.data.toList = (p.data.toList ++ [c]) ++ q.data.toList by simp]
    exact List.drop_left' (by simp))
  rw [e1, e2]

/-! ### Parts parsed one by one -/
section
variable {α : Type} (f : ByteArray → Option α)
def allF (ps : List ByteArray) : Bool := ps.all fun x => (f x).isSome
def gotF (ps : List ByteArray) : List α := ps.filterMap f
variable {f}
theorem gotF_len : ∀ ps : List ByteArray, allF f ps = true → (gotF f ps).length = ps.length
  | [], _ => rfl
  | x :: ps, h => by
    unfold allF at h
    rw [List.all_cons, Bool.and_eq_true] at h
    obtain ⟨y, hy⟩ := Option.isSome_iff_exists.1 h.1
    unfold gotF
    rw [List.filterMap_cons, hy]
    show (gotF f ps).length + 1 = _
    rw [gotF_len ps h.2]
    rfl
theorem gotF_snoc {ps : List ByteArray} {x : ByteArray} {y : α} (h : f x = some y) : gotF f (ps ++ [x]) = gotF f ps ++ [y] := by
  unfold gotF
  rw [List.filterMap_append]
  simp [h]
theorem allF_snoc (ps : List ByteArray) (x : ByteArray) : allF f (ps ++ [x]) = (allF f ps && (f x).isSome) := by
  unfold allF
  rw [List.all_append]
  simp
theorem allF_prefix {ps qs : List ByteArray} (h : ps <+: qs) (hf : allF f ps = false) : allF f qs = false := by
  obtain ⟨r, rfl⟩ := h
  unfold allF at *
  rw [List.all_append, hf]
  rfl
theorem gotF_map {g : α → ByteArray} (hg : ∀ x y, f x = some y → g y = x) : ∀ {ps : List ByteArray}, allF f ps = true → (gotF f ps).map g = ps
  | [], _ => rfl
  | x :: ps, h => by
    unfold allF at h
    rw [List.all_cons, Bool.and_eq_true] at h
    obtain ⟨y, hy⟩ := Option.isSome_iff_exists.1 h.1
    unfold gotF
    rw [List.filterMap_cons, hy]
    show g y :: (gotF f ps).map g = _
    rw [hg x y hy, gotF_map hg h.2]
theorem gotF_of {g : α → ByteArray} : ∀ {rs : List α}, (∀ r ∈ rs, f (g r) = some r) → gotF f (rs.map g) = rs ∧ allF f (rs.map g) = true
  | [], _ => ⟨rfl, rfl⟩
  | r :: rs, h => by
    have h1 := h r (by simp)
    obtain ⟨i1, i2⟩ := gotF_of (rs := rs) fun x hx => h x (List.mem_cons_of_mem _ hx)
    unfold gotF allF at *
    rw [List.map_cons, List.filterMap_cons, h1, List.all_cons, h1, i2]
    exact ⟨by rw [i1], rfl⟩
theorem gotF_less {g : ByteArray → Option α} (hg : ∀ x y, f x = some y → g x = some y) : ∀ {ps : List ByteArray}, allF f ps = true → gotF g ps = gotF f ps ∧ allF g ps = true
  | [], _ => ⟨rfl, rfl⟩
  | x :: ps, h => by
    unfold allF at h
    rw [List.all_cons, Bool.and_eq_true] at h
    obtain ⟨y, hy⟩ := Option.isSome_iff_exists.1 h.1
    obtain ⟨i1, i2⟩ := gotF_less hg (ps := ps) h.2
    unfold gotF allF at *
    rw [List.filterMap_cons, List.filterMap_cons, hy, hg x y hy, List.all_cons, hg x y hy, i2]
    exact ⟨by rw [i1], rfl⟩
end

/-! ### Networks -/
def fmtO (o : Ofc) : ByteArray := o.name ++ ⟨#[32]⟩ ++ fmtRu o.rules
def fmtN (net : List Ofc) : ByteArray := if netOk net then joinT (net.map fmtO) ⟨#[59]⟩ else ⟨#[]⟩
theorem fmtN_no {net : List Ofc} (h : netOk net = false) : fmtN net = ⟨#[]⟩ := by unfold fmtN; rw [h]; rfl
theorem fmtN_yes {net : List Ofc} (h : netOk net = true) : fmtN net = joinT (net.map fmtO) ⟨#[59]⟩ := by unfold fmtN; rw [if_pos h]
def partO (x : ByteArray) : Option Ofc := (cutAt 32 x).bind fun p => if prOk p.2 then some ⟨p.1, prR p.2⟩ else none
def partC (x : ByteArray) : Option Ofc := (cutAt 32 x).map fun p => ⟨p.1, prR p.2⟩
def pnOk (t : ByteArray) : Bool := allF partO (partsB 59 t) && decide ((partsB 59 t).length ≤ 8) && netOk (gotF partO (partsB 59 t))
def pnN (t : ByteArray) : List Ofc := if pnOk t then gotF partO (partsB 59 t) else []
theorem partO_fmt {x : ByteArray} {o : Ofc} (h : partO x = some o) : fmtO o = x := by
  unfold partO at h
  obtain ⟨⟨a, b⟩, hc, h⟩ := Option.bind_eq_some_iff.1 h
  simp only at h
  split at h
  · rename_i hb
    injection h with h
    rw [← h]
    unfold fmtO
    rw [fmt_parse hb]
    exact cut_join hc
  · cases h
theorem partO_C {x : ByteArray} {o : Ofc} (h : partO x = some o) : partC x = some o := by
  unfold partO at h
  obtain ⟨⟨a, b⟩, hc, h⟩ := Option.bind_eq_some_iff.1 h
  simp only at h
  split at h
  · injection h with h
    unfold partC
    rw [hc, ← h]
    rfl
  · cases h
theorem low_not {l : List UInt8} (h : lows l = true) {c : UInt8} (hc : c.toNat < 97) : c ∉ l := fun m => by
  have := lows_mem h c m
  omega
theorem inter_mem {c b : UInt8} : ∀ {ls : List (List UInt8)}, b ∈ [c].intercalate ls → b = c ∨ ∃ l ∈ ls, b ∈ l
  | [], h => by simp [List.intercalate] at h
  | [a], h => by rw [inter_one] at h; exact .inr ⟨a, by simp, h⟩
  | a :: d :: ls, h => by
    rw [inter_cons, List.mem_append, List.mem_append] at h
    rcases h with (h | h) | h
    · exact .inr ⟨a, by simp, h⟩
    · exact .inl (by simpa using h)
    · rcases inter_mem (ls := d :: ls) h with h | ⟨l, hl, h⟩
      · exact .inl h
      · exact .inr ⟨l, List.mem_cons_of_mem _ hl, h⟩
theorem fmtU_59 {rs : List Fwd} (h : rulesOk rs = true) : ∀ r ∈ rs, (59 : UInt8) ∉ (fmtU r).data.toList := fun r hr m => by
  obtain ⟨k, hk, rfl⟩ := List.getElem_of_mem hr
  obtain ⟨h1, h2, _⟩ := (rulesOk_iff.1 h).2 k hk
  have a1 := digs_mem (isPfx_iff.1 h1).1
  have a2 := lows_mem (isName_iff.1 h2).1
  unfold fmtU at m
  rw [ba_append, ba_append, List.mem_append, List.mem_append] at m
  rcases m with (m | m) | m
  · have := a1 _ m
    simp at this
  · simp at m
  · have := a2 _ m
    simp at this
theorem fmtRu_59 (rs : List Fwd) : (59 : UInt8) ∉ (fmtRu rs).data.toList := fun m => by
  cases h : rulesOk rs
  · rw [fmtRu_no h] at m; simp at m
  · by_cases h0 : rs.length = 0
    · rw [fmtRu_empty h h0] at m; simp at m
    · rw [fmtRu_some h h0, joinT_data] at m
      rcases inter_mem m with m | ⟨l, hl, m⟩
      · simp at m
      · simp only [List.map_map, List.mem_map] at hl
        obtain ⟨r, hr, rfl⟩ := hl
        exact fmtU_59 h r hr m
theorem name_of {net : List Ofc} (h : netOk net = true) {o : Ofc} (ho : o ∈ net) : lows o.name.data.toList = true ∧ rulesOk o.rules = true := by
  obtain ⟨k, hk, rfl⟩ := List.getElem_of_mem ho
  obtain ⟨h1, _, _, h4, _⟩ := (netOk_iff.1 h).2 k hk
  exact ⟨(isName_iff.1 h1).1, h4⟩
theorem fmtO_59 {net : List Ofc} (h : netOk net = true) : ∀ o ∈ net, (59 : UInt8) ∉ (fmtO o).data.toList := fun o ho m => by
  unfold fmtO at m
  rw [ba_append, ba_append, List.mem_append, List.mem_append] at m
  rcases m with (m | m) | m
  · exact low_not (name_of h ho).1 (by decide) m
  · simp at m
  · exact fmtRu_59 _ m
theorem partO_of {net : List Ofc} (h : netOk net = true) : ∀ o ∈ net, partO (fmtO o) = some o := fun o ho => by
  obtain ⟨h1, h2⟩ := name_of h ho
  obtain ⟨p1, p2⟩ := parse_fmt h2
  unfold partO fmtO
  rw [cut_app (low_not h1 (by decide))]
  simp [p1, p2]
theorem net_ne {net : List Ofc} (h : netOk net = true) : net.map fmtO ≠ [] := fun e => by
  have := (netOk_iff.1 h).1.1
  have h2 : (net.map fmtO).length = 0 := by rw [e]; rfl
  rw [List.length_map] at h2
  omega
theorem fmtN_parts {net : List Ofc} (h : netOk net = true) : partsB 59 (fmtN net) = net.map fmtO := by
  rw [fmtN_yes h]
  exact parts_join1 (net_ne h) fun p hp => by
    obtain ⟨o, ho, rfl⟩ := List.mem_map.1 hp
    exact fmtO_59 h o ho
theorem pn_fmt {net : List Ofc} (h : netOk net = true) : pnOk (fmtN net) = true ∧ pnN (fmtN net) = net := by
  obtain ⟨g1, g2⟩ := gotF_of (partO_of h)
  have hp : pnOk (fmtN net) = true := by
    unfold pnOk
    rw [fmtN_parts h, g1, g2, h, decide_eq_true (by rw [List.length_map]; exact (netOk_iff.1 h).1.2)]
    rfl
  refine ⟨hp, ?_⟩
  unfold pnN
  rw [if_pos hp, fmtN_parts h, g1]
theorem fmt_pn {t : ByteArray} (h : pnOk t = true) : fmtN (pnN t) = t := by
  unfold pnN
  rw [if_pos h]
  unfold pnOk at h
  simp only [Bool.and_eq_true, decide_eq_true_iff] at h
  obtain ⟨⟨h1, h2⟩, h3⟩ := h
  rw [fmtN_yes h3, gotF_map (fun x y => partO_fmt) h1, join_parts1]
def snOk (t : ByteArray) : Bool := allF partC ((partsB 59 t).take 9) && sEq (fmtN (gotF partC ((partsB 59 t).take 9))) t
theorem sn_eq (t : ByteArray) : snOk t = pnOk t ∧ (pnOk t = true → gotF partC ((partsB 59 t).take 9) = gotF partO (partsB 59 t)) := by
  have h1 : pnOk t = true → (partsB 59 t).take 9 = partsB 59 t := fun h => by
    unfold pnOk at h
    simp only [Bool.and_eq_true, decide_eq_true_iff] at h
    exact List.take_of_length_le (by omega)
  have h2 : pnOk t = true → gotF partC (partsB 59 t) = gotF partO (partsB 59 t) ∧ allF partC (partsB 59 t) = true := fun h => by
    unfold pnOk at h
    simp only [Bool.and_eq_true] at h
    exact gotF_less (fun x y => partO_C) h.1.1
  refine ⟨?_, fun h => by rw [h1 h, (h2 h).1]⟩
  rw [Bool.eq_iff_iff]
  constructor
  · intro h
    unfold snOk at h
    rw [Bool.and_eq_true] at h
    obtain ⟨ha, he⟩ := h
    rw [sEq_iff] at he
    have hg := gotF_len _ ha
    obtain ⟨out, hout⟩ : ∃ out, gotF partC ((partsB 59 t).take 9) = out := ⟨_, rfl⟩
    rw [hout] at he hg
    cases hr : netOk out
    · rw [fmtN_no hr] at he
      subst he
      have hd : partsB 59 (⟨#[]⟩ : ByteArray) = [⟨#[]⟩] := by decide +kernel
      rw [hd] at ha
      exact absurd ha (by decide +kernel)
    · rw [← he]
      exact (pn_fmt hr).1
  · intro h
    unfold snOk
    rw [h1 h, (h2 h).1, (h2 h).2]
    have hf := fmt_pn h
    unfold pnN at hf
    rw [if_pos h] at hf
    rw [hf, sEq_refl]
    rfl
theorem fmtO_size {net : List Ofc} (h : netOk net = true) : ∀ p ∈ net.map fmtO, p.size ≤ 349 ∧ 1 ≤ p.size := fun p hp => by
  obtain ⟨o, ho, rfl⟩ := List.mem_map.1 hp
  obtain ⟨k, hk, rfl⟩ := List.getElem_of_mem ho
  obtain ⟨h1, _⟩ := (netOk_iff.1 h).2 k hk
  have := (isName_iff.1 h1).2
  have := fmtRu_size net[k].rules
  unfold fmtO
  rw [ByteArray.size_append, ByteArray.size_append]
  show _ + 1 + _ ≤ _ ∧ 1 ≤ _ + 1 + _
  omega

end Go.Proofs.YtpinkbodbedajaaGreatDoor
