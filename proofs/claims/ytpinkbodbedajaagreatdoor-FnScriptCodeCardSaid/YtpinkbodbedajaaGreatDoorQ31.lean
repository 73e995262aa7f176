/- QD QE ZA ZN -/
import Derived.Test.YtpinkbodbedajaaGreatDoorQ30
import Derived.Test.YtpinkbodbedajaaGreatDoorQ7
import Derived.Maps.OwnIn
import Derived.Test.YtpinkbodbedajaaGreatDoorQ29
import Derived.Test.YtpinkbodbedajaaGreatDoorQ24
import Derived.Test.YtpinkbodbedajaaGreatDoorQ25
import Derived.Lib.OthersKept
import Derived.Test.YtpinkbodbedajaaGreatDoorQ15
namespace Go.Proofs.YtpinkbodbedajaaGreatDoor
open Go.RowKit

theorem pre_zero (ps : List ByteArray) (sep : ByteArray) : joinT (ps.take 0) sep = ⟨#[]⟩ := joinT_nil _
theorem pre_one {ps : List ByteArray} {sep : ByteArray} (h : 0 < ps.length) : joinT (ps.take 1) sep = ps[0] := by
  rw [List.take_succ_eq_append_getElem h, List.take_zero, List.nil_append, joinT_one]
theorem pre_succ {ps : List ByteArray} {sep : ByteArray} {k : Nat} (h : k < ps.length) (h0 : 0 < k) : joinT (ps.take (k + 1)) sep = joinT (ps.take k) sep ++ sep ++ ps[k] := by
  rw [List.take_succ_eq_append_getElem h, joinT_snoc]
  intro e
  have := congrArg List.length e
  rw [List.length_take, List.length_nil] at this
  omega
theorem pre_size {ps : List ByteArray} {sep : ByteArray} {b : Nat} (h : ∀ p ∈ ps, p.size ≤ b) (k : Nat) : (joinT (ps.take k) sep).size ≤ ps.length * (b + sep.size) := by
  have h1 := joinT_size (ps.take k) sep b fun p hp => h p (List.mem_of_mem_take hp)
  exact Nat.le_trans h1 (Nat.mul_le_mul (by rw [List.length_take]; omega) (Nat.le_refl _))
theorem fmtN_pos {net : List Ofc} (h : netOk net = true) : 1 ≤ (fmtN net).size := by
  rcases Nat.eq_zero_or_pos (fmtN net).size with h0 | h0
  · exfalso
    have e : fmtN net = ⟨#[]⟩ := ByteArray.ext (Array.eq_empty_of_size_eq_zero h0)
    have hp := fmtN_parts h
    rw [e] at hp
    have hd : partsB 59 (⟨#[]⟩ : ByteArray) = [⟨#[]⟩] := by decide +kernel
    rw [hd] at hp
    have := (fmtO_size h ⟨#[]⟩ (by rw [← hp]; simp)).2
    exact absurd this (by decide)
  · exact h0
theorem preN_size {net : List Ofc} (h : netOk net = true) (k : Nat) : (joinT ((net.map fmtO).take k) ⟨#[59]⟩).size ≤ 2800 := by
  have h1 := pre_size (sep := ⟨#[59]⟩) (fun p hp => (fmtO_size h p hp).1) k
  have h2 := (netOk_iff.1 h).1.2
  have h3 : (net.map fmtO).length * (349 + (⟨#[59]⟩ : ByteArray).size) ≤ 8 * 350 := Nat.mul_le_mul (by rw [List.length_map]; omega) (by decide)
  omega
theorem fmtN_size (net : List Ofc) : (fmtN net).size ≤ 2800 := by
  cases h : netOk net
  · rw [fmtN_no h]; exact Nat.zero_le _
  · rw [fmtN_yes h]
    have := preN_size h (net.map fmtO).length
    rwa [List.take_length] at this

set_option maxRecDepth 100000 in
set_option maxHeartbeats 1600000 in
theorem impl_FormatNetwork (v : Value) (net : List Ofc) (w : World) (hv : rd w w.heap.size v net) :
    Calls Tryz.prog 32 #[v] w fun e w' => e = .returned (.string (fmtN net)) ∧ Below w.heap.size w w' := by
  have HV := Lib.hid hv
  obtain ⟨A, n, c, rfl, hn, hc, hm, hr⟩ := hv
  subst hn
  have HR := Lib.hid hr; clear hr
  obtain ⟨i0, hi, hz0, hz1, hz2⟩ := info_parts Tryz.infoStr
  have l0 := Below.refl w.heap.size w
  go_enter Tryz.func32, Tryz.ntmps32
  go_wp2_with fail
  refine (impl_NetworkValid _ net _ HV.out).mono ?_
  rintro e w1 ⟨rfl, b1⟩
  have l1 := b1
  clear b1 l0
  cases hok : netOk net
  · have HF := Lib.hid (fmtN_no hok)
    clear hok
    go_wp2_with fail
    go_ret
    exact ⟨ret_str HF.out.symm, l1⟩
  have HOK := Lib.hid hok
  have h60 := (netOk_iff.1 hok).1.2
  have HF := Lib.hid (fmtN_yes hok)
  clear hok
  have hmk := make_row (P := Tryz.prog) 23 9 i0 _ Tryz.underlying23 hi hz0 net.length (by rw [hz2]; omega) (by omega)
  go_wp2_with fail
  have hf0 : filled 9 (w1.alloc (Obj.cells (madeCells #[.string ⟨#[]⟩] net.length) 9)) w1.heap.size net.length 0 (net.map fmtO) := filled.made w1 _ _ _ (by rw [size_madeCells]; exact (Nat.mul_one _).symm) _
  have hb0 : Below w1.heap.size w1 (w1.alloc (Obj.cells (madeCells #[.string ⟨#[]⟩] net.length) 9)) := (Below.refl _ _).alloc (Nat.le_refl _) _
  generalize w1.alloc (Obj.cells (madeCells #[.string ⟨#[]⟩] net.length) 9) = w0 at *
  clear hmk
  have HLN : Hid ((net.map fmtO).length = net.length) := by show _ = _; rw [List.length_map]
  go_loopw [14] (fun i wr => ∃ k : Nat, k ≤ net.length ∧ i = .int .i64 k ∧ Below w1.heap.size w1 wr ∧ filled 9 wr w1.heap.size net.length k (net.map fmtO)) (fun i _ => net.length - (intOf i).toNat)
  case atStart => exact ⟨0, Nat.zero_le _, rfl, hb0, hf0⟩
  case round =>
    obtain ⟨k, hk, rfl, hbl, hf⟩ := hrel
    obtain ⟨w2, rfl⟩ : ∃ w2 : World, w2 = wr := ⟨_, rfl⟩
    clear hf0 hb0
    have hs1 := l1.size
    by_cases hlt : k < net.length
    · obtain ⟨b, o, A2, k2, rfl, hb, hok, hu, y1, y2⟩ := HR.out.ofcU k hlt
      have y1 := y1 w2 (later_trans l1 hbl)
      have y2 := y2 w2 (later_trans l1 hbl)
      have hLk : (net.map fmtO)[k]'(by rw [HLN.out]; exact hlt) = fmtO net[k] := by simp
      have HSZ := Lib.hid (fmtO_size HOK.out (fmtO net[k]) (List.mem_map.2 ⟨_, List.getElem_mem hlt, rfl⟩))
      have HST := Lib.hid (fun (W : World) (hF : filled 9 W w1.heap.size net.length k (net.map fmtO)) => hF.step (by rw [HLN.out]; exact hlt) (by rw [HLN.out]; exact Nat.le_refl _) (ecs := [.string (fmtO net[k])]) (by rw [hLk]; exact ⟨by have := HSZ.out.1; unfold maxLen; omega, rfl⟩))
      have hnz := (name_size ((netOk_iff.1 HOK.out).2 k hlt).1).2
      have HU := Lib.hid hu
      clear hLk hu
      generalize net[k] = x at *
      obtain ⟨nm, rs⟩ := x
      simp only at hnz y1 y2 hok
      have HCR : Hid (∀ W, Below w.heap.size w W → Calls Tryz.prog 91 #[.slice A2 rs.length k2] W fun e W' => e = .returned (.string (fmtRu rs)) ∧ Below W.heap.size W W') := fun W hW => impl_FormatRules _ rs W (HU.out.on hW)
      have hfz := fmtRu_size rs
      obtain ⟨F, hF⟩ : ∃ F, fmtRu rs = F := ⟨_, rfl⟩
      have HFX : Hid (fmtO ⟨nm, rs⟩ = nm ++ ⟨#[32]⟩ ++ F) := by show _ = _; rw [← hF]; rfl
      rw [hF] at HCR hfz
      clear hF HU
      have hki : (k : Int) < (net.length : Int) := by omega
      have hki0 : (0 : Int) ≤ (k : Int) := by omega
      have hs2 := hbl.size
      obtain ⟨wb, hwb⟩ : ∃ u, u = w2.alloc (Obj.cells #[.string nm, .slice A2 rs.length k2] 102) := ⟨_, rfl⟩
      have q0 := box_cells hwb 0 (.string nm) rfl
      have q1 := box_cells hwb 1 (.slice A2 rs.length k2) rfl
      have lb := (box_later hwb).1
      have hne : w1.heap.size < w2.heap.size := by obtain ⟨cs, h1, _⟩ := hf; exact (Array.getElem?_eq_some_iff.1 h1).1
      have HFB := Lib.hid (hf.below lb)
      have HLB := Lib.hid (later_trans hbl lb)
      have HTB := Lib.hid (later_trans (later_trans l1 hbl) lb)
      have HWB := Lib.hid hwb; clear hwb hf
      have HIT : Hid (∀ W, Below wb.heap.size wb W → Calls Tryz.prog 91 #[.slice A2 rs.length k2] W fun e W' => e = .returned (.string F) ∧ Below W.heap.size W W') := fun W hW => HCR.out W (later_trans HTB.out hW)
      go_wp2_with fail
      rw [← HWB.out]
      have ld := later_drew (Below.refl wb.heap.size wb)
      have hwz : wb.heap.size = w2.heap.size + 1 := by rw [HWB.out]; simp
      have e0 := q0 _ ld
      have e1 := q1 _ ld
      have hs58 : nm.size + (⟨#[32]⟩ : ByteArray).size ≤ 9223372036854775807 := by show _ + 1 ≤ _; omega
      have hs59 : (nm ++ (⟨#[32]⟩ : ByteArray)).size + F.size ≤ 9223372036854775807 := by rw [ByteArray.size_append]; show _ + 1 + _ ≤ _; omega
      have hs60 : ¬ 9223372036854775807 < nm.size + 1 + F.size := by omega
      have hs61 : ¬ 9223372036854775807 < nm.size + 1 := by omega
      go_region_held3 (fun W => W.cell? ⟨w2.heap.size, 0, none⟩ = some (.string nm) ∧ W.cell? ⟨w2.heap.size, 1, none⟩ = some (.slice A2 rs.length k2)) (first | exact ⟨e0, e1⟩ | exact ⟨e03, e13⟩ | exact ⟨e04 _, e14 _⟩ | fail) (first | (go_at_call 91; (with_reducible refine (HIT.out _ ld).mono ?_); rintro e w3 ⟨rfl, b3⟩; have l3 := later_trans ld b3; have e03 := q0 w3 l3; have e13 := q1 w3 l3; have hf3 := HFB.out.below l3; obtain ⟨u0, g0⟩ := hf3.cell (j := k) (by show _ < _ * 1; omega); have f0 := hf3.free k; have e04 := (fun v : Value => (World.cell?_setCell_other w3 ⟨w1.heap.size, k, none⟩ ⟨w2.heap.size, 0, none⟩ v (fun e => by injection e; omega)).trans e03); have e14 := (fun v : Value => (World.cell?_setCell_other w3 ⟨w1.heap.size, k, none⟩ ⟨w2.heap.size, 1, none⟩ v (fun e => by injection e; omega)).trans e13)) | fail)
      all_goals
        have HF3 := Lib.hid hf3
        have HB3 := Lib.hid (later_trans HLB.out l3)
        clear hf3 g0 f0 e03 e13 e04 e14 b3 l3 e0 e1
        go_wp2_with fail
        go_roundw
        case rel =>
          have := HST.out w3 HF3.out
          rw [show k * El.size ByteArray = k from Nat.mul_one k, HFX.out] at this
          exact ⟨k + 1, by omega, by go_num, HB3.out.trans (setAll_below [.string _] w3 k _ (Nat.le_refl _)), this⟩
        case measure => simp [intOf]; omega
    · have HE := Lib.hid (show k = net.length by omega)
      have HO := Lib.hid ((HE.out ▸ hf : filled _ _ _ _ net.length _).own HLN.out.symm (Nat.le_refl _) (by unfold maxLen; omega))
      clear hf
      have l2 := later_trans l1 hbl
      have hjz := joinT_size (net.map fmtO) (⟨#[59]⟩ : ByteArray) 349 fun p hp => (fmtO_size HOK.out p hp).1
      rw [HLN.out] at hjz
      have hjz2 : net.length * (349 + (⟨#[59]⟩ : ByteArray).size) ≤ 8 * 350 := Nat.mul_le_mul h60 (by decide)
      have HJ := Lib.hid (join_own (sep := (⟨#[59]⟩ : ByteArray)) HO.out HLN.out.symm (by rw [HLN.out]; omega) (by omega))
      clear hjz hjz2
      go_wp2_with fail
      refine HJ.out.mono ?_
      rw [← HF.out]
      rintro e w3 ⟨rfl, b3⟩
      have l3 := later_trans l2 b3
      go_wp2_with fail
      go_ret
      exact ⟨rfl, l3⟩

end Go.Proofs.YtpinkbodbedajaaGreatDoor

namespace Go.Proofs.YtpinkbodbedajaaGreatDoor
open Go.RowKit Go.Shelf
attribute [local go_sem] Oper.semAt_some

/-- 'append' under a fence, of one element, to a row of the call's own; where the new row lies. -/
theorem wpListIn_append1At {α : Type} [Flat α] {F : Fence} {n : Nat} {P : Program} {w : World} {ops : Array Oper} {rest : List Oper} {o : Oper} {a : Act} {Q : Exit → Act → World → Prop} (hgd : o.guard = none) (s x : Operand) (t : TypeId)
    (ho : o.op = .call { callee := .builtin .append, args := #[s, x], argTypes := #[t, t] })
    (base : Nat) (e : TypeId) (i : TypeInfo) (z : Value) (bytes : Nat) (ht : P.underlying t = some (.slice e)) (hi : P.info? e = some i) (hz : i.zero = some z)
    (hsize : i.size = El.size α) (hby : i.bytes = bytes) (hzs : z.cells.size = El.size α) (hsz : 0 < El.size α)
    (v : Value) (xs : List α) (y : α) (hs : a.eval s = v) (hown : own e base w v xs)
    (ad : Addr) (c : Nat) (cs : List Value) (hx : a.eval x = .slice (some ad) 1 c) (hel : El.el w w.heap.size y cs) (hnews : ∀ j u, cs[j]? = some u → w.cell? (ad.add j) = some u)
    (h63 : xs.length + 1 ≤ maxLen) (hbytes : (xs.length + 1) * bytes ≤ 140737488355328) (hbase : base ≤ w.heap.size)
    (h : ∀ g cap w', own e base w' (.slice (some ⟨g, 0, none⟩) (xs.length + 1) cap) (xs ++ [y]) → w.grownBy w' v.ownBlock → (some g = v.ownBlock ∨ g = w.heap.size) → wpListIn F n P ops Q rest (a.put o.dst (.slice (some ⟨g, 0, none⟩) (xs.length + 1) cap)) w') : wpListIn F n P ops Q (o :: rest) a w := by
  obtain ⟨css, hrow, hl, he⟩ := hown
  refine wpListIn_append_own_at (nF := n) w hgd s x t ho base e i z (El.size α) bytes ht hi hz hsize hby hzs hsz v xs.length css.flatten hs hrow ad 1 c cs hx (by rw [El.len hel, Nat.one_mul]) hnews (El.one hel) h63 hbytes hbase ?_
  intro v' w' h2 h3 _ h5
  have hO : own e base w' v' (xs ++ [y]) := ⟨css ++ [cs], by simpa using h2, by simp [hl], fun k h1 h2 => by
    by_cases hk : k < xs.length
    · rw [List.getElem_append_left hk, List.getElem_append_left (by omega)]
      exact Flat.free (he k hk (by omega))
    · have hke : k = xs.length := by simp at h1; omega
      subst hke
      rw [List.getElem_append_right (Nat.le_refl _), List.getElem_append_right (by omega)]
      simpa [hl] using Flat.free hel⟩
  have hle : (xs ++ [y]).length = xs.length + 1 := by simp
  rcases hO.form with ⟨_, h0⟩ | ⟨g, cap, rfl, _⟩
  · simp at h0
  · rw [hle] at hO ⊢
    rw [hle] at h5
    refine h g cap w' hO h3 ?_
    rcases h5 with h5 | h5
    · exact .inl h5
    · injection h5 with h5
      exact .inr h5

theorem own_row {α : Type} [El α] {T B z : Nat} {w : World} {v : Value} {xs : List α} {row : Option Nat} (ho : own T B w v xs) (hz : z < B) (hr : ∀ r, row = some r → r = z ∨ B ≤ r ∧ ∃ o : Obj, w.heap[r]? = some o ∧ o.isCells = false) : v.ownBlock = none ∨ v.ownBlock ≠ row := by
  cases hb : v.ownBlock with
  | none => exact .inl rfl
  | some k =>
    refine .inr fun e => ?_
    have hk := (ho.blk k hb).1
    rcases hr k e.symm with h | ⟨_, o, ho1, ho2⟩
    · omega
    · obtain ⟨o', ho3, ho4⟩ := own_isCells ho hb
      rw [ho3] at ho1
      injection ho1 with ho1
      rw [ho1, ho2] at ho4
      cases ho4

/-- What lies between two rounds. -/
def pnI (h : Nat) (w0 : World) (B : Nat) (pre : List ByteArray) (W : World) : Prop :=
  (∃ v os, Boxed W (h + 1 + 1) 59 v ∧ isN 102 174 B W v (gotF partO pre) os) ∧ B ≤ W.heap.size ∧ allF partO pre = true ∧ pre.length ≤ 8 ∧ Boxed W h 59 (.slice none 0 0) ∧ Boxed W (h + 1) 4 (.bool false) ∧ Below h w0 W
/-- .. where a round has returned. -/
def pnX (h : Nat) (w0 : World) (pre : List ByteArray) (W : World) : Prop :=
  (allF partO pre = false ∨ 8 < pre.length) ∧ Boxed W h 59 (.slice none 0 0) ∧ Boxed W (h + 1) 4 (.bool false) ∧ Below h w0 W
theorem pnI_bears {h B z : Nat} {w0 : World} (hz : h + 1 + 1 < z) (hzB : z < B) (hs : h ≤ w0.heap.size) : Bears B z (pnI h w0 B) := by
  rintro pre A C row ⟨⟨v, os, hv, ho⟩, h0, h1, h2, h3, h4, h5⟩ hg hr
  have ne : ∀ k, k < z → some k ≠ row := fun k hk e => by
    rcases hr k e.symm with h | ⟨h, _⟩ <;> omega
  refine ⟨⟨v, os, hv.kept hg (ne _ (by omega)), ho.grown hg (own_row ho.1 hzB hr) fun k hk => own_row (ho.2.2.1 k hk (by have := ho.2.1; omega)).2 hzB hr⟩, Nat.le_trans h0 hg.size, h1, h2, h3.kept hg (ne _ (by omega)), h4.kept hg (ne _ (by omega)), h5.grown hg (Nat.le_trans hs h5.size) fun k e => ?_⟩
  rcases hr k e with h | ⟨h, _⟩ <;> omega
theorem pnX_bears {h B z : Nat} {w0 : World} (hz : h + 1 + 1 < z) (hzB : z < B) (hs : h ≤ w0.heap.size) : Bears B z (pnX h w0) := by
  rintro pre A C row ⟨h1, h3, h4, h5⟩ hg hr
  have ne : ∀ k, k < z → some k ≠ row := fun k hk e => by
    rcases hr k e.symm with h | ⟨h, _⟩ <;> omega
  refine ⟨h1, h3.kept hg (ne _ (by omega)), h4.kept hg (ne _ (by omega)), h5.grown hg (Nat.le_trans hs h5.size) fun k e => ?_⟩
  rcases hr k e with h | ⟨h, _⟩ <;> omega
theorem ne_of_lt {α : Type} [El α] {T B b : Nat} {w : World} {v : Value} {xs : List α} (h : own T B w v xs) (hb : b < B) : v.ownBlock = none ∨ v.ownBlock ≠ some b := by
  cases hv : v.ownBlock with
  | none => exact .inl rfl
  | some k => exact .inr fun e => by injection e with e; have := (h.blk k hv).1; omega
theorem isN.out {T1 T2 B : Nat} {w : World} {v : Value} {net : List Ofc} {os : List OfV} (h : isN T1 T2 B w v net os) (b : Nat) (u : Value) (hb : b < B) : isN T1 T2 B (w.setCell ⟨b, 0, none⟩ u) v net os :=
  h.grown (grownBy_setCell' w b u) (ne_of_lt h.1 hb) fun k hk => ne_of_lt (h.2.2.1 k hk (by have := h.2.1; omega)).2 hb
theorem isN.putD {T1 T2 B D : Nat} {w : World} {v : Value} {net : List Ofc} {os : List OfV} {ds : Option (List Deferred)} (h : isN T1 T2 B w v net os) (hD : w.heap[D]? = some (.deferred ds)) (o : Obj) : isN T1 T2 B (w.putObj D o) v net os :=
  h.grown (grownBy_putObj' w D o) (own_notD h.1 hD) fun k hk => own_notD (h.2.2.1 k hk (by have := h.2.1; omega)).2 hD
theorem partO_no {x : ByteArray} (h : cutAt 32 x = none) : partO x = none := by unfold partO; rw [h]; rfl
theorem partO_bad {x p q : ByteArray} (h : cutAt 32 x = some (p, q)) (hq : prOk q = false) : partO x = none := by unfold partO; rw [h]; simp [hq]
theorem partO_good {x p q : ByteArray} (h : cutAt 32 x = some (p, q)) (hq : prOk q = true) : partO x = some ⟨p, prR q⟩ := by unfold partO; rw [h]; simp [hq]
theorem allF_none {ps : List ByteArray} {x : ByteArray} (h : partO x = none) : allF partO (ps ++ [x]) = false := by rw [allF_snoc, h]; simp

set_option maxRecDepth 100000 in
set_option maxHeartbeats 3200000 in
theorem impl_ParseNetwork (t : ByteArray) (w : World) (ht : t.size ≤ maxLen) :
    Calls Tryz.prog 200 #[.string t] w fun e w' => ∃ v', e = .returned (.tuple #[v', .bool (pnOk t)]) ∧ ownN 102 174 w.heap.size w' v' (pnN t) ∧ Below w.heap.size w w' := by
  refine (callsIn_wide (n := 9)).1 ?_
  have hn9 : 1 ≤ 9 := by omega
  refine callsIn_of_wp_marks Tryz.func200 rfl trivial ?_ rfl
  simp only [Tryz.ntmps200, List.size_toArray, List.length_cons, List.length_nil, Nat.reduceAdd, Nat.reduceSub, Array.replicate_succ, Array.replicate_zero, List.push_toArray, List.append_toArray, List.nil_append, List.cons_append]
  have HO : Hid (pnOk t = pnOk t) := rfl
  have HR : Hid (pnN t = if pnOk t then gotF partO (partsB 59 t) else []) := rfl
  have HS := fun W => strings_SplitSeq t 59 W
  have b0 := ((Boxed.new w 59 (.slice none 0 0)).alloc (Obj.cells #[.bool false] 4)).alloc (Obj.cells #[.slice none 0 0] 59)
  have b1 := (Boxed.new (w.alloc (Obj.cells #[.slice none 0 0] 59)) 4 (.bool false)).alloc (Obj.cells #[.slice none 0 0] 59)
  have b2 := Boxed.new ((w.alloc (Obj.cells #[.slice none 0 0] 59)).alloc (Obj.cells #[.bool false] 4)) 59 (.slice none 0 0)
  have l3 : Below w.heap.size w (((w.alloc (Obj.cells #[.slice none 0 0] 59)).alloc (Obj.cells #[.bool false] 4)).alloc (Obj.cells #[.slice none 0 0] 59)) := (((Below.refl _ w).alloc (Nat.le_refl _) _).alloc (by simp) _).alloc (by simp; omega) _
  rw [World.size_alloc] at b1 b2
  rw [World.size_alloc] at b2
  have B0 := Lib.hid b0; have B1 := Lib.hid b1; have B2 := Lib.hid b2; have L3 := Lib.hid l3
  clear b0 b1 b2 l3
  gi_wp2_with (refine ⟨trivial, ?_⟩; gi_at_call 196; refine (callsIn_wide.2 (HS _)).mono ?_; rintro e w6 ⟨rfl, hcap, hb6, hz6⟩)
  have hz3 : (((w.alloc (Obj.cells #[.slice none 0 0] 59)).alloc (Obj.cells #[.bool false] 4)).alloc (Obj.cells #[.slice none 0 0] 59)).heap.size = w.heap.size + 1 + 1 + 1 := by simp
  generalize (((w.alloc (Obj.cells #[.slice none 0 0] 59)).alloc (Obj.cells #[.bool false] 4)).alloc (Obj.cells #[.slice none 0 0] 59)) = w3 at *
  rw [hz3] at hcap hz6
  have x0 : Boxed w6 (w.heap.size) 59 (.slice none 0 0) := (hb6.block _ (by omega)).trans B0.out
  have x1 : Boxed w6 (w.heap.size + 1) 4 (.bool false) := (hb6.block _ (by omega)).trans B1.out
  have x2 : Boxed w6 (w.heap.size + 1 + 1) 59 (.slice none 0 0) := (hb6.block _ (by omega)).trans B2.out
  have l6 : Below w.heap.size w w6 := L3.out.trans (hb6.mono (by omega))
  clear B0 B1 B2 L3 hb6 HS hz3
  obtain ⟨i0, hi, hi0, hi1, hi2⟩ := info_parts Tryz.infoOfc
  refine range_iterZ (F := Fence.wide) (n := 9) rfl (by omega) (gf := 278) (lb := #[.pointer (some ⟨w.heap.size + 1 + 1 + 1 + 1, 0, none⟩), .pointer (some ⟨w.heap.size + 1 + 1 + 1, 0, none⟩), .pointer (some ⟨w.heap.size + 1 + 1 + 1 + 2, 0, none⟩)]) rfl trivial (enters_of Tryz.func278 (by kernel_rfl) rfl)
    (split_iter 8 (w.heap.size + 1 + 1 + 1) (by omega) 59 t w6 hcap ht) (fun k hk => by simp at hk; omega) (by omega) (fun _ => rfl)
    (pnI w.heap.size w w6.heap.size) (pnX w.heap.size w) (pnI_bears (by omega) (by omega) (Nat.le_refl _)) (pnX_bears (by omega) (by omega) (Nat.le_refl _))
    ⟨⟨_, [], x2, isN.none_ (own.nil_ _ _ _)⟩, Nat.le_refl _, rfl, Nat.zero_le _, x0, x1, l6⟩
    (fun x => { tmps := #[.string t, undef, .pointer (some ⟨w.heap.size, 0, none⟩), .pointer (some ⟨w.heap.size + 1, 0, none⟩), .pointer (some ⟨w.heap.size + 1 + 1, 0, none⟩), .string x, undef, undef, undef, undef, undef, .string t, .func (.func 278) #[] #[.pointer (some ⟨w.heap.size + 1 + 1 + 1 + 1, 0, none⟩), .pointer (some ⟨w.heap.size + 1 + 1 + 1, 0, none⟩), .pointer (some ⟨w.heap.size + 1 + 1 + 1 + 2, 0, none⟩)], .string x, undef, undef, undef, undef, undef, undef, undef, undef, undef, undef, undef, undef, undef, undef, undef, undef, undef, undef, undef, undef, undef, undef, undef, undef, undef, undef, undef, undef, undef, undef], defers := [] }) ?assign ?body ?done ?stop
  case assign =>
    intro l x W K hK
    gi_wp2
    exact hK
  case body =>
    rintro l pre x W ⟨⟨v, os, hv, ho⟩, hBW, hall, hlen, y0, y1, hB⟩ _ hx
    have hd : 1 ≤ 9 - 1 - 1 := by omega
    have HC := strings_Cut1 x 32 W hx
    have y0c := Lib.hid y0; have y1c := Lib.hid y1; have hvc := Lib.hid hv; have hoc := Lib.hid ho
    rcases hcx : cutAt 32 x with _ | ⟨p, q⟩
    · have HCn : Calls Tryz.prog 130 #[.string x, .string ⟨#[32]⟩] W fun e w' => Below W.heap.size W w' ∧ e = .returned (.tuple #[.string x, .string ⟨#[]⟩, .bool false]) := HC.mono fun e w' h => by
        obtain ⟨hb, ⟨_, he⟩ | ⟨p, q, h, _⟩⟩ := h
        · exact ⟨hb, he⟩
        · rw [hcx] at h; cases h
      have HP : Hid (allF partO (pre ++ [x]) = false) := allF_none (partO_no hcx)
      clear HC hcx y0 y1 hv ho
      gi_wp2_with (refine ⟨trivial, ?_⟩; gi_at_call 130; refine (CallsIn.inRound l (callsIn_wide.2 HCn)).mono ?_; rintro e W2 ⟨hb, rfl⟩; have z0 : Boxed W2 _ _ _ := (hb.block _ y0c.out.lt).trans y0c.out; have z1 : Boxed W2 _ _ _ := (hb.block _ y1c.out.lt).trans y1c.out; have c0 := z0.cell; have c1 := z1.cell; have f0 := z0.frozen; have f1 := z1.frozen)
      obtain ⟨r0, r1, r2, r3⟩ := set_two z0 z1 (.slice none 0 0) (.bool false)
      exact ⟨(keeps_below hb).trans r2, .inl HP.out, r0, r1, (hB.trans (hb.mono hB.size)).trans (r3 _ (Nat.le_refl _))⟩
    · have HCn : Calls Tryz.prog 130 #[.string x, .string ⟨#[32]⟩] W fun e w' => Below W.heap.size W w' ∧ e = .returned (.tuple #[.string p, .string q, .bool true]) := HC.mono fun e w' h => by
        obtain ⟨hb, ⟨h, _⟩ | ⟨p', q', h, he⟩⟩ := h
        · rw [hcx] at h; cases h
        · rw [hcx] at h; cases h; exact ⟨hb, he⟩
      have hpq := cut_sizes hcx
      have hgl := gotF_len pre hall
      obtain ⟨A, m, cp, rfl, hm, _, _, _⟩ := ho.1.rd
      have hol := ho.2.1
      clear HC y0 y1 hv ho
      by_cases h20 : m = 8
      · have hm20 : ((m : Int) == 8) = true := by simp [h20]
        have HL : Hid (8 < (pre ++ [x]).length) := by show _ < _; rw [List.length_append]; show 8 < pre.length + 1; omega
        clear h20 hm hgl hpq hcx hol
        gi_wp2_with (refine ⟨trivial, ?_⟩; gi_at_call 130; refine (CallsIn.inRound l (callsIn_wide.2 HCn)).mono ?_; rintro e W2 ⟨hb, rfl⟩; have z0 : Boxed W2 _ _ _ := (hb.block _ y0c.out.lt).trans y0c.out; have z1 : Boxed W2 _ _ _ := (hb.block _ y1c.out.lt).trans y1c.out; have z2 : Boxed W2 _ _ _ := (hb.block _ hvc.out.lt).trans hvc.out; have c0 := z0.cell; have c1 := z1.cell; have f0 := z0.frozen; have f1 := z1.frozen; have c2 := z2.cell)
        obtain ⟨r0, r1, r2, r3⟩ := set_two z0 z1 (.slice none 0 0) (.bool false)
        exact ⟨(keeps_below hb).trans r2, .inr HL.out, r0, r1, (hB.trans (hb.mono hB.size)).trans (r3 _ (Nat.le_refl _))⟩
      · have hm20 : ((m : Int) == 8) = false := beq_eq_false_iff_ne.2 (by omega)
        have HPL : Hid (pre.length ≤ 7) := by show _ ≤ _; omega
        have HPR : ∀ b, prOk q = b → Hid (∀ W, Calls Tryz.prog 250 #[.string q] W fun e W' => ∃ v', e = .returned (.tuple #[v', .bool b]) ∧ own 174 W.heap.size W' v' (prR q) ∧ Below W.heap.size W W') := fun b hb W => by
          rw [← hb]; exact impl_ParseRules q W (Nat.le_trans hpq.2 hx)
        cases hq : prOk q
        · have HPQ := HPR _ hq
          have HP : Hid (allF partO (pre ++ [x]) = false) := allF_none (partO_bad hcx hq)
          clear h20 hm hgl hpq HPR hq hcx hol
          gi_wp2_with (first | (refine ⟨trivial, ?_⟩; gi_at_call 130; refine (CallsIn.inRound l (callsIn_wide.2 HCn)).mono ?_; rintro e W2 ⟨hb, rfl⟩; have z0 : Boxed W2 _ _ _ := (hb.block _ y0c.out.lt).trans y0c.out; have z1 : Boxed W2 _ _ _ := (hb.block _ y1c.out.lt).trans y1c.out; have z2 : Boxed W2 _ _ _ := (hb.block _ hvc.out.lt).trans hvc.out; have c2 := z2.cell) | (refine ⟨trivial, ?_⟩; gi_at_call 250; refine (CallsIn.inRound l (callsIn_wide.2 (HPQ.out W2))).mono ?_; rintro e W3 ⟨vq, rfl, hoq, hb3⟩; have t0 : Boxed W3 _ _ _ := (hb3.block _ z0.lt).trans z0; have t1 : Boxed W3 _ _ _ := (hb3.block _ z1.lt).trans z1; have d0 := t0.cell; have d1 := t1.cell; have e0 := t0.frozen; have e1 := t1.frozen))
          obtain ⟨r0, r1, r2, r3⟩ := set_two t0 t1 (.slice none 0 0) (.bool false)
          exact ⟨((keeps_below hb).trans (keeps_below hb3)).trans r2, .inl HP.out, r0, r1, ((hB.trans (hb.mono hB.size)).trans (hb3.mono (by have := hB.size; have := hb.size; omega))).trans (r3 _ (Nat.le_refl _))⟩
        · have HPQ := HPR _ hq
          have HP := Lib.hid (partO_good hcx hq)
          have hg7 : os.length ≤ 7 := by omega
          have HYN : Hid (p.size ≤ maxLen) := by show _ ≤ _; omega
          clear h20 hm hgl hpq HPR hq hcx hol
          gi_wp2_with (first | (refine ⟨trivial, ?_⟩; gi_at_call 130; refine (CallsIn.inRound l (callsIn_wide.2 HCn)).mono ?_; rintro e W2 ⟨hb, rfl⟩; have z0 : Boxed W2 _ _ _ := (hb.block _ y0c.out.lt).trans y0c.out; have z1 : Boxed W2 _ _ _ := (hb.block _ y1c.out.lt).trans y1c.out; have z2 : Boxed W2 _ _ _ := (hb.block _ hvc.out.lt).trans hvc.out; have c2 := z2.cell) | (refine ⟨trivial, ?_⟩; gi_at_call 250; refine (CallsIn.inRound l (callsIn_wide.2 (HPQ.out W2))).mono ?_; rintro e W3 ⟨vq, rfl, hoq, hb3⟩; have t2 : Boxed W3 _ _ _ := (hb3.block _ z2.lt).trans z2; have d2 := t2.cell; obtain ⟨Aq, nq, cq, rfl, -, -, -, -⟩ := hoq.rd; have o3 := (hoc.out.below hb).below hb3; have hs2 := hb.size; have hs3 := hb3.size; have HOQ := Lib.hid hoq; clear hoq) | (gi_at_builtin; refine wpListIn_append1At (α := OfV) rfl (.tmp 34) (.tmp 38) 59 rfl w6.heap.size 102 i0 _ 40 Tryz.underlying59 hi hi0 hi1 hi2 rfl (by decide) (.slice A m cp) os ⟨p, .slice Aq nq cq⟩ rfl (o3.1.alloc _) ⟨W3.heap.size, 0, none⟩ 1 [.string p, .slice Aq nq cq] rfl ⟨rfl, HYN.out, rfl⟩ (news_at W3 _ [.string p, .slice Aq nq cq]) (by unfold maxLen; omega) (by omega) (by simp; omega) ?_; intro g5 c5 w5 o5 hg5 ha5; have u2 : Boxed w5 _ _ _ := (t2.alloc _).kept hg5 (fun e => by have := (o3.1.blk _ e.symm).1; omega); have e2 := u2.cell; have g2 := u2.frozen))
          have HK := Lib.hid hg5.size
          have hk5 : ∀ k, k < w6.heap.size → k ≠ w.heap.size + 1 + 1 → (w5.setCell ⟨w.heap.size + 1 + 1, 0, none⟩ (.slice (some ⟨g5, 0, none⟩) (os.length + 1) c5)).heap[k]? = W.heap[k]? := fun k h1 h2 => by
            have a1 := (grownBy_setCell' w5 (w.heap.size + 1 + 1) (.slice (some ⟨g5, 0, none⟩) (os.length + 1) c5)).block k (by have := hg5.size; simp at this; omega) (fun e => h2 (by injection e))
            have a2 := hg5.block k (by simp; omega) (fun e => by have := (o3.1.blk _ e.symm).1; omega)
            exact a1.trans (a2.trans ((Below.heap_alloc W3 _ k (by omega)).trans ((hb3.block k (by omega)).trans (hb.block k (by omega)))))
          have hko : KeepsOthers W (w5.setCell ⟨w.heap.size + 1 + 1, 0, none⟩ (.slice (some ⟨g5, 0, none⟩) (os.length + 1) c5)) := ((((keeps_below hb).trans (keeps_below hb3)).trans (KeepsOthers.alloc W3 _)).trans (KeepsOthers.of_grownBy hg5 fun j o ej hj => by
            obtain ⟨o', h1, h2⟩ := own_isCells (o3.1.alloc (Obj.cells #[.string p, .slice Aq nq cq] 102)) ej
            rw [h1] at hj; injection hj with hj; rw [← hj]; exact h2)).trans (KeepsOthers.setCell _ _ _)
          have hN5 := isN.snoc (o3.below ((Below.refl W3.heap.size W3).alloc (Nat.le_refl _) (Obj.cells #[.string p, .slice Aq nq cq] 102))) ((HOQ.out.base_ (show w6.heap.size ≤ W2.heap.size by omega)).alloc _) (apart_gt HOQ.out hoc.out.1 hs2) (fun k hk => apart_gt HOQ.out (hoc.out.2.2.1 k hk (by have := hoc.out.2.1; omega)).2 hs2) o5 hg5 ha5
          refine ⟨hko, fun k hk => hk5 k (by simp at hk; omega) (by simp at hk; omega), ⟨_, os ++ [⟨p, .slice Aq nq cq⟩], u2.set _, ?_⟩, ?_, ?_, ?_, ?_, ?_, ?_⟩
          · rw [gotF_snoc HP.out]
            exact hN5.out (w.heap.size + 1 + 1) _ (by omega)
          · have := hg5.size; simp at this; simp; omega
          · rw [allF_snoc, hall, HP.out]; rfl
          · have := HPL.out; rw [List.length_append]; show pre.length + 1 ≤ 8; omega
          · exact (hk5 _ (by omega) (by omega)).trans y0c.out
          · exact (hk5 _ (by omega) (by omega)).trans y1c.out
          · refine hB.trans ⟨?_, ?_, ?_, ?_, fun k h1 => hk5 k (by omega) (by omega)⟩
            · exact hg5.os.trans (hb3.os.trans hb.os)
            · exact hg5.tape.trans (hb3.tape.trans hb.tape)
            · exact hg5.output.trans (hb3.output.trans hb.output)
            · exact hko.1
  case done =>
    rintro D ys W hD rfl ⟨⟨v, os, hv, ho⟩, hBW, hall, hlen, y0, y1, hB⟩ hK
    have hPS : pnOk t = netOk (gotF partO (partsB 59 t)) := by unfold pnOk; rw [hall, decide_eq_true hlen]; rfl
    obtain ⟨A, m, cp, rfl, -, -, -, -⟩ := ho.rd
    have HV := impl_NetworkValid (.slice A m cp) (gotF partO (partsB 59 t)) W ho.rd
    have y0c := Lib.hid y0; have y1c := Lib.hid y1; have hvc := Lib.hid hv; have hoc := Lib.hid ho
    have c2 := hv.cell
    clear hall hlen ho hv y0 y1
    cases hro : netOk (gotF partO (partsB 59 t))
    · rw [hro] at HV hPS
      have HPS := Lib.hid hPS
      clear hPS hro
      dsimp only
      gi_wp2_with (refine ⟨trivial, ?_⟩; gi_at_call 84; refine (callsIn_wide.2 HV).mono ?_; rintro e W2 ⟨rfl, hb⟩; have z0 : Boxed W2 _ _ _ := (hb.block _ y0c.out.lt).trans y0c.out; have z1 : Boxed W2 _ _ _ := (hb.block _ y1c.out.lt).trans y1c.out; have z2 : Boxed W2 _ _ _ := (hb.block _ hvc.out.lt).trans hvc.out; have c0 := z0.cell; have c1 := z1.cell; have c2 := z2.cell; have f0 := z0.frozen; have f1 := z1.frozen)
      obtain ⟨r0, r1, r2, r3⟩ := set_two z0 z1 (.slice none 0 0) (.bool false)
      have hD2 : ((W2.setCell ⟨w.heap.size, 0, none⟩ (.slice none 0 0)).setCell ⟨w.heap.size + 1, 0, none⟩ (.bool false)).heap[D]? = some (.deferred (some [])) := r2.same _ _ ((keeps_below hb).same _ _ hK rfl) rfl
      have k0 := (r0.kept (grownBy_putObj' ((W2.setCell ⟨w.heap.size, 0, none⟩ (.slice none 0 0)).setCell ⟨w.heap.size + 1, 0, none⟩ (.bool false)) D (.deferred none)) (fun e => by injection e; omega)).cell
      have k1 := (r1.kept (grownBy_putObj' ((W2.setCell ⟨w.heap.size, 0, none⟩ (.slice none 0 0)).setCell ⟨w.heap.size + 1, 0, none⟩ (.bool false)) D (.deferred none)) (fun e => by injection e; omega)).cell
      have hBz : Below w.heap.size w (((W2.setCell ⟨w.heap.size, 0, none⟩ (.slice none 0 0)).setCell ⟨w.heap.size + 1, 0, none⟩ (.bool false)).putObj D (.deferred none)) := ((hB.trans (hb.mono hB.size)).trans (r3 _ (Nat.le_refl _))).grown (grownBy_putObj' _ _ _) (by have := ((hB.trans (hb.mono hB.size)).trans (r3 _ (Nat.le_refl _))).size; omega) (fun r e => by injection e; omega)
      refine ⟨by simp, .inl ⟨_, _, rfl, run_takeDeferred hD2, ?_⟩⟩
      refine ⟨.tuple #[.slice none 0 0, .bool false], by simp [results, Tryz.results200, go_sem, k0, k1], _, by rw [HPS.out], by rw [HR.out, HPS.out]; exact ⟨[], isN.none_ (own.nil_ _ _ _)⟩, hBz⟩
    · rw [hro] at HV hPS
      have HPS := Lib.hid hPS
      clear hPS hro
      dsimp only
      gi_wp2_with (refine ⟨trivial, ?_⟩; gi_at_call 84; refine (callsIn_wide.2 HV).mono ?_; rintro e W2 ⟨rfl, hb⟩; have z0 : Boxed W2 _ _ _ := (hb.block _ y0c.out.lt).trans y0c.out; have z1 : Boxed W2 _ _ _ := (hb.block _ y1c.out.lt).trans y1c.out; have z2 : Boxed W2 _ _ _ := (hb.block _ hvc.out.lt).trans hvc.out; have c0 := z0.cell; have c1 := z1.cell; have c2 := z2.cell; have f0 := z0.frozen; have f1 := z1.frozen)
      obtain ⟨r0, r1, r2, r3⟩ := set_two z0 z1 (.slice A m cp) (.bool true)
      have o2 := hoc.out.below hb
      have oz := (o2.out w.heap.size (.slice A m cp) (by omega)).out (w.heap.size + 1) (.bool true) (by omega)
      have hD2 : ((W2.setCell ⟨w.heap.size, 0, none⟩ (.slice A m cp)).setCell ⟨w.heap.size + 1, 0, none⟩ (.bool true)).heap[D]? = some (.deferred (some [])) := r2.same _ _ ((keeps_below hb).same _ _ hK rfl) rfl
      have k0 := (r0.kept (grownBy_putObj' ((W2.setCell ⟨w.heap.size, 0, none⟩ (.slice A m cp)).setCell ⟨w.heap.size + 1, 0, none⟩ (.bool true)) D (.deferred none)) (fun e => by injection e; omega)).cell
      have k1 := (r1.kept (grownBy_putObj' ((W2.setCell ⟨w.heap.size, 0, none⟩ (.slice A m cp)).setCell ⟨w.heap.size + 1, 0, none⟩ (.bool true)) D (.deferred none)) (fun e => by injection e; omega)).cell
      have hBz : Below w.heap.size w (((W2.setCell ⟨w.heap.size, 0, none⟩ (.slice A m cp)).setCell ⟨w.heap.size + 1, 0, none⟩ (.bool true)).putObj D (.deferred none)) := ((hB.trans (hb.mono hB.size)).trans (r3 _ (Nat.le_refl _))).grown (grownBy_putObj' _ _ _) (by have := ((hB.trans (hb.mono hB.size)).trans (r3 _ (Nat.le_refl _))).size; omega) (fun r e => by injection e; omega)
      refine ⟨by simp, .inl ⟨_, _, rfl, run_takeDeferred hD2, ?_⟩⟩
      refine ⟨.tuple #[.slice A m cp, .bool true], by simp [results, Tryz.results200, go_sem, k0, k1], _, by rw [HPS.out], by rw [HR.out, HPS.out, if_pos rfl]; exact ⟨os, (oz.putD hD2 (.deferred none)).base_ (by omega)⟩, hBz⟩
  case stop =>
    rintro D pre W hD hpre ⟨hbad, y0, y1, hB⟩ hK
    have hPS : pnOk t = false := by
      unfold pnOk
      rcases hbad with h | h
      · rw [allF_prefix hpre h]; rfl
      · have := hpre.length_le
        rw [decide_eq_false (by omega)]
        simp
    have HPS := Lib.hid hPS
    have k0 := (y0.kept (grownBy_putObj' W D (.deferred none)) (fun e => by injection e; omega)).cell
    have k1 := (y1.kept (grownBy_putObj' W D (.deferred none)) (fun e => by injection e; omega)).cell
    have hBz : Below w.heap.size w (W.putObj D (.deferred none)) := hB.grown (grownBy_putObj' _ _ _) hB.size (fun r e => by injection e; omega)
    clear hPS hbad hpre
    dsimp only
    gi_wp2
    refine ⟨by simp, .inl ⟨_, _, rfl, run_takeDeferred hK, ?_⟩⟩
    refine ⟨.tuple #[.slice none 0 0, .bool false], by simp [results, Tryz.results200, go_sem, k0, k1], _, by rw [HPS.out], by rw [HR.out, HPS.out]; exact ⟨[], isN.none_ (own.nil_ _ _ _)⟩, hBz⟩
end Go.Proofs.YtpinkbodbedajaaGreatDoor

namespace Go.Proofs.YtpinkbodbedajaaGreatDoor
open Go.RowKit

theorem own_obj {α : Type} [El α] {T base : Nat} {w : World} {v : Value} {xs : List α} (h : own T base w v xs) {k : Nat} (hk : v.ownBlock = some k) : ∃ cur : Array Value, w.heap[k]? = some (.cells cur T (0, 0)) := by
  obtain ⟨css, ⟨h1, h2⟩, _⟩ := h
  rcases h2 with ⟨rfl, _⟩ | ⟨g, cap, cur, rfl, hg, hh, _⟩
  · cases hk
  · injection hk with hk
    subst hk
    exact ⟨_, hh⟩
theorem own.keepT {α : Type} [Flat α] {T base : Nat} {w w' : World} {v : Value} {xs : List α} (h : own T base w v xs) (hk : ∀ (k : Nat) (cur : Array Value), w.heap[k]? = some (.cells cur T (0, 0)) → w'.heap[k]? = w.heap[k]?) : own T base w' v xs :=
  h.keepBlk fun k e => by
    obtain ⟨cur, hc⟩ := own_obj h e
    exact hk k cur hc
theorem isN.keepT {T1 T2 base : Nat} {w w' : World} {v : Value} {net : List Ofc} {os : List OfV} (h : isN T1 T2 base w v net os) (h1 : ∀ (k : Nat) (cur : Array Value), w.heap[k]? = some (.cells cur T1 (0, 0)) → w'.heap[k]? = w.heap[k]?)
    (h2 : ∀ (k : Nat) (cur : Array Value), w.heap[k]? = some (.cells cur T2 (0, 0)) → w'.heap[k]? = w.heap[k]?) : isN T1 T2 base w' v net os :=
  ⟨h.1.keepT h1, h.2.1, fun k a b => ⟨(h.2.2.1 k a b).1, (h.2.2.1 k a b).2.keepT h2⟩, h.2.2.2.1, h.2.2.2.2⟩

structure Dsk where
  letters : List Ltr
  day : Dy
  net : List Ofc

/-- The desk lies in block d; the value of the held codes beside it. -/
def dskAt (B : Nat) (w : World) (d : Nat) (s : Dsk) (vH : Value) : Prop :=
  ∃ (vL vO vF vN : Value) (os : List OfV), w.heap[d]? = some (.cells #[vL, .int .i64 s.day.plan.bins, .int .i64 s.day.plan.passes, vO, vF, vH, .int .i64 s.day.size, vN] 104 (0, 0)) ∧
    own 89 B w vL s.letters ∧ own 9 B w vO s.day.plan.order ∧ own 94 B w vF s.day.fwds ∧ own 9 B w vH s.day.held ∧ isN 102 174 B w vN s.net os ∧ apart vO vH
theorem dskAt.lt {B d : Nat} {w : World} {s : Dsk} {vH : Value} (h : dskAt B w d s vH) : d < w.heap.size := by
  obtain ⟨_, _, _, _, _, h, _⟩ := h
  exact (Array.getElem?_eq_some_iff.1 h).1
theorem dskAt.obj {B d : Nat} {w : World} {s : Dsk} {vH : Value} (h : dskAt B w d s vH) : ∃ cur : Array Value, w.heap[d]? = some (.cells cur 104 (0, 0)) := by
  obtain ⟨_, _, _, _, _, h, _⟩ := h
  exact ⟨_, h⟩
theorem dskAt.held {B d : Nat} {w : World} {s : Dsk} {vH : Value} (h : dskAt B w d s vH) : own 9 B w vH s.day.held := by
  obtain ⟨_, _, _, _, _, _, _, _, _, h, _⟩ := h
  exact h
theorem dskAt.keep {B d : Nat} {w w' : World} {s : Dsk} {vH : Value} (h : dskAt B w d s vH) (hk : ∀ (k : Nat) (cur : Array Value) (e : TypeId), w.heap[k]? = some (.cells cur e (0, 0)) → e ≠ 5 → e ≠ 107 → w'.heap[k]? = w.heap[k]?) : dskAt B w' d s vH := by
  obtain ⟨vL, vO, vF, vN, os, h0, h1, h2, h3, h4, h5, h6⟩ := h
  exact ⟨vL, vO, vF, vN, os, (hk _ _ _ h0 (by decide) (by decide)).trans h0, h1.keepT fun k cur hc => hk k cur _ hc (by decide) (by decide), h2.keepT fun k cur hc => hk k cur _ hc (by decide) (by decide), h3.keepT fun k cur hc => hk k cur _ hc (by decide) (by decide), h4.keepT fun k cur hc => hk k cur _ hc (by decide) (by decide),
    h5.keepT (fun k cur hc => hk k cur _ hc (by decide) (by decide)) fun k cur hc => hk k cur _ hc (by decide) (by decide), h6⟩
theorem dskAt.below {B d : Nat} {w w' : World} {s : Dsk} {vH : Value} (h : dskAt B w d s vH) (hb : Below w.heap.size w w') : dskAt B w' d s vH :=
  h.keep fun k cur e hc _ _ => hb.block k (Array.getElem?_eq_some_iff.1 hc).1

/-- What a line turns of what lay there: the desk, and the row of the held codes. -/
structure Kd (d : Nat) (vH : Value) (w w' : World) : Prop where
  os : w'.os = w.os
  tape : w'.tape = w.tape
  output : w'.output = w.output
  size : w.heap.size ≤ w'.heap.size
  block : ∀ k, k < w.heap.size → k ≠ d → some k ≠ vH.ownBlock → w'.heap[k]? = w.heap[k]?
theorem Kd.of_below {d : Nat} {vH : Value} {w w' : World} (h : Below w.heap.size w w') : Kd d vH w w' := ⟨h.os, h.tape, h.output, h.size, fun k hk _ _ => h.block k hk⟩
theorem Kd.trans {d : Nat} {vH : Value} {a b c : World} (h : Kd d vH a b) (k : Kd d vH b c) : Kd d vH a c :=
  ⟨k.os.trans h.os, k.tape.trans h.tape, k.output.trans h.output, Nat.le_trans h.size k.size, fun i hi h1 h2 => (k.block i (Nat.lt_of_lt_of_le hi h.size) h1 h2).trans (h.block i hi h1 h2)⟩
theorem Kd.set {d : Nat} {vH : Value} {a w : World} (h : Kd d vH a w) (i : Nat) (u : Value) : Kd d vH a (w.setCell ⟨d, i, none⟩ u) :=
  ⟨h.os, h.tape, h.output, by have := h.size; simpa using this, fun k hk h1 h2 => (Below.heap_setCell _ _ _ _ (fun e => h1 e)).trans (h.block k hk h1 h2)⟩
theorem Kd.toBelow {d B : Nat} {vH : Value} {w w' : World} (h : Kd d vH w w') (hd : B ≤ d) (hdl : d < w.heap.size) (hH : ∀ k, vH.ownBlock = some k → B ≤ k) : Below B w w' :=
  ⟨h.os, h.tape, h.output, h.size, fun k hk => h.block k (by omega) (by omega) fun e => by have := hH k e.symm; omega⟩
/-- The held codes lie where they lay, or in a new row. -/
def heldN (w : World) (vH vH' : Value) : Prop := vH'.ownBlock = vH.ownBlock ∨ ∀ k, vH'.ownBlock = some k → w.heap.size ≤ k
theorem heldN.refl (w : World) (vH : Value) : heldN w vH vH := .inl rfl

theorem builder_keep {T e B b : Nat} {bs : List Value} {w w' : World} (h : Lib.IsBuilderF T e B b bs w) (hk : ∀ (k : Nat) (cur : Array Value) (e' : TypeId) (fz : Nat × Nat), w.heap[k]? = some (.cells cur e' fz) → (e' = T ∨ e' = e) → w'.heap[k]? = w.heap[k]?) : Lib.IsBuilderF T e B b bs w' := by
  have key : ∀ p, Lib.BuilderAtF T e B b p bs w → Lib.BuilderAtF T e B b p bs w' := fun p h => by
    obtain ⟨hB, v, hb, ⟨h1, h2⟩, hne⟩ := h
    refine ⟨hB, v, (hk _ _ _ _ hb (.inl rfl)).trans hb, ⟨h1, ?_⟩, hne⟩
    rcases h2 with h2 | ⟨g, cap, cur, fz, hv, hg, hh, rest⟩
    · exact .inl h2
    · exact .inr ⟨g, cap, cur, fz, hv, hg, (hk _ _ _ _ hh (.inr rfl)).trans hh, rest⟩
  rcases h with h | h
  · exact .inl (key _ h)
  · exact .inr (key _ h)
theorem builder_kd {B0 B b d : Nat} {bs : List Value} {w w' : World} {s : Dsk} {vH : Value} (h : Lib.IsBuilderF 107 5 B b bs w) (hD : dskAt B0 w d s vH) (hK : Kd d vH w w') : Lib.IsBuilderF 107 5 B b bs w' := by
  refine builder_keep h fun k cur e' fz hc he => hK.block k (Array.getElem?_eq_some_iff.1 hc).1 (fun e => ?_) fun e => ?_
  · subst e
    obtain ⟨c, h0⟩ := hD.obj
    rw [h0] at hc
    injection hc with hc
    injection hc with _ hc _
    rcases he with he | he <;> rw [← hc] at he <;> exact absurd he (by decide)
  · obtain ⟨c, h0⟩ := own_obj hD.held e.symm
    rw [h0] at hc
    injection hc with hc
    injection hc with _ hc _
    rcases he with he | he <;> rw [← hc] at he <;> exact absurd he (by decide)
theorem dsk_others {B b d : Nat} {w w' : World} {s : Dsk} {vH : Value} (hD : dskAt B w d s vH) (hO : Lib.OthersKept 5 (some b) w w') (hb : ∃ cur fz, w.heap[b]? = some (.cells cur 107 fz)) : dskAt B w' d s vH :=
  hD.keep fun k cur e hc h1 h2 => by
    obtain ⟨cb, fb, hb⟩ := hb
    rw [hO k _ hc (fun e' => by
      injection e' with e'
      subst e'
      rw [hb] at hc
      injection hc with hc
      injection hc with _ hc _
      exact h2 hc.symm) fun c fz e' => by
        injection e' with _ e' _
        exact h1 e', hc]

/-- One line. X: what is said of tables, and stands throughout. -/
def StepOk (X : World → Prop) (line : ByteArray) (s s' : Dsk) (a : ByteArray) : Prop :=
  ∀ (B d : Nat) (vH : Value) (w : World), X w → B ≤ w.heap.size → dskAt B w d s vH →
    Calls Tryz.prog 68 #[.pointer (some ⟨d, 0, none⟩), .string line] w fun e w' => e = .returned (.string a) ∧ ∃ vH', dskAt B w' d s' vH' ∧ Kd d vH w w' ∧ heldN w vH vH'
def orNo (a : ByteArray) : ByteArray := if sEq a ⟨#[]⟩ then ⟨#[110, 111]⟩ else a
/-- What a script tells, from line k on. -/
def outA (ans : Nat → ByteArray) : Nat → ByteArray → List ByteArray → ByteArray
  | _, o, [] => o
  | k, o, l :: ls => if sEq l ⟨#[]⟩ then outA ans (k + 1) o ls else if 100 ≤ k ∨ 40000 < o.size then o ++ ⟨#[102, 117, 108, 108, 10]⟩ else outA ans (k + 1) (o ++ (orNo (ans k) ++ ⟨#[10]⟩)) ls
/-- What is told ahead of line k. -/
def outK (ans : Nat → ByteArray) (ls : List ByteArray) : Nat → ByteArray
  | 0 => ⟨#[]⟩
  | k + 1 => if sEq (ls.getD k ⟨#[]⟩) ⟨#[]⟩ then outK ans ls k else outK ans ls k ++ (orNo (ans k) ++ ⟨#[10]⟩)

theorem sEq_empty {a : ByteArray} : sEq a ⟨#[]⟩ = true ↔ a.size = 0 := by
  rw [sEq_iff]
  constructor
  · rintro rfl; rfl
  · intro h; exact ByteArray.ext (Array.eq_empty_of_size_eq_zero h)
theorem sEq_nonempty {a : ByteArray} (h : a.size ≠ 0) : sEq a ⟨#[]⟩ = false := by
  cases hq : sEq a ⟨#[]⟩
  · rfl
  · exact absurd (sEq_empty.1 hq) h
theorem orNo_pos {a : ByteArray} (h : 1 ≤ a.size) : orNo a = a := by
  unfold orNo; rw [sEq_nonempty (by omega)]; rfl
theorem outA_skip {ans : Nat → ByteArray} {k : Nat} {o l : ByteArray} {ls : List ByteArray} (h : l.size = 0) : outA ans k o (l :: ls) = outA ans (k + 1) o ls := by
  rw [outA, sEq_empty.2 h, if_pos rfl]
theorem outA_full {ans : Nat → ByteArray} {k : Nat} {o l : ByteArray} {ls : List ByteArray} (h : l.size ≠ 0) (hf : 100 ≤ k ∨ 40000 < o.size) : outA ans k o (l :: ls) = o ++ ⟨#[102, 117, 108, 108, 10]⟩ := by
  rw [outA, sEq_nonempty h, if_neg (by simp), if_pos hf]
theorem outA_step {ans : Nat → ByteArray} {k : Nat} {o l : ByteArray} {ls : List ByteArray} (h : l.size ≠ 0) (hk : k < 100) (ho : o.size ≤ 40000) : outA ans k o (l :: ls) = outA ans (k + 1) (o ++ (orNo (ans k) ++ ⟨#[10]⟩)) ls := by
  rw [outA, sEq_nonempty h, if_neg (by simp), if_neg (by omega)]
theorem outK_skip {ans : Nat → ByteArray} {ls : List ByteArray} {k : Nat} (h : k < ls.length) (he : ls[k].size = 0) : outK ans ls (k + 1) = outK ans ls k := by
  rw [outK, List.getD_eq_getElem?_getD, List.getElem?_eq_getElem h, Option.getD_some, sEq_empty.2 he, if_pos rfl]
theorem outK_step {ans : Nat → ByteArray} {ls : List ByteArray} {k : Nat} (h : k < ls.length) (he : ls[k].size ≠ 0) : outK ans ls (k + 1) = outK ans ls k ++ (orNo (ans k) ++ ⟨#[10]⟩) := by
  rw [outK, List.getD_eq_getElem?_getD, List.getElem?_eq_getElem h, Option.getD_some, sEq_nonempty he, if_neg (by simp)]

end Go.Proofs.YtpinkbodbedajaaGreatDoor

namespace Go.Proofs.YtpinkbodbedajaaGreatDoor
open Go.RowKit

/-- The signs of a network's text. -/
def netCh (b : UInt8) : Prop := (48 ≤ b.toNat ∧ b.toNat ≤ 57) ∨ (97 ≤ b.toNat ∧ b.toNat ≤ 122) ∨ b = 32 ∨ b = 45 ∨ b = 59 ∨ b = 62
theorem fmtU_ch {rs : List Fwd} (h : rulesOk rs = true) : ∀ r ∈ rs, ∀ b ∈ (fmtU r).data.toList, netCh b := fun r hr b m => by
  obtain ⟨k, hk, rfl⟩ := List.getElem_of_mem hr
  obtain ⟨h1, h2, _⟩ := (rulesOk_iff.1 h).2 k hk
  have a1 := digs_mem (isPfx_iff.1 h1).1
  have a2 := lows_mem (isName_iff.1 h2).1
  unfold fmtU at m
  rw [ba_append, ba_append, List.mem_append, List.mem_append] at m
  rcases m with (m | m) | m
  · exact .inl (a1 _ m)
  · simp at m; subst m; exact .inr (.inr (.inr (.inr (.inr rfl))))
  · exact .inr (.inl (a2 _ m))
theorem fmtRu_ch (rs : List Fwd) : ∀ b ∈ (fmtRu rs).data.toList, netCh b := fun b m => by
  cases h : rulesOk rs
  · rw [fmtRu_no h] at m; simp at m
  · by_cases h0 : rs.length = 0
    · rw [fmtRu_empty h h0] at m; simp at m; subst m; exact .inr (.inr (.inr (.inl rfl)))
    · rw [fmtRu_some h h0, joinT_data] at m
      rcases inter_mem m with m | ⟨l, hl, m⟩
      · subst m; exact .inr (.inr (.inl rfl))
      · simp only [List.map_map, List.mem_map] at hl
        obtain ⟨r, hr, rfl⟩ := hl
        exact fmtU_ch h r hr b m
theorem fmtN_ch (net : List Ofc) : ∀ b ∈ (fmtN net).data.toList, netCh b := fun b m => by
  cases h : netOk net
  · rw [fmtN_no h] at m; simp at m
  · rw [fmtN_yes h, joinT_data1] at m
    rcases inter_mem m with m | ⟨l, hl, m⟩
    · subst m; exact .inr (.inr (.inr (.inr (.inl rfl))))
    · simp only [List.map_map, List.mem_map] at hl
      obtain ⟨o, ho, rfl⟩ := hl
      have m : b ∈ (fmtO o).data.toList := m
      unfold fmtO at m
      rw [ba_append, ba_append, List.mem_append, List.mem_append] at m
      rcases m with (m | m) | m
      · exact .inr (.inl (lows_mem (name_of h ho).1 b m))
      · simp at m; subst m; exact .inr (.inr (.inl rfl))
      · exact fmtRu_ch _ b m
theorem netCh_10 : ¬ netCh 10 := by
  unfold netCh; decide
theorem parts_one {c : UInt8} {p : ByteArray} (h : c ∉ p.data.toList) : partsB c p = [p] := by
  unfold partsB; rw [spl_nosep h]; rfl
theorem code_mem {c : ByteArray} (h : isCode c = true) : c.size = 7 ∧ ∀ b ∈ c.data.toList, 48 ≤ b.toNat ∧ b.toNat ≤ 57 := by
  unfold isCode at h
  rw [Bool.and_eq_true, beq_iff_eq] at h
  exact ⟨h.1, digs_mem h.2⟩

/-- Texts with single spaces between them, or a dash. -/
def listT (ps : List ByteArray) : ByteArray := if ps.length = 0 then ⟨#[45]⟩ else joinT ps spT
theorem joinT_nn {ps : List ByteArray} {sep : ByteArray} (h0 : ps.length ≠ 0) (h : ∀ p ∈ ps, 1 ≤ p.size) : 1 ≤ (joinT ps sep).size := by
  obtain ⟨k, hk⟩ : ∃ k, ps.length = k + 1 := ⟨ps.length - 1, by omega⟩
  have e : ps = ps.take k ++ [ps[k]] := by
    conv => lhs; rw [← List.take_append_drop k ps, List.drop_eq_getElem_cons (by omega)]
    rw [List.drop_eq_nil_of_le (by omega)]
  have hp := h ps[k] (List.getElem_mem _)
  rw [e]
  by_cases hn : ps.take k = []
  · rw [hn, List.nil_append, joinT_one]; exact hp
  · rw [joinT_snoc _ _ _ hn, ByteArray.size_append]; omega
theorem listT_pos {ps : List ByteArray} (h : ∀ p ∈ ps, 1 ≤ p.size) : 1 ≤ (listT ps).size := by
  unfold listT
  split
  · decide
  · rename_i h0
    exact joinT_nn h0 h

/-! ### The lines -/
def netW : ByteArray := ⟨#[110, 101, 116]⟩
def pathW : ByteArray := ⟨#[112, 97, 116, 104]⟩
def faultsW : ByteArray := ⟨#[102, 97, 117, 108, 116, 115]⟩
def okW : ByteArray := ⟨#[111, 107]⟩
def endW (n : Int) : ByteArray := if n = 0 then ⟨#[104, 111, 109, 101]⟩ else if n = 1 then ⟨#[108, 111, 115, 116]⟩ else ⟨#[108, 111, 111, 112]⟩
def ln0 (net : List Ofc) : ByteArray := netW ++ ⟨#[32]⟩ ++ fmtN net
def ln2 (s c : ByteArray) : ByteArray := pathW ++ ⟨#[32]⟩ ++ (s ++ ⟨#[32]⟩ ++ c)
def ln3 (s : ByteArray) : ByteArray := faultsW ++ ⟨#[32]⟩ ++ s
theorem cut_ln0 (net : List Ofc) : cutAt 32 (ln0 net) = some (netW, fmtN net) := cut_app (by decide)
theorem cut_net : cutAt 32 netW = none := by decide +kernel
theorem cut_ln2 (s c : ByteArray) : cutAt 32 (ln2 s c) = some (pathW, s ++ ⟨#[32]⟩ ++ c) := cut_app (by decide)
theorem cut_ln3 (s : ByteArray) : cutAt 32 (ln3 s) = some (faultsW, s) := cut_app (by decide)
theorem parts_ln2 {s c : ByteArray} (hs : lows s.data.toList = true) (hc : isCode c = true) : partsB 32 (s ++ ⟨#[32]⟩ ++ c) = [s, c] := by
  rw [parts_app s (low_not hs (by decide)) c, parts_one fun m => by have := (code_mem hc).2 _ m; simp at this]
theorem parts_ln3 {s : ByteArray} (hs : lows s.data.toList = true) : partsB 32 s = [s] := parts_one (low_not hs (by decide))
def netLines (net : List Ofc) (s c : ByteArray) : List ByteArray := [ln0 net, netW, ln2 s c, ln3 s]
theorem netLines_10 {net : List Ofc} {s c : ByteArray} (hs : lows s.data.toList = true) (hc : isCode c = true) : ∀ l ∈ netLines net s c, (10 : UInt8) ∉ l.data.toList := by
  have h1 : (10 : UInt8) ∉ s.data.toList := low_not hs (by decide)
  have h2 : (10 : UInt8) ∉ c.data.toList := fun m => by have := (code_mem hc).2 _ m; simp at this
  have h3 : (10 : UInt8) ∉ (fmtN net).data.toList := fun m => netCh_10 (fmtN_ch net _ m)
  intro l hl
  simp only [netLines, List.mem_cons, List.not_mem_nil, or_false] at hl
  rcases hl with rfl | rfl | rfl | rfl
  · unfold ln0
    rw [ba_append, ba_append, List.mem_append, List.mem_append]
    rintro ((h | h) | h)
    · exact absurd h (by decide)
    · exact absurd h (by decide)
    · exact h3 h
  · decide
  · unfold ln2
    rw [ba_append, ba_append, ba_append, ba_append, List.mem_append, List.mem_append, List.mem_append, List.mem_append]
    rintro ((h | h) | ((h | h) | h))
    · exact absurd h (by decide)
    · exact absurd h (by decide)
    · exact h1 h
    · exact absurd h (by decide)
    · exact h2 h
  · unfold ln3
    rw [ba_append, ba_append, List.mem_append, List.mem_append]
    rintro ((h | h) | h)
    · exact absurd h (by decide)
    · exact absurd h (by decide)
    · exact h1 h

/-- The text of the lines. -/
def netText (net : List Ofc) (s c : ByteArray) : ByteArray := linesT (netLines net s c)
theorem netText_parts {net : List Ofc} {s c : ByteArray} (hs : lows s.data.toList = true) (hc : isCode c = true) : partsB 10 (netText net s c) = netLines net s c ++ [⟨#[]⟩] := linesT_parts _ (netLines_10 hs hc)
theorem netText_is (net : List Ofc) (s c : ByteArray) : netText net s c = (⟨#[110, 101, 116, 32]⟩ : ByteArray) ++ fmtN net ++ ⟨#[10, 110, 101, 116, 10, 112, 97, 116, 104, 32]⟩ ++ s ++ ⟨#[32]⟩ ++ c ++ ⟨#[10, 102, 97, 117, 108, 116, 115, 32]⟩ ++ s ++ ⟨#[10]⟩ := by
  refine ba_ext ?_
  unfold netText netLines
  simp only [linesT_cons, linesT_nil, ba_append, ln0, ln2, ln3, netW, pathW, faultsW]
  simp
theorem netText_size {net : List Ofc} {s c : ByteArray} (hs : s.size ≤ 8) (hc : c.size = 7) : (netText net s c).size ≤ 20000 := by
  have h := fmtN_size net
  rw [netText_is]
  simp only [ByteArray.size_append]
  show 4 + _ + 10 + _ + 1 + _ + 8 + _ + 1 ≤ 20000
  omega
/-- What the lines tell. -/
def netAs (T P S : ByteArray) : Nat → ByteArray
  | 0 => okW
  | 1 => T
  | 2 => P
  | _ => S
theorem out_net {net : List Ofc} {s c T P S : ByteArray} (hs : 1 ≤ s.size) (hT : 1 ≤ T.size) (hT2 : T.size ≤ 2800) (hP : 1 ≤ P.size) (hP2 : P.size ≤ 1000) (hS : 1 ≤ S.size) :
    outA (netAs T P S) 0 ⟨#[]⟩ (netLines net s c ++ [⟨#[]⟩]) = (((⟨#[]⟩ ++ (okW ++ ⟨#[10]⟩)) ++ (T ++ ⟨#[10]⟩)) ++ (P ++ ⟨#[10]⟩)) ++ (S ++ ⟨#[10]⟩) := by
  have e10 : (⟨#[10]⟩ : ByteArray).size = 1 := rfl
  have eok : okW.size = 2 := rfl
  have e0 : (⟨#[]⟩ : ByteArray).size = 0 := rfl
  have n0 : (ln0 net).size ≠ 0 := by unfold ln0; simp only [ByteArray.size_append]; show 3 + 1 + _ ≠ 0; omega
  have n1 : netW.size ≠ 0 := by decide
  have n2 : (ln2 s c).size ≠ 0 := by unfold ln2; simp only [ByteArray.size_append]; show 4 + 1 + _ ≠ 0; omega
  have n3 : (ln3 s).size ≠ 0 := by unfold ln3; simp only [ByteArray.size_append]; show 6 + 1 + _ ≠ 0; omega
  unfold netLines
  simp only [List.cons_append, List.nil_append]
  rw [outA_step n0 (by omega) (by rw [e0]; omega), outA_step n1 (by omega) (by simp only [netAs, ByteArray.size_append, orNo_pos (show 1 ≤ okW.size by decide), e10, eok, e0]; omega),
    outA_step n2 (by omega) (by simp only [netAs, ByteArray.size_append, orNo_pos (show 1 ≤ okW.size by decide), orNo_pos hT, e10, eok, e0]; omega),
    outA_step n3 (by omega) (by simp only [netAs, ByteArray.size_append, orNo_pos (show 1 ≤ okW.size by decide), orNo_pos hT, orNo_pos hP, e10, eok, e0]; omega), outA_skip rfl]
  simp only [netAs, outA, orNo_pos (show 1 ≤ okW.size by decide), orNo_pos hT, orNo_pos hP, orNo_pos hS]

end Go.Proofs.YtpinkbodbedajaaGreatDoor
