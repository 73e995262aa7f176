/- ZH -/
import Derived.Test.YtpinkbodbedajaaGreatDoorQ30
import Derived.Test.YtpinkbodbedajaaGreatDoorQ24
namespace Go.Proofs.YtpinkbodbedajaaGreatDoor
open Go.RowKit

def namesOf (net : List Ofc) (st c : ByteArray) : List ByteArray := (pathR net st c).1.map (nameAt net)
def starsOf (net : List Ofc) (st : ByteArray) : List ByteArray := (fpS net st).map (· ++ ⟨#[42]⟩)
theorem pathOk_parts {net : List Ofc} {st c : ByteArray} (h : pathOk net st c = true) : netOk net = true ∧ isCode c = true ∧ ∃ q : Nat, offI net st = q ∧ ∃ hq : q < net.length, net[q].name = st := by
  unfold pathOk at h
  simp only [Bool.and_eq_true, decide_eq_true_iff] at h
  obtain ⟨⟨h1, h2⟩, h3⟩ := h
  obtain ⟨q, hq⟩ := Int.eq_ofNat_of_zero_le h2
  obtain ⟨hql, hqn⟩ := offI_at hq
  exact ⟨h1, h3, q, hq, hql, hqn⟩
theorem path_facts {net : List Ofc} {st c : ByteArray} (h : pathOk net st c = true) : ((pathR net st c).2 = 0 ∨ (pathR net st c).2 = 1 ∨ (pathR net st c).2 = 2) ∧ (namesOf net st c).length ≤ 9 ∧ ∀ p ∈ namesOf net st c, 1 ≤ p.size ∧ p.size ≤ 8 := by
  obtain ⟨h1, h3, q, hq, hql, hqn⟩ := pathOk_parts h
  have e1 := route_len h1 (c := c) (net.length + 1) [] q (onPath_start hql)
  have e2 := route_end h1 (c := c) (net.length + 1) [] q (onPath_start hql)
  have e3 := (netOk_iff.1 h1).1
  unfold namesOf
  rw [pathR_yes h1 hq h3]
  refine ⟨?_, ?_, fun p hp => ?_⟩
  · show (routeN _ _ _ _ _).2 = 0 ∨ (routeN _ _ _ _ _).2 = 1 ∨ (routeN _ _ _ _ _).2 = 2
    omega
  · rw [List.length_map]
    show (routeN _ _ _ _ _).1.length ≤ 9
    omega
  · obtain ⟨i, hi, rfl⟩ := List.mem_map.1 hp
    have hin := e1.2.2 i hi
    rw [nameAt_of hin]
    exact name_size ((netOk_iff.1 h1).2 i hin).1
theorem stars_facts (net : List Ofc) (st : ByteArray) : (starsOf net st).length ≤ 100000000 ∧ (∀ p ∈ fpS net st, p.size ≤ 8) ∧ ∀ p ∈ starsOf net st, 1 ≤ p.size ∧ p.size ≤ 9 := by
  have hz : ∀ p ∈ fpS net st, p.size ≤ 8 := fun p hp => by
    unfold fpS at hp
    split at hp
    · have := faults_short net _ 8 ⟨#[]⟩ p hp
      have e : (⟨#[]⟩ : ByteArray).size = 0 := rfl
      omega
    · simp at hp
  refine ⟨by unfold starsOf; rw [List.length_map]; exact fpS_len net st, hz, fun p hp => ?_⟩
  unfold starsOf at hp
  obtain ⟨x, hx, rfl⟩ := List.mem_map.1 hp
  have := hz x hx
  rw [ByteArray.size_append]
  show 1 ≤ _ + 1 ∧ _ + 1 ≤ 9
  omega
theorem listT_size {ps : List ByteArray} {b n : Nat} (hl : ps.length ≤ n) (h : ∀ p ∈ ps, p.size ≤ b) : (listT ps).size ≤ n * (b + 1) + 1 := by
  unfold listT
  split
  · show 1 ≤ _; omega
  · have := joinT_size ps spT b h
    have h2 : ps.length * (b + spT.size) ≤ n * (b + 1) := Nat.mul_le_mul hl (Nat.le_refl _)
    omega

/-! ### The four steps -/
section
variable {X : World → Prop}
theorem step_net0 (s : Dsk) {net : List Ofc} (hk : netOk net = true) : StepOk X (ln0 net) s { s with net := net } okW := fun B d vH w _ hB hD =>
  line_net B d { s with net := net } vH (ln0 net) (fmtN net) okW w (by unfold ln0; have := fmtN_size net; simp only [ByteArray.size_append]; unfold maxLen; show 3 + 1 + _ ≤ _; omega) (cut_ln0 net) fun W hW =>
    (desk_setNet B d s vH net W (hD.below hW) (Nat.le_trans hB hW.size) hk).mono fun e w' h => ⟨h.1, vH, h.2.1, h.2.2, heldN.refl _ _⟩
theorem step_net1 (s : Dsk) : StepOk X netW s s (fmtN s.net) := fun B d vH w _ _ hD =>
  line_word B d s vH netW (fmtN s.net) w (by decide) cut_net fun W hW => word_net B d s vH W (hD.below hW)
theorem step_net2 (s : Dsk) {st c : ByteArray} (h : pathOk s.net st c = true) : StepOk X (ln2 st c) s s (listT (namesOf s.net st c) ++ tailW (pathR s.net st c).2) := fun B d vH w _ _ hD => by
  obtain ⟨h1, h3, q, hq, hql, hqn⟩ := pathOk_parts h
  obtain ⟨f1, f2, f3⟩ := path_facts h
  have hnm := ((netOk_iff.1 h1).2 q hql).1
  rw [hqn] at hnm
  have hs := name_size hnm
  have hc := (code_mem h3).1
  have hls := listT_size (n := 9) f2 fun p hp => (f3 p hp).2
  exact line_two B d s vH (ln2 st c) pathW (st ++ ⟨#[32]⟩ ++ c) st c _ w (by unfold ln2; simp only [ByteArray.size_append]; unfold maxLen; show 4 + 1 + (_ + 1 + _) ≤ _; omega) (by simp only [ByteArray.size_append]; show _ + 1 + _ ≤ _; omega) (cut_ln2 st c) (parts_ln2 (isName_iff.1 hnm).1 h3)
    (by rw [ByteArray.toList_eq]; decide) (by rw [ByteArray.toList_eq]; decide) (by rw [ByteArray.toList_eq]; decide) (by rw [ByteArray.toList_eq]; decide) fun W hW =>
    two_path B d s vH st c _ W (desk_path B d s vH st c W (hD.below hW) (by unfold maxLen; omega) f1 (show (namesOf s.net st c).length ≤ 1000 by omega) (fun p hp => Nat.le_trans (f3 p hp).2 (by omega)) (Nat.le_trans hls (by omega)))
theorem step_net3 (s : Dsk) {st c : ByteArray} (h : pathOk s.net st c = true) : StepOk X (ln3 st) s s (listT (starsOf s.net st)) := fun B d vH w _ _ hD => by
  obtain ⟨h1, h3, q, hq, hql, hqn⟩ := pathOk_parts h
  have hnm := ((netOk_iff.1 h1).2 q hql).1
  rw [hqn] at hnm
  have hs := name_size hnm
  exact line_one B d s vH (ln3 st) faultsW st st _ w (by unfold ln3; simp only [ByteArray.size_append]; unfold maxLen; show 6 + 1 + _ ≤ _; omega) (by omega) (cut_ln3 st) (parts_ln3 (isName_iff.1 hnm).1)
    (by rw [ByteArray.toList_eq]; decide) (by rw [ByteArray.toList_eq]; decide) (by rw [ByteArray.toList_eq]; decide) (by rw [ByteArray.toList_eq]; decide) fun W hW =>
    one_faults B d s vH st _ W (desk_faults B d s vH st W (hD.below hW) (by rw [hq]; omega) fun p hp => Nat.le_trans ((stars_facts s.net st).2.1 p hp) (by omega))
end

def netDs (net : List Ofc) : Nat → Dsk
  | 0 => firstD
  | _ => { firstD with net := net }
def netOut (net : List Ofc) (st c : ByteArray) : ByteArray := (((⟨#[]⟩ ++ (okW ++ ⟨#[10]⟩)) ++ (fmtN net ++ ⟨#[10]⟩)) ++ ((listT (namesOf net st c) ++ tailW (pathR net st c).2) ++ ⟨#[10]⟩)) ++ (listT (starsOf net st) ++ ⟨#[10]⟩)
theorem endW_size (n : Int) : 1 ≤ (endW n).size ∧ (endW n).size ≤ 4 := by
  unfold endW
  split
  · decide
  · split <;> decide
theorem run_net {net : List Ofc} {st c : ByteArray} (h : pathOk net st c = true) (w : World) :
    Calls Tryz.prog 20 #[.string (netText net st c)] w fun e w' => e = .returned (.string (netOut net st c)) ∧ Below w.heap.size w w' := by
  obtain ⟨h1, h3, q, hq, hql, hqn⟩ := pathOk_parts h
  obtain ⟨f1, f2, f3⟩ := path_facts h
  obtain ⟨g1, g2, g3⟩ := stars_facts net st
  have hnm := ((netOk_iff.1 h1).2 q hql).1
  rw [hqn] at hnm
  have hs := name_size hnm
  have hc := (code_mem h3).1
  have hT := fmtN_pos h1
  have hT2 := fmtN_size net
  have hls := listT_size (n := 9) f2 fun p hp => (f3 p hp).2
  have hlp := listT_pos fun p hp => (f3 p hp).1
  have hss := listT_size (n := 100000000) g1 fun p hp => (g3 p hp).2
  have hsp := listT_pos fun p hp => (g3 p hp).1
  have he := endW_size (pathR net st c).2
  have hP : (listT (namesOf net st c) ++ tailW (pathR net st c).2).size = (listT (namesOf net st c)).size + (1 + (endW (pathR net st c).2).size) := by
    unfold tailW; simp only [ByteArray.size_append]; rfl
  have hrun := impl_RunScript (fun _ => True) (netText net st c) w (netLines net st c ++ [⟨#[]⟩]) (netDs net) (netAs (fmtN net) (listT (namesOf net st c) ++ tailW (pathR net st c).2) (listT (starsOf net st))) (netText_size hs.2 hc) (netText_parts (isName_iff.1 hnm).1 h3) (fun _ _ => trivial) rfl
    (fun k hk hne _ _ => by
      match k, hk, hne with
      | 0, _, _ => exact ⟨step_net0 firstD h1, by show (2 : Nat) ≤ _; omega⟩
      | 1, _, _ => exact ⟨step_net1 { firstD with net := net }, by show (fmtN net).size ≤ _; omega⟩
      | 2, _, _ => exact ⟨step_net2 { firstD with net := net } h, by show (listT _ ++ tailW _).size ≤ _; rw [hP]; omega⟩
      | 3, _, _ => exact ⟨step_net3 (c := c) { firstD with net := net } h, by show (listT (starsOf net st)).size ≤ _; omega⟩
      | 4, _, hne => exact absurd rfl hne
      | k + 5, hk, _ => exact absurd hk (by unfold netLines; simp))
    (fun k hk hz => by
      match k, hk, hz with
      | 0, _, hz => exact absurd hz (by show (ln0 net).size ≠ 0; unfold ln0; simp only [ByteArray.size_append]; show 3 + 1 + _ ≠ 0; omega)
      | 1, _, hz => exact absurd hz (by show netW.size ≠ 0; decide)
      | 2, _, hz => exact absurd hz (by show (ln2 st c).size ≠ 0; unfold ln2; simp only [ByteArray.size_append]; show 4 + 1 + _ ≠ 0; omega)
      | 3, _, hz => exact absurd hz (by show (ln3 st).size ≠ 0; unfold ln3; simp only [ByteArray.size_append]; show 6 + 1 + _ ≠ 0; omega)
      | 4, _, _ => rfl
      | k + 5, hk, _ => exact absurd hk (by unfold netLines; simp))
  rw [out_net hs.1 hT hT2 (by rw [hP]; omega) (by rw [hP]; omega) hsp] at hrun
  exact hrun

end Go.Proofs.YtpinkbodbedajaaGreatDoor
