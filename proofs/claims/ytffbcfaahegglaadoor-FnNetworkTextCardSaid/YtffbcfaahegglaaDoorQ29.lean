/- QC QD QE -/
import Derived.Test.YtffbcfaahegglaaDoorQ28
import Derived.Test.YtffbcfaahegglaaDoorQ12
import Derived.Maps.OwnIn
import Derived.Test.YtffbcfaahegglaaDoorQ27
import Derived.Test.YtffbcfaahegglaaDoorQ22
import Derived.Test.YtffbcfaahegglaaDoorQ23
namespace Go.Proofs.YtffbcfaahegglaaDoor
open Go.RowKit

theorem joinT_data1 (c : UInt8) (ps : List ByteArray) : (joinT ps ⟨#[c]⟩).data.toList = [c].intercalate (ps.map (·.data.toList)) := by
  unfold joinT Lib.join
  simp
theorem parts_join1 {c : UInt8} {ps : List ByteArray} (hne : ps ≠ []) (h : ∀ p ∈ ps, c ∉ p.data.toList) : partsB c (joinT ps ⟨#[c]⟩) = ps := by
  unfold partsB
  rw [joinT_data1, spl_join _ (by simpa using hne) (by simpa using h), List.map_map]
  conv => rhs; rw [← List.map_id ps]
  refine List.map_congr_left fun p _ => ?_
  exact ba_ext (by simp)
theorem join_parts1 (c : UInt8) (t : ByteArray) : joinT (partsB c t) ⟨#[c]⟩ = t := by
  refine ba_ext ?_
  rw [joinT_data1]
  unfold partsB
  rw [List.map_map, show (((fun x : ByteArray => x.data.toList) ∘ fun l : List UInt8 => (⟨l.toArray⟩ : ByteArray)) = id) from funext fun l => by simp, List.map_id]
  exact join_spl c _
theorem parts_ne1 (c : UInt8) (t : ByteArray) : partsB c t ≠ [] := by
  unfold partsB
  simp [spl_ne]
theorem cut_join {c : UInt8} {x a b : ByteArray} (h : cutAt c x = some (a, b)) : a ++ ⟨#[c]⟩ ++ b = x := by
  unfold cutAt at h
  split at h
  · cases h
  · rename_i hn
    obtain ⟨i, hi⟩ : ∃ i : Nat, Lib.indexByte x.data.toList c = (i : Int) := ⟨(Lib.indexByte x.data.toList c).toNat, by omega⟩
    rw [hi] at h
    simp only [Option.some.injEq, Int.toNat_natCast, Prod.mk.injEq] at h
    rw [← h.1, ← h.2]
    refine ba_ext ?_
    rw [ba_append, ba_append, ext_take, ext_drop]
    conv => rhs; rw [idx_at hi]
    simp
theorem cut_app {c : UInt8} {p q : ByteArray} (h : c ∉ p.data.toList) : cutAt c (p ++ ⟨#[c]⟩ ++ q) = some (p, q) := by
  have hd : (p ++ ⟨#[c]⟩ ++ q).data.toList = p.data.toList ++ c :: q.data.toList := by
    rw [ba_append, ba_append]
    simp
  have hi : Lib.indexByte (p ++ ⟨#[c]⟩ ++ q).data.toList c = (p.data.toList.length : Int) := by rw [hd]; exact idx_of _ h
  rw [cut_some hi]
  have e1 : (p ++ ⟨#[c]⟩ ++ q).extract 0 p.data.toList.length = p := ba_ext (by rw [ext_take, hd]; simp)
  have e2 : (p ++ ⟨#[c]⟩ ++ q).extract (p.data.toList.length + 1) (p ++ ⟨#[c]⟩ ++ q).size = q := ba_ext (by
    rw [ext_drop, hd, show p.data.toList ++ c :: q.data.toList = (p.data.toList ++ [c]) ++ q.data.toList by simp]
    exact List.drop_left' (by simp))
  rw [e1, e2]

/-! ### Parts parsed one by one -/
section
variable {α : Type} (f : ByteArray → Option α)
def allF (ps : List ByteArray) : Bool := ps.all fun x => (f x).isSome
def gotF (ps : List ByteArray) : List α := ps.filterMap f
variable {f}
theorem gotF_len : ∀ ps : List ByteArray, allF f ps = true → (gotF f ps).length = ps.length
  | [], _ => rfl
  | x :: ps, h => by
    unfold allF at h
    rw [List.all_cons, Bool.and_eq_true] at h
    obtain ⟨y, hy⟩ := Option.isSome_iff_exists.1 h.1
    unfold gotF
    rw [List.filterMap_cons, hy]
    show (gotF f ps).length + 1 = _
    rw [gotF_len ps h.2]
    rfl
theorem gotF_snoc {ps : List ByteArray} {x : ByteArray} {y : α} (h : f x = some y) : gotF f (ps ++ [x]) = gotF f ps ++ [y] := by
  unfold gotF
  rw [List.filterMap_append]
  simp [h]
theorem allF_snoc (ps : List ByteArray) (x : ByteArray) : allF f (ps ++ [x]) = (allF f ps && (f x).isSome) := by
  unfold allF
  rw [List.all_append]
  simp
theorem allF_prefix {ps qs : List ByteArray} (h : ps <+: qs) (hf : allF f ps = false) : allF f qs = false := by
  obtain ⟨r, rfl⟩ := h
  unfold allF at *
  rw [List.all_append, hf]
  rfl
theorem gotF_map {g : α → ByteArray} (hg : ∀ x y, f x = some y → g y = x) : ∀ {ps : List ByteArray}, allF f ps = true → (gotF f ps).map g = ps
  | [], _ => rfl
  | x :: ps, h => by
    unfold allF at h
    rw [List.all_cons, Bool.and_eq_true] at h
    obtain ⟨y, hy⟩ := Option.isSome_iff_exists.1 h.1
    unfold gotF
    rw [List.filterMap_cons, hy]
    show g y :: (gotF f ps).map g = _
    rw [hg x y hy, gotF_map hg h.2]
theorem gotF_of {g : α → ByteArray} : ∀ {rs : List α}, (∀ r ∈ rs, f (g r) = some r) → gotF f (rs.map g) = rs ∧ allF f (rs.map g) = true
  | [], _ => ⟨rfl, rfl⟩
  | r :: rs, h => by
    have h1 := h r (by simp)
    obtain ⟨i1, i2⟩ := gotF_of (rs := rs) fun x hx => h x (List.mem_cons_of_mem _ hx)
    unfold gotF allF at *
    rw [List.map_cons, List.filterMap_cons, h1, List.all_cons, h1, i2]
    exact ⟨by rw [i1], rfl⟩
theorem gotF_less {g : ByteArray → Option α} (hg : ∀ x y, f x = some y → g x = some y) : ∀ {ps : List ByteArray}, allF f ps = true → gotF g ps = gotF f ps ∧ allF g ps = true
  | [], _ => ⟨rfl, rfl⟩
  | x :: ps, h => by
    unfold allF at h
    rw [List.all_cons, Bool.and_eq_true] at h
    obtain ⟨y, hy⟩ := Option.isSome_iff_exists.1 h.1
    obtain ⟨i1, i2⟩ := gotF_less hg (ps := ps) h.2
    unfold gotF allF at *
    rw [List.filterMap_cons, List.filterMap_cons, hy, hg x y hy, List.all_cons, hg x y hy, i2]
    exact ⟨by rw [i1], rfl⟩
end

/-! ### Networks -/
def fmtO (o : Ofc) : ByteArray := o.name ++ ⟨#[32]⟩ ++ fmtRu o.rules
def fmtN (net : List Ofc) : ByteArray := if netOk net then joinT (net.map fmtO) ⟨#[59]⟩ else ⟨#[]⟩
theorem fmtN_no {net : List Ofc} (h : netOk net = false) : fmtN net = ⟨#[]⟩ := by unfold fmtN; rw [h]; rfl
theorem fmtN_yes {net : List Ofc} (h : netOk net = true) : fmtN net = joinT (net.map fmtO) ⟨#[59]⟩ := by unfold fmtN; rw [if_pos h]
def partO (x : ByteArray) : Option Ofc := (cutAt 32 x).bind fun p => if prOk p.2 then some ⟨p.1, prR p.2⟩ else none
def partC (x : ByteArray) : Option Ofc := (cutAt 32 x).map fun p => ⟨p.1, prR p.2⟩
def pnOk (t : ByteArray) : Bool := allF partO (partsB 59 t) && decide ((partsB 59 t).length ≤ 8) && netOk (gotF partO (partsB 59 t))
def pnN (t : ByteArray) : List Ofc := if pnOk t then gotF partO (partsB 59 t) else []
theorem partO_fmt {x : ByteArray} {o : Ofc} (h : partO x = some o) : fmtO o = x := by
  unfold partO at h
  obtain ⟨⟨a, b⟩, hc, h⟩ := Option.bind_eq_some_iff.1 h
  simp only at h
  split at h
  · rename_i hb
    injection h with h
    rw [← h]
    unfold fmtO
    rw [fmt_parse hb]
    exact cut_join hc
  · cases h
theorem partO_C {x : ByteArray} {o : Ofc} (h : partO x = some o) : partC x = some o := by
  unfold partO at h
  obtain ⟨⟨a, b⟩, hc, h⟩ := Option.bind_eq_some_iff.1 h
  simp only at h
  split at h
  · injection h with h
    unfold partC
    rw [hc, ← h]
    rfl
  · cases h
theorem low_not {l : List UInt8} (h : lows l = true) {c : UInt8} (hc : c.toNat < 97) : c ∉ l := fun m => by
  have := lows_mem h c m
  omega
theorem inter_mem {c b : UInt8} : ∀ {ls : List (List UInt8)}, b ∈ [c].intercalate ls → b = c ∨ ∃ l ∈ ls, b ∈ l
  | [], h => by simp [List.intercalate] at h
  | [a], h => by rw [inter_one] at h; exact .inr ⟨a, by simp, h⟩
  | a :: d :: ls, h => by
    rw [inter_cons, List.mem_append, List.mem_append] at h
    rcases h with (h | h) | h
    · exact .inr ⟨a, by simp, h⟩
    · exact .inl (by simpa using h)
    · rcases inter_mem (ls := d :: ls) h with h | ⟨l, hl, h⟩
      · exact .inl h
      · exact .inr ⟨l, List.mem_cons_of_mem _ hl, h⟩
theorem fmtU_59 {rs : List Fwd} (h : rulesOk rs = true) : ∀ r ∈ rs, (59 : UInt8) ∉ (fmtU r).data.toList := fun r hr m => by
  obtain ⟨k, hk, rfl⟩ := List.getElem_of_mem hr
  obtain ⟨h1, h2, _⟩ := (rulesOk_iff.1 h).2 k hk
  have a1 := digs_mem (isPfx_iff.1 h1).1
  have a2 := lows_mem (isName_iff.1 h2).1
  unfold fmtU at m
  rw [ba_append, ba_append, List.mem_append, List.mem_append] at m
  rcases m with (m | m) | m
  · have := a1 _ m
    simp at this
  · simp at m
  · have := a2 _ m
    simp at this
theorem fmtRu_59 (rs : List Fwd) : (59 : UInt8) ∉ (fmtRu rs).data.toList := fun m => by
  cases h : rulesOk rs
  · rw [fmtRu_no h] at m; simp at m
  · by_cases h0 : rs.length = 0
    · rw [fmtRu_empty h h0] at m; simp at m
    · rw [fmtRu_some h h0, joinT_data] at m
      rcases inter_mem m with m | ⟨l, hl, m⟩
      · simp at m
      · simp only [List.map_map, List.mem_map] at hl
        obtain ⟨r, hr, rfl⟩ := hl
        exact fmtU_59 h r hr m
theorem name_of {net : List Ofc} (h : netOk net = true) {o : Ofc} (ho : o ∈ net) : lows o.name.data.toList = true ∧ rulesOk o.rules = true := by
  obtain ⟨k, hk, rfl⟩ := List.getElem_of_mem ho
  obtain ⟨h1, _, _, h4, _⟩ := (netOk_iff.1 h).2 k hk
  exact ⟨(isName_iff.1 h1).1, h4⟩
theorem fmtO_59 {net : List Ofc} (h : netOk net = true) : ∀ o ∈ net, (59 : UInt8) ∉ (fmtO o).data.toList := fun o ho m => by
  unfold fmtO at m
  rw [ba_append, ba_append, List.mem_append, List.mem_append] at m
  rcases m with (m | m) | m
  · exact low_not (name_of h ho).1 (by decide) m
  · simp at m
  · exact fmtRu_59 _ m
theorem partO_of {net : List Ofc} (h : netOk net = true) : ∀ o ∈ net, partO (fmtO o) = some o := fun o ho => by
  obtain ⟨h1, h2⟩ := name_of h ho
  obtain ⟨p1, p2⟩ := parse_fmt h2
  unfold partO fmtO
  rw [cut_app (low_not h1 (by decide))]
  simp [p1, p2]
theorem net_ne {net : List Ofc} (h : netOk net = true) : net.map fmtO ≠ [] := fun e => by
  have := (netOk_iff.1 h).1.1
  have h2 : (net.map fmtO).length = 0 := by rw [e]; rfl
  rw [List.length_map] at h2
  omega
theorem fmtN_parts {net : List Ofc} (h : netOk net = true) : partsB 59 (fmtN net) = net.map fmtO := by
  rw [fmtN_yes h]
  exact parts_join1 (net_ne h) fun p hp => by
    obtain ⟨o, ho, rfl⟩ := List.mem_map.1 hp
    exact fmtO_59 h o ho
theorem pn_fmt {net : List Ofc} (h : netOk net = true) : pnOk (fmtN net) = true ∧ pnN (fmtN net) = net := by
  obtain ⟨g1, g2⟩ := gotF_of (partO_of h)
  have hp : pnOk (fmtN net) = true := by
    unfold pnOk
    rw [fmtN_parts h, g1, g2, h, decide_eq_true (by rw [List.length_map]; exact (netOk_iff.1 h).1.2)]
    rfl
  refine ⟨hp, ?_⟩
  unfold pnN
  rw [if_pos hp, fmtN_parts h, g1]
theorem fmt_pn {t : ByteArray} (h : pnOk t = true) : fmtN (pnN t) = t := by
  unfold pnN
  rw [if_pos h]
  unfold pnOk at h
  simp only [Bool.and_eq_true, decide_eq_true_iff] at h
  obtain ⟨⟨h1, h2⟩, h3⟩ := h
  rw [fmtN_yes h3, gotF_map (fun x y => partO_fmt) h1, join_parts1]
def snOk (t : ByteArray) : Bool := allF partC ((partsB 59 t).take 9) && sEq (fmtN (gotF partC ((partsB 59 t).take 9))) t
theorem sn_eq (t : ByteArray) : snOk t = pnOk t ∧ (pnOk t = true → gotF partC ((partsB 59 t).take 9) = gotF partO (partsB 59 t)) := by
  have h1 : pnOk t = true → (partsB 59 t).take 9 = partsB 59 t := fun h => by
    unfold pnOk at h
    simp only [Bool.and_eq_true, decide_eq_true_iff] at h
    exact List.take_of_length_le (by omega)
  have h2 : pnOk t = true → gotF partC (partsB 59 t) = gotF partO (partsB 59 t) ∧ allF partC (partsB 59 t) = true := fun h => by
    unfold pnOk at h
    simp only [Bool.and_eq_true] at h
    exact gotF_less (fun x y => partO_C) h.1.1
  refine ⟨?_, fun h => by rw [h1 h, (h2 h).1]⟩
  rw [Bool.eq_iff_iff]
  constructor
  · intro h
    unfold snOk at h
    rw [Bool.and_eq_true] at h
    obtain ⟨ha, he⟩ := h
    rw [sEq_iff] at he
    have hg := gotF_len _ ha
    obtain ⟨out, hout⟩ : ∃ out, gotF partC ((partsB 59 t).take 9) = out := ⟨_, rfl⟩
    rw [hout] at he hg
    cases hr : netOk out
    · rw [fmtN_no hr] at he
      subst he
      have hd : partsB 59 (⟨#[]⟩ : ByteArray) = [⟨#[]⟩] := by decide +kernel
      rw [hd] at ha
      exact absurd ha (by decide +kernel)
    · rw [← he]
      exact (pn_fmt hr).1
  · intro h
    unfold snOk
    rw [h1 h, (h2 h).1, (h2 h).2]
    have hf := fmt_pn h
    unfold pnN at hf
    rw [if_pos h] at hf
    rw [hf, sEq_refl]
    rfl
theorem fmtO_size {net : List Ofc} (h : netOk net = true) : ∀ p ∈ net.map fmtO, p.size ≤ 349 ∧ 1 ≤ p.size := fun p hp => by
  obtain ⟨o, ho, rfl⟩ := List.mem_map.1 hp
  obtain ⟨k, hk, rfl⟩ := List.getElem_of_mem ho
  obtain ⟨h1, _⟩ := (netOk_iff.1 h).2 k hk
  have := (isName_iff.1 h1).2
  have := fmtRu_size net[k].rules
  unfold fmtO
  rw [ByteArray.size_append, ByteArray.size_append]
  show _ + 1 + _ ≤ _ ∧ 1 ≤ _ + 1 + _
  omega

end Go.Proofs.YtffbcfaahegglaaDoor

namespace Go.Proofs.YtffbcfaahegglaaDoor
open Go.RowKit

theorem pre_zero (ps : List ByteArray) (sep : ByteArray) : joinT (ps.take 0) sep = ⟨#[]⟩ := joinT_nil _
theorem pre_one {ps : List ByteArray} {sep : ByteArray} (h : 0 < ps.length) : joinT (ps.take 1) sep = ps[0] := by
  rw [List.take_succ_eq_append_getElem h, List.take_zero, List.nil_append, joinT_one]
theorem pre_succ {ps : List ByteArray} {sep : ByteArray} {k : Nat} (h : k < ps.length) (h0 : 0 < k) : joinT (ps.take (k + 1)) sep = joinT (ps.take k) sep ++ sep ++ ps[k] := by
  rw [List.take_succ_eq_append_getElem h, joinT_snoc]
  intro e
  have := congrArg List.length e
  rw [List.length_take, List.length_nil] at this
  omega
theorem pre_size {ps : List ByteArray} {sep : ByteArray} {b : Nat} (h : ∀ p ∈ ps, p.size ≤ b) (k : Nat) : (joinT (ps.take k) sep).size ≤ ps.length * (b + sep.size) := by
  have h1 := joinT_size (ps.take k) sep b fun p hp => h p (List.mem_of_mem_take hp)
  exact Nat.le_trans h1 (Nat.mul_le_mul (by rw [List.length_take]; omega) (Nat.le_refl _))
theorem fmtN_pos {net : List Ofc} (h : netOk net = true) : 1 ≤ (fmtN net).size := by
  rcases Nat.eq_zero_or_pos (fmtN net).size with h0 | h0
  · exfalso
    have e : fmtN net = ⟨#[]⟩ := ByteArray.ext (Array.eq_empty_of_size_eq_zero h0)
    have hp := fmtN_parts h
    rw [e] at hp
    have hd : partsB 59 (⟨#[]⟩ : ByteArray) = [⟨#[]⟩] := by decide +kernel
    rw [hd] at hp
    have := (fmtO_size h ⟨#[]⟩ (by rw [← hp]; simp)).2
    exact absurd this (by decide)
  · exact h0
theorem preN_size {net : List Ofc} (h : netOk net = true) (k : Nat) : (joinT ((net.map fmtO).take k) ⟨#[59]⟩).size ≤ 2800 := by
  have h1 := pre_size (sep := ⟨#[59]⟩) (fun p hp => (fmtO_size h p hp).1) k
  have h2 := (netOk_iff.1 h).1.2
  have h3 : (net.map fmtO).length * (349 + (⟨#[59]⟩ : ByteArray).size) ≤ 8 * 350 := Nat.mul_le_mul (by rw [List.length_map]; omega) (by decide)
  omega
theorem fmtN_size (net : List Ofc) : (fmtN net).size ≤ 2800 := by
  cases h : netOk net
  · rw [fmtN_no h]; exact Nat.zero_le _
  · rw [fmtN_yes h]
    have := preN_size h (net.map fmtO).length
    rwa [List.take_length] at this

set_option maxRecDepth 100000 in
set_option maxHeartbeats 1600000 in
theorem spec_FormatNetwork (v : Value) (net : List Ofc) (w : World) (hv : rd w w.heap.size v net) :
    Calls Tryd.prog 28 #[v] w fun e w' => e = .returned (.string (fmtN net)) ∧ Below w.heap.size w w' := by
  have HV := Lib.hid hv
  obtain ⟨A, n, c, rfl, hn, hc, hm, hr⟩ := hv
  subst hn
  have HR := Lib.hid hr; clear hr
  go_enter Tryd.func28, Tryd.ntmps28
  go_wp2_with fail
  refine (spec_NetworkValid _ net _ HV.out).mono ?_
  rintro e w1 ⟨rfl, rfl⟩
  have l1 := Below.refl w.heap.size w
  cases hok : netOk net
  · have HF := Lib.hid (fmtN_no hok)
    clear hok
    go_wp2_with fail
    go_ret
    exact ⟨ret_str HF.out.symm, l1⟩
  have HOK := Lib.hid hok
  have h60 := (netOk_iff.1 hok).1.2
  have HF : Hid (fmtN net = joinT ((net.map fmtO).take net.length) ⟨#[59]⟩) := by
    show _ = _
    rw [fmtN_yes hok, List.take_of_length_le (by simp)]
  have HLN : Hid ((net.map fmtO).length = net.length) := by show _ = _; rw [List.length_map]
  clear hok
  go_wp2_with fail
  go_loopw [3, 4] (fun t i wr => ∃ k : Nat, k ≤ net.length ∧ i = .int .i64 k ∧ t = .string (joinT ((net.map fmtO).take k) ⟨#[59]⟩) ∧ Below w.heap.size w wr) (fun _ i _ => net.length - (intOf i).toNat)
  case atStart => exact ⟨0, Nat.zero_le _, rfl, by rw [pre_zero], l1⟩
  case round =>
    obtain ⟨k, hk, rfl, rfl, lr⟩ := hrel
    obtain ⟨w2, rfl⟩ : ∃ w2 : World, w2 = wr := ⟨_, rfl⟩
    clear l1
    have hps := preN_size HOK.out k
    by_cases hlt : k < net.length
    · obtain ⟨b, o, A2, k2, rfl, hb, hok, hu, y1, y2⟩ := HR.out.ofcU k hlt
      have hkm : k < (net.map fmtO).length := by rw [HLN.out]; exact hlt
      have HP0 : Hid (k = 0 → joinT ((net.map fmtO).take (k + 1)) ⟨#[59]⟩ = fmtO net[k]) := fun h => by
        subst h; rw [pre_one hkm]; simp
      have HP1 : Hid (0 < k → joinT ((net.map fmtO).take (k + 1)) ⟨#[59]⟩ = joinT ((net.map fmtO).take k) ⟨#[59]⟩ ++ ⟨#[59]⟩ ++ fmtO net[k]) := fun h => by
        rw [pre_succ hkm h]; simp
      have hZ : Hid (k = 0 → joinT ((net.map fmtO).take k) ⟨#[59]⟩ = ⟨#[]⟩) := fun h => by subst h; exact pre_zero _ _
      have hnz := (name_size ((netOk_iff.1 HOK.out).2 k hlt).1).2
      obtain ⟨PN, hPN⟩ : ∃ P, joinT ((net.map fmtO).take (k + 1)) ⟨#[59]⟩ = P := ⟨_, rfl⟩
      obtain ⟨P, hP⟩ : ∃ P, joinT ((net.map fmtO).take k) ⟨#[59]⟩ = P := ⟨_, rfl⟩
      rw [hPN] at HP1 HP0
      rw [hP] at HP1 hps hZ ⊢
      have HPN := Lib.hid hPN
      have HU := Lib.hid hu
      clear hPN hP hu hkm
      generalize net[k] = x at *
      obtain ⟨nm, rs⟩ := x
      simp only at hnz y1 y2 hok
      obtain ⟨rv, hrv⟩ : ∃ rv, rv = Value.slice A2 rs.length k2 := ⟨_, rfl⟩
      have HC : Hid (∀ W, Below w.heap.size w W → Calls Tryd.prog 15 #[.slice A2 rs.length k2] W fun e W' => e = .returned (.string (fmtRu rs)) ∧ Below w.heap.size w W') := fun W hW =>
        (spec_FormatRules _ rs W (HU.out.on hW)).mono fun e W' h => ⟨h.1, hW.trans (h.2.mono hW.size)⟩
      have hfz := fmtRu_size rs
      obtain ⟨F, hF⟩ : ∃ F, fmtRu rs = F := ⟨_, rfl⟩
      have HFX : Hid (fmtO ⟨nm, rs⟩ = nm ++ ⟨#[32]⟩ ++ F) := by show _ = _; rw [← hF]; rfl
      rw [hF] at HC hfz
      clear hF hrv HU
      have hki : (k : Int) < (net.length : Int) := by omega
      have hki0 : (0 : Int) ≤ (k : Int) := by omega
      have hs1 := lr.size
      have ld := later_drew lr
      by_cases hk0 : k = 0
      · subst hk0
        simp only [Nat.zero_mul, Nat.zero_add, Nat.add_zero] at y1 y2
        have HEQ : Hid (Value.string (P ++ nm ++ ⟨#[32]⟩ ++ F) = .string (joinT ((net.map fmtO).take (0 + 1)) ⟨#[59]⟩)) := by
          show _ = _
          rw [HPN.out, HP0.out rfl, hZ.out rfl, HFX.out]
          all_goals congr 1
          all_goals refine ba_ext ?_
          all_goals simp
        clear hki hki0
        have hki : (0 : Int) < (net.length : Int) := by omega
        have ha1 : ¬ 9223372036854775807 < P.size + nm.size := by omega
        have ha2 : ¬ 9223372036854775807 < P.size + nm.size + 1 := by omega
        have ha3 : ¬ 9223372036854775807 < P.size + nm.size + 1 + F.size := by omega
        go_wp2_with fail
        go_region_held3 (fun W => Below w.heap.size w W) (first | exact ld | exact l3 | fail) (first | (go_at_call 15; (with_reducible refine (HC.out _ ld).mono ?_); rintro e w3 ⟨rfl, l3⟩) | fail)
        all_goals
          go_wp2_with fail
          go_roundw
          case rel => exact ⟨0 + 1, by omega, by go_num, HEQ.out, l3⟩
          case measure => simp [intOf]; omega
      · have hki1 : (0 : Int) < (k : Int) := by omega
        have HEQ : Hid (Value.string (P ++ ⟨#[59]⟩ ++ nm ++ ⟨#[32]⟩ ++ F) = .string (joinT ((net.map fmtO).take (k + 1)) ⟨#[59]⟩)) := by
          show _ = _
          rw [HPN.out, HP1.out (by omega), HFX.out]
          congr 1
          refine ba_ext ?_
          simp
        have hQs : (P ++ (⟨#[59]⟩ : ByteArray)).size ≤ 2801 := by rw [ByteArray.size_append]; show _ + 1 ≤ _; omega
        go_wp2_with fail
        generalize P ++ (⟨#[59]⟩ : ByteArray) = P at *
        have ha1 : ¬ 9223372036854775807 < P.size + nm.size := by omega
        have ha2 : ¬ 9223372036854775807 < P.size + nm.size + 1 := by omega
        have ha3 : ¬ 9223372036854775807 < P.size + nm.size + 1 + F.size := by omega
        go_wp2_with fail
        go_region_held3 (fun W => Below w.heap.size w W) (first | exact ld | exact l3 | fail) (first | (go_at_call 15; (with_reducible refine (HC.out _ ld).mono ?_); rintro e w3 ⟨rfl, l3⟩) | fail)
        all_goals
          go_wp2_with fail
          go_roundw
          case rel => exact ⟨k + 1, by omega, by go_num, HEQ.out, l3⟩
          case measure => simp [intOf]; omega
    · have HE := Lib.hid (show k = net.length by omega)
      have HPE : Hid (joinT ((net.map fmtO).take k) ⟨#[59]⟩ = fmtN net) := by show _ = _; rw [HF.out, HE.out]
      generalize joinT ((net.map fmtO).take k) ⟨#[59]⟩ = P at *
      go_wp2_with fail
      go_ret
      exact ⟨ret_str HPE.out, lr⟩

set_option maxRecDepth 100000 in
set_option maxHeartbeats 1600000 in
theorem impl_FormatNetwork (v : Value) (net : List Ofc) (w : World) (hv : rd w w.heap.size v net) :
    Calls Tryd.prog 27 #[v] w fun e w' => e = .returned (.string (fmtN net)) ∧ Below w.heap.size w w' := by
  have HV := Lib.hid hv
  obtain ⟨A, n, c, rfl, hn, hc, hm, hr⟩ := hv
  subst hn
  have HR := Lib.hid hr; clear hr
  obtain ⟨i0, hi, hz0, hz1, hz2⟩ := info_parts Tryd.infoStr
  have l0 := Below.refl w.heap.size w
  go_enter Tryd.func27, Tryd.ntmps27
  go_wp2_with fail
  refine (impl_NetworkValid _ net _ HV.out).mono ?_
  rintro e w1 ⟨rfl, b1⟩
  have l1 := b1
  clear b1 l0
  cases hok : netOk net
  · have HF := Lib.hid (fmtN_no hok)
    clear hok
    go_wp2_with fail
    go_ret
    exact ⟨ret_str HF.out.symm, l1⟩
  have HOK := Lib.hid hok
  have h60 := (netOk_iff.1 hok).1.2
  have HF := Lib.hid (fmtN_yes hok)
  clear hok
  have hmk := make_row (P := Tryd.prog) 61 9 i0 _ Tryd.underlying61 hi hz0 net.length (by rw [hz2]; omega) (by omega)
  go_wp2_with fail
  have hf0 : filled 9 (w1.alloc (Obj.cells (madeCells #[.string ⟨#[]⟩] net.length) 9)) w1.heap.size net.length 0 (net.map fmtO) := filled.made w1 _ _ _ (by rw [size_madeCells]; exact (Nat.mul_one _).symm) _
  have hb0 : Below w1.heap.size w1 (w1.alloc (Obj.cells (madeCells #[.string ⟨#[]⟩] net.length) 9)) := (Below.refl _ _).alloc (Nat.le_refl _) _
  generalize w1.alloc (Obj.cells (madeCells #[.string ⟨#[]⟩] net.length) 9) = w0 at *
  clear hmk
  have HLN : Hid ((net.map fmtO).length = net.length) := by show _ = _; rw [List.length_map]
  go_loopw [14] (fun i wr => ∃ k : Nat, k ≤ net.length ∧ i = .int .i64 k ∧ Below w1.heap.size w1 wr ∧ filled 9 wr w1.heap.size net.length k (net.map fmtO)) (fun i _ => net.length - (intOf i).toNat)
  case atStart => exact ⟨0, Nat.zero_le _, rfl, hb0, hf0⟩
  case round =>
    obtain ⟨k, hk, rfl, hbl, hf⟩ := hrel
    obtain ⟨w2, rfl⟩ : ∃ w2 : World, w2 = wr := ⟨_, rfl⟩
    clear hf0 hb0
    have hs1 := l1.size
    by_cases hlt : k < net.length
    · obtain ⟨b, o, A2, k2, rfl, hb, hok, hu, y1, y2⟩ := HR.out.ofcU k hlt
      have y1 := y1 w2 (later_trans l1 hbl)
      have y2 := y2 w2 (later_trans l1 hbl)
      have hLk : (net.map fmtO)[k]'(by rw [HLN.out]; exact hlt) = fmtO net[k] := by simp
      have HSZ := Lib.hid (fmtO_size HOK.out (fmtO net[k]) (List.mem_map.2 ⟨_, List.getElem_mem hlt, rfl⟩))
      have HST := Lib.hid (fun (W : World) (hF : filled 9 W w1.heap.size net.length k (net.map fmtO)) => hF.step (by rw [HLN.out]; exact hlt) (by rw [HLN.out]; exact Nat.le_refl _) (ecs := [.string (fmtO net[k])]) (by rw [hLk]; exact ⟨by have := HSZ.out.1; unfold maxLen; omega, rfl⟩))
      have hnz := (name_size ((netOk_iff.1 HOK.out).2 k hlt).1).2
      have HU := Lib.hid hu
      clear hLk hu
      generalize net[k] = x at *
      obtain ⟨nm, rs⟩ := x
      simp only at hnz y1 y2 hok
      have HCR : Hid (∀ W, Below w.heap.size w W → Calls Tryd.prog 14 #[.slice A2 rs.length k2] W fun e W' => e = .returned (.string (fmtRu rs)) ∧ Below W.heap.size W W') := fun W hW => impl_FormatRules _ rs W (HU.out.on hW)
      have hfz := fmtRu_size rs
      obtain ⟨F, hF⟩ : ∃ F, fmtRu rs = F := ⟨_, rfl⟩
      have HFX : Hid (fmtO ⟨nm, rs⟩ = nm ++ ⟨#[32]⟩ ++ F) := by show _ = _; rw [← hF]; rfl
      rw [hF] at HCR hfz
      clear hF HU
      have hki : (k : Int) < (net.length : Int) := by omega
      have hki0 : (0 : Int) ≤ (k : Int) := by omega
      have hs2 := hbl.size
      obtain ⟨wb, hwb⟩ : ∃ u, u = w2.alloc (Obj.cells #[.string nm, .slice A2 rs.length k2] 82) := ⟨_, rfl⟩
      have q0 := box_cells hwb 0 (.string nm) rfl
      have q1 := box_cells hwb 1 (.slice A2 rs.length k2) rfl
      have lb := (box_later hwb).1
      have hne : w1.heap.size < w2.heap.size := by obtain ⟨cs, h1, _⟩ := hf; exact (Array.getElem?_eq_some_iff.1 h1).1
      have HFB := Lib.hid (hf.below lb)
      have HLB := Lib.hid (later_trans hbl lb)
      have HTB := Lib.hid (later_trans (later_trans l1 hbl) lb)
      have HWB := Lib.hid hwb; clear hwb hf
      have HIT : Hid (∀ W, Below wb.heap.size wb W → Calls Tryd.prog 14 #[.slice A2 rs.length k2] W fun e W' => e = .returned (.string F) ∧ Below W.heap.size W W') := fun W hW => HCR.out W (later_trans HTB.out hW)
      go_wp2_with fail
      rw [← HWB.out]
      have ld := later_drew (Below.refl wb.heap.size wb)
      have hwz : wb.heap.size = w2.heap.size + 1 := by rw [HWB.out]; simp
      have e0 := q0 _ ld
      have e1 := q1 _ ld
      have hs58 : nm.size + (⟨#[32]⟩ : ByteArray).size ≤ 9223372036854775807 := by show _ + 1 ≤ _; omega
      have hs59 : (nm ++ (⟨#[32]⟩ : ByteArray)).size + F.size ≤ 9223372036854775807 := by rw [ByteArray.size_append]; show _ + 1 + _ ≤ _; omega
      have hs60 : ¬ 9223372036854775807 < nm.size + 1 + F.size := by omega
      have hs61 : ¬ 9223372036854775807 < nm.size + 1 := by omega
      go_region_held3 (fun W => W.cell? ⟨w2.heap.size, 0, none⟩ = some (.string nm) ∧ W.cell? ⟨w2.heap.size, 1, none⟩ = some (.slice A2 rs.length k2)) (first | exact ⟨e0, e1⟩ | exact ⟨e03, e13⟩ | exact ⟨e04 _, e14 _⟩ | fail) (first | (go_at_call 14; (with_reducible refine (HIT.out _ ld).mono ?_); rintro e w3 ⟨rfl, b3⟩; have l3 := later_trans ld b3; have e03 := q0 w3 l3; have e13 := q1 w3 l3; have hf3 := HFB.out.below l3; obtain ⟨u0, g0⟩ := hf3.cell (j := k) (by show _ < _ * 1; omega); have f0 := hf3.free k; have e04 := (fun v : Value => (World.cell?_setCell_other w3 ⟨w1.heap.size, k, none⟩ ⟨w2.heap.size, 0, none⟩ v (fun e => by injection e; omega)).trans e03); have e14 := (fun v : Value => (World.cell?_setCell_other w3 ⟨w1.heap.size, k, none⟩ ⟨w2.heap.size, 1, none⟩ v (fun e => by injection e; omega)).trans e13)) | fail)
      all_goals
        have HF3 := Lib.hid hf3
        have HB3 := Lib.hid (later_trans HLB.out l3)
        clear hf3 g0 f0 e03 e13 e04 e14 b3 l3 e0 e1
        go_wp2_with fail
        go_roundw
        case rel =>
          have := HST.out w3 HF3.out
          rw [show k * El.size ByteArray = k from Nat.mul_one k, HFX.out] at this
          exact ⟨k + 1, by omega, by go_num, HB3.out.trans (setAll_below [.string _] w3 k _ (Nat.le_refl _)), this⟩
        case measure => simp [intOf]; omega
    · have HE := Lib.hid (show k = net.length by omega)
      have HO := Lib.hid ((HE.out ▸ hf : filled _ _ _ _ net.length _).own HLN.out.symm (Nat.le_refl _) (by unfold maxLen; omega))
      clear hf
      have l2 := later_trans l1 hbl
      have hjz := joinT_size (net.map fmtO) (⟨#[59]⟩ : ByteArray) 349 fun p hp => (fmtO_size HOK.out p hp).1
      rw [HLN.out] at hjz
      have hjz2 : net.length * (349 + (⟨#[59]⟩ : ByteArray).size) ≤ 8 * 350 := Nat.mul_le_mul h60 (by decide)
      have HJ := Lib.hid (join_own (sep := (⟨#[59]⟩ : ByteArray)) HO.out HLN.out.symm (by rw [HLN.out]; omega) (by omega))
      clear hjz hjz2
      go_wp2_with fail
      refine HJ.out.mono ?_
      rw [← HF.out]
      rintro e w3 ⟨rfl, b3⟩
      have l3 := later_trans l2 b3
      go_wp2_with fail
      go_ret
      exact ⟨rfl, l3⟩

end Go.Proofs.YtffbcfaahegglaaDoor

namespace Go.Proofs.YtffbcfaahegglaaDoor
open Go.RowKit Go.Shelf
attribute [local go_sem] Oper.semAt_some

/-- 'append' under a fence, of one element, to a row of the call's own; where the new row lies. -/
theorem wpListIn_append1At {α : Type} [Flat α] {F : Fence} {n : Nat} {P : Program} {w : World} {ops : Array Oper} {rest : List Oper} {o : Oper} {a : Act} {Q : Exit → Act → World → Prop} (hgd : o.guard = none) (s x : Operand) (t : TypeId)
    (ho : o.op = .call { callee := .builtin .append, args := #[s, x], argTypes := #[t, t] })
    (base : Nat) (e : TypeId) (i : TypeInfo) (z : Value) (bytes : Nat) (ht : P.underlying t = some (.slice e)) (hi : P.info? e = some i) (hz : i.zero = some z)
    (hsize : i.size = El.size α) (hby : i.bytes = bytes) (hzs : z.cells.size = El.size α) (hsz : 0 < El.size α)
    (v : Value) (xs : List α) (y : α) (hs : a.eval s = v) (hown : own e base w v xs)
    (ad : Addr) (c : Nat) (cs : List Value) (hx : a.eval x = .slice (some ad) 1 c) (hel : El.el w w.heap.size y cs) (hnews : ∀ j u, cs[j]? = some u → w.cell? (ad.add j) = some u)
    (h63 : xs.length + 1 ≤ maxLen) (hbytes : (xs.length + 1) * bytes ≤ 140737488355328) (hbase : base ≤ w.heap.size)
    (h : ∀ g cap w', own e base w' (.slice (some ⟨g, 0, none⟩) (xs.length + 1) cap) (xs ++ [y]) → w.grownBy w' v.ownBlock → (some g = v.ownBlock ∨ g = w.heap.size) → wpListIn F n P ops Q rest (a.put o.dst (.slice (some ⟨g, 0, none⟩) (xs.length + 1) cap)) w') : wpListIn F n P ops Q (o :: rest) a w := by
  obtain ⟨css, hrow, hl, he⟩ := hown
  refine wpListIn_append_own_at (nF := n) w hgd s x t ho base e i z (El.size α) bytes ht hi hz hsize hby hzs hsz v xs.length css.flatten hs hrow ad 1 c cs hx (by rw [El.len hel, Nat.one_mul]) hnews (El.one hel) h63 hbytes hbase ?_
  intro v' w' h2 h3 _ h5
  have hO : own e base w' v' (xs ++ [y]) := ⟨css ++ [cs], by simpa using h2, by simp [hl], fun k h1 h2 => by
    by_cases hk : k < xs.length
    · rw [List.getElem_append_left hk, List.getElem_append_left (by omega)]
      exact Flat.free (he k hk (by omega))
    · have hke : k = xs.length := by simp at h1; omega
      subst hke
      rw [List.getElem_append_right (Nat.le_refl _), List.getElem_append_right (by omega)]
      simpa [hl] using Flat.free hel⟩
  have hle : (xs ++ [y]).length = xs.length + 1 := by simp
  rcases hO.form with ⟨_, h0⟩ | ⟨g, cap, rfl, _⟩
  · simp at h0
  · rw [hle] at hO ⊢
    rw [hle] at h5
    refine h g cap w' hO h3 ?_
    rcases h5 with h5 | h5
    · exact .inl h5
    · injection h5 with h5
      exact .inr h5

theorem own_row {α : Type} [El α] {T B z : Nat} {w : World} {v : Value} {xs : List α} {row : Option Nat} (ho : own T B w v xs) (hz : z < B) (hr : ∀ r, row = some r → r = z ∨ B ≤ r ∧ ∃ o : Obj, w.heap[r]? = some o ∧ o.isCells = false) : v.ownBlock = none ∨ v.ownBlock ≠ row := by
  cases hb : v.ownBlock with
  | none => exact .inl rfl
  | some k =>
    refine .inr fun e => ?_
    have hk := (ho.blk k hb).1
    rcases hr k e.symm with h | ⟨_, o, ho1, ho2⟩
    · omega
    · obtain ⟨o', ho3, ho4⟩ := own_isCells ho hb
      rw [ho3] at ho1
      injection ho1 with ho1
      rw [ho1, ho2] at ho4
      cases ho4

/-- What lies between two rounds. -/
def pnI (h : Nat) (w0 : World) (B : Nat) (pre : List ByteArray) (W : World) : Prop :=
  (∃ v os, Boxed W (h + 1 + 1) 43 v ∧ isN 82 65 B W v (gotF partO pre) os) ∧ B ≤ W.heap.size ∧ allF partO pre = true ∧ pre.length ≤ 8 ∧ Boxed W h 43 (.slice none 0 0) ∧ Boxed W (h + 1) 4 (.bool false) ∧ Below h w0 W
/-- .. where a round has returned. -/
def pnX (h : Nat) (w0 : World) (pre : List ByteArray) (W : World) : Prop :=
  (allF partO pre = false ∨ 8 < pre.length) ∧ Boxed W h 43 (.slice none 0 0) ∧ Boxed W (h + 1) 4 (.bool false) ∧ Below h w0 W
theorem pnI_bears {h B z : Nat} {w0 : World} (hz : h + 1 + 1 < z) (hzB : z < B) (hs : h ≤ w0.heap.size) : Bears B z (pnI h w0 B) := by
  rintro pre A C row ⟨⟨v, os, hv, ho⟩, h0, h1, h2, h3, h4, h5⟩ hg hr
  have ne : ∀ k, k < z → some k ≠ row := fun k hk e => by
    rcases hr k e.symm with h | ⟨h, _⟩ <;> omega
  refine ⟨⟨v, os, hv.kept hg (ne _ (by omega)), ho.grown hg (own_row ho.1 hzB hr) fun k hk => own_row (ho.2.2.1 k hk (by have := ho.2.1; omega)).2 hzB hr⟩, Nat.le_trans h0 hg.size, h1, h2, h3.kept hg (ne _ (by omega)), h4.kept hg (ne _ (by omega)), h5.grown hg (Nat.le_trans hs h5.size) fun k e => ?_⟩
  rcases hr k e with h | ⟨h, _⟩ <;> omega
theorem pnX_bears {h B z : Nat} {w0 : World} (hz : h + 1 + 1 < z) (hzB : z < B) (hs : h ≤ w0.heap.size) : Bears B z (pnX h w0) := by
  rintro pre A C row ⟨h1, h3, h4, h5⟩ hg hr
  have ne : ∀ k, k < z → some k ≠ row := fun k hk e => by
    rcases hr k e.symm with h | ⟨h, _⟩ <;> omega
  refine ⟨h1, h3.kept hg (ne _ (by omega)), h4.kept hg (ne _ (by omega)), h5.grown hg (Nat.le_trans hs h5.size) fun k e => ?_⟩
  rcases hr k e with h | ⟨h, _⟩ <;> omega
theorem ne_of_lt {α : Type} [El α] {T B b : Nat} {w : World} {v : Value} {xs : List α} (h : own T B w v xs) (hb : b < B) : v.ownBlock = none ∨ v.ownBlock ≠ some b := by
  cases hv : v.ownBlock with
  | none => exact .inl rfl
  | some k => exact .inr fun e => by injection e with e; have := (h.blk k hv).1; omega
theorem isN.out {T1 T2 B : Nat} {w : World} {v : Value} {net : List Ofc} {os : List OfV} (h : isN T1 T2 B w v net os) (b : Nat) (u : Value) (hb : b < B) : isN T1 T2 B (w.setCell ⟨b, 0, none⟩ u) v net os :=
  h.grown (grownBy_setCell' w b u) (ne_of_lt h.1 hb) fun k hk => ne_of_lt (h.2.2.1 k hk (by have := h.2.1; omega)).2 hb
theorem isN.putD {T1 T2 B D : Nat} {w : World} {v : Value} {net : List Ofc} {os : List OfV} {ds : Option (List Deferred)} (h : isN T1 T2 B w v net os) (hD : w.heap[D]? = some (.deferred ds)) (o : Obj) : isN T1 T2 B (w.putObj D o) v net os :=
  h.grown (grownBy_putObj' w D o) (own_notD h.1 hD) fun k hk => own_notD (h.2.2.1 k hk (by have := h.2.1; omega)).2 hD
theorem partO_no {x : ByteArray} (h : cutAt 32 x = none) : partO x = none := by unfold partO; rw [h]; rfl
theorem partO_bad {x p q : ByteArray} (h : cutAt 32 x = some (p, q)) (hq : prOk q = false) : partO x = none := by unfold partO; rw [h]; simp [hq]
theorem partO_good {x p q : ByteArray} (h : cutAt 32 x = some (p, q)) (hq : prOk q = true) : partO x = some ⟨p, prR q⟩ := by unfold partO; rw [h]; simp [hq]
theorem allF_none {ps : List ByteArray} {x : ByteArray} (h : partO x = none) : allF partO (ps ++ [x]) = false := by rw [allF_snoc, h]; simp

set_option maxRecDepth 100000 in
set_option maxHeartbeats 3200000 in
theorem impl_ParseNetwork (t : ByteArray) (w : World) (ht : t.size ≤ maxLen) :
    Calls Tryd.prog 22 #[.string t] w fun e w' => ∃ v', e = .returned (.tuple #[v', .bool (pnOk t)]) ∧ ownN 82 65 w.heap.size w' v' (pnN t) ∧ Below w.heap.size w w' := by
  refine (callsIn_wide (n := 9)).1 ?_
  have hn9 : 1 ≤ 9 := by omega
  refine callsIn_of_wp_marks Tryd.func22 rfl trivial ?_ rfl
  simp only [Tryd.ntmps22, List.size_toArray, List.length_cons, List.length_nil, Nat.reduceAdd, Nat.reduceSub, Array.replicate_succ, Array.replicate_zero, List.push_toArray, List.append_toArray, List.nil_append, List.cons_append]
  have HO : Hid (pnOk t = pnOk t) := rfl
  have HR : Hid (pnN t = if pnOk t then gotF partO (partsB 59 t) else []) := rfl
  have HS := fun W => strings_SplitSeq t 59 W
  have b0 := ((Boxed.new w 43 (.slice none 0 0)).alloc (Obj.cells #[.bool false] 4)).alloc (Obj.cells #[.slice none 0 0] 43)
  have b1 := (Boxed.new (w.alloc (Obj.cells #[.slice none 0 0] 43)) 4 (.bool false)).alloc (Obj.cells #[.slice none 0 0] 43)
  have b2 := Boxed.new ((w.alloc (Obj.cells #[.slice none 0 0] 43)).alloc (Obj.cells #[.bool false] 4)) 43 (.slice none 0 0)
  have l3 : Below w.heap.size w (((w.alloc (Obj.cells #[.slice none 0 0] 43)).alloc (Obj.cells #[.bool false] 4)).alloc (Obj.cells #[.slice none 0 0] 43)) := (((Below.refl _ w).alloc (Nat.le_refl _) _).alloc (by simp) _).alloc (by simp; omega) _
  rw [World.size_alloc] at b1 b2
  rw [World.size_alloc] at b2
  have B0 := Lib.hid b0; have B1 := Lib.hid b1; have B2 := Lib.hid b2; have L3 := Lib.hid l3
  clear b0 b1 b2 l3
  gi_wp2_with (refine ⟨trivial, ?_⟩; gi_at_call 48; refine (callsIn_wide.2 (HS _)).mono ?_; rintro e w6 ⟨rfl, hcap, hb6, hz6⟩)
  have hz3 : (((w.alloc (Obj.cells #[.slice none 0 0] 43)).alloc (Obj.cells #[.bool false] 4)).alloc (Obj.cells #[.slice none 0 0] 43)).heap.size = w.heap.size + 1 + 1 + 1 := by simp
  generalize (((w.alloc (Obj.cells #[.slice none 0 0] 43)).alloc (Obj.cells #[.bool false] 4)).alloc (Obj.cells #[.slice none 0 0] 43)) = w3 at *
  rw [hz3] at hcap hz6
  have x0 : Boxed w6 (w.heap.size) 43 (.slice none 0 0) := (hb6.block _ (by omega)).trans B0.out
  have x1 : Boxed w6 (w.heap.size + 1) 4 (.bool false) := (hb6.block _ (by omega)).trans B1.out
  have x2 : Boxed w6 (w.heap.size + 1 + 1) 43 (.slice none 0 0) := (hb6.block _ (by omega)).trans B2.out
  have l6 : Below w.heap.size w w6 := L3.out.trans (hb6.mono (by omega))
  clear B0 B1 B2 L3 hb6 HS hz3
  obtain ⟨i0, hi, hi0, hi1, hi2⟩ := info_parts Tryd.infoOfc
  refine range_iterZ (F := Fence.wide) (n := 9) rfl (by omega) (gf := 105) (lb := #[.pointer (some ⟨w.heap.size + 1 + 1 + 1 + 1, 0, none⟩), .pointer (some ⟨w.heap.size + 1 + 1 + 1, 0, none⟩), .pointer (some ⟨w.heap.size + 1 + 1 + 1 + 2, 0, none⟩)]) rfl trivial (enters_of Tryd.func105 (by kernel_rfl) rfl)
    (split_iter 8 (w.heap.size + 1 + 1 + 1) (by omega) 59 t w6 hcap ht) (fun k hk => by simp at hk; omega) (by omega) (fun _ => rfl)
    (pnI w.heap.size w w6.heap.size) (pnX w.heap.size w) (pnI_bears (by omega) (by omega) (Nat.le_refl _)) (pnX_bears (by omega) (by omega) (Nat.le_refl _))
    ⟨⟨_, [], x2, isN.none_ (own.nil_ _ _ _)⟩, Nat.le_refl _, rfl, Nat.zero_le _, x0, x1, l6⟩
    (fun x => { tmps := #[.string t, undef, .pointer (some ⟨w.heap.size, 0, none⟩), .pointer (some ⟨w.heap.size + 1, 0, none⟩), .pointer (some ⟨w.heap.size + 1 + 1, 0, none⟩), .string x, undef, undef, undef, undef, undef, .string t, .func (.func 105) #[] #[.pointer (some ⟨w.heap.size + 1 + 1 + 1 + 1, 0, none⟩), .pointer (some ⟨w.heap.size + 1 + 1 + 1, 0, none⟩), .pointer (some ⟨w.heap.size + 1 + 1 + 1 + 2, 0, none⟩)], .string x, undef, undef, undef, undef, undef, undef, undef, undef, undef, undef, undef, undef, undef, undef, undef, undef, undef, undef, undef, undef, undef, undef, undef, undef, undef, undef, undef, undef, undef, undef], defers := [] }) ?assign ?body ?done ?stop
  case assign =>
    intro l x W K hK
    gi_wp2
    exact hK
  case body =>
    rintro l pre x W ⟨⟨v, os, hv, ho⟩, hBW, hall, hlen, y0, y1, hB⟩ _ hx
    have hd : 1 ≤ 9 - 1 - 1 := by omega
    have HC := strings_Cut1 x 32 W hx
    have y0c := Lib.hid y0; have y1c := Lib.hid y1; have hvc := Lib.hid hv; have hoc := Lib.hid ho
    rcases hcx : cutAt 32 x with _ | ⟨p, q⟩
    · have HCn : Calls Tryd.prog 49 #[.string x, .string ⟨#[32]⟩] W fun e w' => Below W.heap.size W w' ∧ e = .returned (.tuple #[.string x, .string ⟨#[]⟩, .bool false]) := HC.mono fun e w' h => by
        obtain ⟨hb, ⟨_, he⟩ | ⟨p, q, h, _⟩⟩ := h
        · exact ⟨hb, he⟩
        · rw [hcx] at h; cases h
      have HP : Hid (allF partO (pre ++ [x]) = false) := allF_none (partO_no hcx)
      clear HC hcx y0 y1 hv ho
      gi_wp2_with (refine ⟨trivial, ?_⟩; gi_at_call 49; refine (CallsIn.inRound l (callsIn_wide.2 HCn)).mono ?_; rintro e W2 ⟨hb, rfl⟩; have z0 : Boxed W2 _ _ _ := (hb.block _ y0c.out.lt).trans y0c.out; have z1 : Boxed W2 _ _ _ := (hb.block _ y1c.out.lt).trans y1c.out; have c0 := z0.cell; have c1 := z1.cell; have f0 := z0.frozen; have f1 := z1.frozen)
      obtain ⟨r0, r1, r2, r3⟩ := set_two z0 z1 (.slice none 0 0) (.bool false)
      exact ⟨(keeps_below hb).trans r2, .inl HP.out, r0, r1, (hB.trans (hb.mono hB.size)).trans (r3 _ (Nat.le_refl _))⟩
    · have HCn : Calls Tryd.prog 49 #[.string x, .string ⟨#[32]⟩] W fun e w' => Below W.heap.size W w' ∧ e = .returned (.tuple #[.string p, .string q, .bool true]) := HC.mono fun e w' h => by
        obtain ⟨hb, ⟨h, _⟩ | ⟨p', q', h, he⟩⟩ := h
        · rw [hcx] at h; cases h
        · rw [hcx] at h; cases h; exact ⟨hb, he⟩
      have hpq := cut_sizes hcx
      have hgl := gotF_len pre hall
      obtain ⟨A, m, cp, rfl, hm, _, _, _⟩ := ho.1.rd
      have hol := ho.2.1
      clear HC y0 y1 hv ho
      by_cases h20 : m = 8
      · have hm20 : ((m : Int) == 8) = true := by simp [h20]
        have HL : Hid (8 < (pre ++ [x]).length) := by show _ < _; rw [List.length_append]; show 8 < pre.length + 1; omega
        clear h20 hm hgl hpq hcx hol
        gi_wp2_with (refine ⟨trivial, ?_⟩; gi_at_call 49; refine (CallsIn.inRound l (callsIn_wide.2 HCn)).mono ?_; rintro e W2 ⟨hb, rfl⟩; have z0 : Boxed W2 _ _ _ := (hb.block _ y0c.out.lt).trans y0c.out; have z1 : Boxed W2 _ _ _ := (hb.block _ y1c.out.lt).trans y1c.out; have z2 : Boxed W2 _ _ _ := (hb.block _ hvc.out.lt).trans hvc.out; have c0 := z0.cell; have c1 := z1.cell; have f0 := z0.frozen; have f1 := z1.frozen; have c2 := z2.cell)
        obtain ⟨r0, r1, r2, r3⟩ := set_two z0 z1 (.slice none 0 0) (.bool false)
        exact ⟨(keeps_below hb).trans r2, .inr HL.out, r0, r1, (hB.trans (hb.mono hB.size)).trans (r3 _ (Nat.le_refl _))⟩
      · have hm20 : ((m : Int) == 8) = false := beq_eq_false_iff_ne.2 (by omega)
        have HPL : Hid (pre.length ≤ 7) := by show _ ≤ _; omega
        have HPR : ∀ b, prOk q = b → Hid (∀ W, Calls Tryd.prog 17 #[.string q] W fun e W' => ∃ v', e = .returned (.tuple #[v', .bool b]) ∧ own 65 W.heap.size W' v' (prR q) ∧ Below W.heap.size W W') := fun b hb W => by
          rw [← hb]; exact impl_ParseRules q W (Nat.le_trans hpq.2 hx)
        cases hq : prOk q
        · have HPQ := HPR _ hq
          have HP : Hid (allF partO (pre ++ [x]) = false) := allF_none (partO_bad hcx hq)
          clear h20 hm hgl hpq HPR hq hcx hol
          gi_wp2_with (first | (refine ⟨trivial, ?_⟩; gi_at_call 49; refine (CallsIn.inRound l (callsIn_wide.2 HCn)).mono ?_; rintro e W2 ⟨hb, rfl⟩; have z0 : Boxed W2 _ _ _ := (hb.block _ y0c.out.lt).trans y0c.out; have z1 : Boxed W2 _ _ _ := (hb.block _ y1c.out.lt).trans y1c.out; have z2 : Boxed W2 _ _ _ := (hb.block _ hvc.out.lt).trans hvc.out; have c2 := z2.cell) | (refine ⟨trivial, ?_⟩; gi_at_call 17; refine (CallsIn.inRound l (callsIn_wide.2 (HPQ.out W2))).mono ?_; rintro e W3 ⟨vq, rfl, hoq, hb3⟩; have t0 : Boxed W3 _ _ _ := (hb3.block _ z0.lt).trans z0; have t1 : Boxed W3 _ _ _ := (hb3.block _ z1.lt).trans z1; have d0 := t0.cell; have d1 := t1.cell; have e0 := t0.frozen; have e1 := t1.frozen))
          obtain ⟨r0, r1, r2, r3⟩ := set_two t0 t1 (.slice none 0 0) (.bool false)
          exact ⟨((keeps_below hb).trans (keeps_below hb3)).trans r2, .inl HP.out, r0, r1, ((hB.trans (hb.mono hB.size)).trans (hb3.mono (by have := hB.size; have := hb.size; omega))).trans (r3 _ (Nat.le_refl _))⟩
        · have HPQ := HPR _ hq
          have HP := Lib.hid (partO_good hcx hq)
          have hg7 : os.length ≤ 7 := by omega
          have HYN : Hid (p.size ≤ maxLen) := by show _ ≤ _; omega
          clear h20 hm hgl hpq HPR hq hcx hol
          gi_wp2_with (first | (refine ⟨trivial, ?_⟩; gi_at_call 49; refine (CallsIn.inRound l (callsIn_wide.2 HCn)).mono ?_; rintro e W2 ⟨hb, rfl⟩; have z0 : Boxed W2 _ _ _ := (hb.block _ y0c.out.lt).trans y0c.out; have z1 : Boxed W2 _ _ _ := (hb.block _ y1c.out.lt).trans y1c.out; have z2 : Boxed W2 _ _ _ := (hb.block _ hvc.out.lt).trans hvc.out; have c2 := z2.cell) | (refine ⟨trivial, ?_⟩; gi_at_call 17; refine (CallsIn.inRound l (callsIn_wide.2 (HPQ.out W2))).mono ?_; rintro e W3 ⟨vq, rfl, hoq, hb3⟩; have t2 : Boxed W3 _ _ _ := (hb3.block _ z2.lt).trans z2; have d2 := t2.cell; obtain ⟨Aq, nq, cq, rfl, -, -, -, -⟩ := hoq.rd; have o3 := (hoc.out.below hb).below hb3; have hs2 := hb.size; have hs3 := hb3.size; have HOQ := Lib.hid hoq; clear hoq) | (gi_at_builtin; refine wpListIn_append1At (α := OfV) rfl (.tmp 34) (.tmp 38) 43 rfl w6.heap.size 82 i0 _ 40 Tryd.underlying43 hi hi0 hi1 hi2 rfl (by decide) (.slice A m cp) os ⟨p, .slice Aq nq cq⟩ rfl (o3.1.alloc _) ⟨W3.heap.size, 0, none⟩ 1 [.string p, .slice Aq nq cq] rfl ⟨rfl, HYN.out, rfl⟩ (news_at W3 _ [.string p, .slice Aq nq cq]) (by unfold maxLen; omega) (by omega) (by simp; omega) ?_; intro g5 c5 w5 o5 hg5 ha5; have u2 : Boxed w5 _ _ _ := (t2.alloc _).kept hg5 (fun e => by have := (o3.1.blk _ e.symm).1; omega); have e2 := u2.cell; have g2 := u2.frozen))
          have HK := Lib.hid hg5.size
          have hk5 : ∀ k, k < w6.heap.size → k ≠ w.heap.size + 1 + 1 → (w5.setCell ⟨w.heap.size + 1 + 1, 0, none⟩ (.slice (some ⟨g5, 0, none⟩) (os.length + 1) c5)).heap[k]? = W.heap[k]? := fun k h1 h2 => by
            have a1 := (grownBy_setCell' w5 (w.heap.size + 1 + 1) (.slice (some ⟨g5, 0, none⟩) (os.length + 1) c5)).block k (by have := hg5.size; simp at this; omega) (fun e => h2 (by injection e))
            have a2 := hg5.block k (by simp; omega) (fun e => by have := (o3.1.blk _ e.symm).1; omega)
            exact a1.trans (a2.trans ((Below.heap_alloc W3 _ k (by omega)).trans ((hb3.block k (by omega)).trans (hb.block k (by omega)))))
          have hko : KeepsOthers W (w5.setCell ⟨w.heap.size + 1 + 1, 0, none⟩ (.slice (some ⟨g5, 0, none⟩) (os.length + 1) c5)) := ((((keeps_below hb).trans (keeps_below hb3)).trans (KeepsOthers.alloc W3 _)).trans (KeepsOthers.of_grownBy hg5 fun j o ej hj => by
            obtain ⟨o', h1, h2⟩ := own_isCells (o3.1.alloc (Obj.cells #[.string p, .slice Aq nq cq] 82)) ej
            rw [h1] at hj; injection hj with hj; rw [← hj]; exact h2)).trans (KeepsOthers.setCell _ _ _)
          have hN5 := isN.snoc (o3.below ((Below.refl W3.heap.size W3).alloc (Nat.le_refl _) (Obj.cells #[.string p, .slice Aq nq cq] 82))) ((HOQ.out.base_ (show w6.heap.size ≤ W2.heap.size by omega)).alloc _) (apart_gt HOQ.out hoc.out.1 hs2) (fun k hk => apart_gt HOQ.out (hoc.out.2.2.1 k hk (by have := hoc.out.2.1; omega)).2 hs2) o5 hg5 ha5
          refine ⟨hko, fun k hk => hk5 k (by simp at hk; omega) (by simp at hk; omega), ⟨_, os ++ [⟨p, .slice Aq nq cq⟩], u2.set _, ?_⟩, ?_, ?_, ?_, ?_, ?_, ?_⟩
          · rw [gotF_snoc HP.out]
            exact hN5.out (w.heap.size + 1 + 1) _ (by omega)
          · have := hg5.size; simp at this; simp; omega
          · rw [allF_snoc, hall, HP.out]; rfl
          · have := HPL.out; rw [List.length_append]; show pre.length + 1 ≤ 8; omega
          · exact (hk5 _ (by omega) (by omega)).trans y0c.out
          · exact (hk5 _ (by omega) (by omega)).trans y1c.out
          · refine hB.trans ⟨?_, ?_, ?_, ?_, fun k h1 => hk5 k (by omega) (by omega)⟩
            · exact hg5.os.trans (hb3.os.trans hb.os)
            · exact hg5.tape.trans (hb3.tape.trans hb.tape)
            · exact hg5.output.trans (hb3.output.trans hb.output)
            · exact hko.1
  case done =>
    rintro D ys W hD rfl ⟨⟨v, os, hv, ho⟩, hBW, hall, hlen, y0, y1, hB⟩ hK
    have hPS : pnOk t = netOk (gotF partO (partsB 59 t)) := by unfold pnOk; rw [hall, decide_eq_true hlen]; rfl
    obtain ⟨A, m, cp, rfl, -, -, -, -⟩ := ho.rd
    have HV := impl_NetworkValid (.slice A m cp) (gotF partO (partsB 59 t)) W ho.rd
    have y0c := Lib.hid y0; have y1c := Lib.hid y1; have hvc := Lib.hid hv; have hoc := Lib.hid ho
    have c2 := hv.cell
    clear hall hlen ho hv y0 y1
    cases hro : netOk (gotF partO (partsB 59 t))
    · rw [hro] at HV hPS
      have HPS := Lib.hid hPS
      clear hPS hro
      dsimp only
      gi_wp2_with (refine ⟨trivial, ?_⟩; gi_at_call 29; refine (callsIn_wide.2 HV).mono ?_; rintro e W2 ⟨rfl, hb⟩; have z0 : Boxed W2 _ _ _ := (hb.block _ y0c.out.lt).trans y0c.out; have z1 : Boxed W2 _ _ _ := (hb.block _ y1c.out.lt).trans y1c.out; have z2 : Boxed W2 _ _ _ := (hb.block _ hvc.out.lt).trans hvc.out; have c0 := z0.cell; have c1 := z1.cell; have c2 := z2.cell; have f0 := z0.frozen; have f1 := z1.frozen)
      obtain ⟨r0, r1, r2, r3⟩ := set_two z0 z1 (.slice none 0 0) (.bool false)
      have hD2 : ((W2.setCell ⟨w.heap.size, 0, none⟩ (.slice none 0 0)).setCell ⟨w.heap.size + 1, 0, none⟩ (.bool false)).heap[D]? = some (.deferred (some [])) := r2.same _ _ ((keeps_below hb).same _ _ hK rfl) rfl
      have k0 := (r0.kept (grownBy_putObj' ((W2.setCell ⟨w.heap.size, 0, none⟩ (.slice none 0 0)).setCell ⟨w.heap.size + 1, 0, none⟩ (.bool false)) D (.deferred none)) (fun e => by injection e; omega)).cell
      have k1 := (r1.kept (grownBy_putObj' ((W2.setCell ⟨w.heap.size, 0, none⟩ (.slice none 0 0)).setCell ⟨w.heap.size + 1, 0, none⟩ (.bool false)) D (.deferred none)) (fun e => by injection e; omega)).cell
      have hBz : Below w.heap.size w (((W2.setCell ⟨w.heap.size, 0, none⟩ (.slice none 0 0)).setCell ⟨w.heap.size + 1, 0, none⟩ (.bool false)).putObj D (.deferred none)) := ((hB.trans (hb.mono hB.size)).trans (r3 _ (Nat.le_refl _))).grown (grownBy_putObj' _ _ _) (by have := ((hB.trans (hb.mono hB.size)).trans (r3 _ (Nat.le_refl _))).size; omega) (fun r e => by injection e; omega)
      refine ⟨by simp, .inl ⟨_, _, rfl, run_takeDeferred hD2, ?_⟩⟩
      refine ⟨.tuple #[.slice none 0 0, .bool false], by simp [results, Tryd.results22, go_sem, k0, k1], _, by rw [HPS.out], by rw [HR.out, HPS.out]; exact ⟨[], isN.none_ (own.nil_ _ _ _)⟩, hBz⟩
    · rw [hro] at HV hPS
      have HPS := Lib.hid hPS
      clear hPS hro
      dsimp only
      gi_wp2_with (refine ⟨trivial, ?_⟩; gi_at_call 29; refine (callsIn_wide.2 HV).mono ?_; rintro e W2 ⟨rfl, hb⟩; have z0 : Boxed W2 _ _ _ := (hb.block _ y0c.out.lt).trans y0c.out; have z1 : Boxed W2 _ _ _ := (hb.block _ y1c.out.lt).trans y1c.out; have z2 : Boxed W2 _ _ _ := (hb.block _ hvc.out.lt).trans hvc.out; have c0 := z0.cell; have c1 := z1.cell; have c2 := z2.cell; have f0 := z0.frozen; have f1 := z1.frozen)
      obtain ⟨r0, r1, r2, r3⟩ := set_two z0 z1 (.slice A m cp) (.bool true)
      have o2 := hoc.out.below hb
      have oz := (o2.out w.heap.size (.slice A m cp) (by omega)).out (w.heap.size + 1) (.bool true) (by omega)
      have hD2 : ((W2.setCell ⟨w.heap.size, 0, none⟩ (.slice A m cp)).setCell ⟨w.heap.size + 1, 0, none⟩ (.bool true)).heap[D]? = some (.deferred (some [])) := r2.same _ _ ((keeps_below hb).same _ _ hK rfl) rfl
      have k0 := (r0.kept (grownBy_putObj' ((W2.setCell ⟨w.heap.size, 0, none⟩ (.slice A m cp)).setCell ⟨w.heap.size + 1, 0, none⟩ (.bool true)) D (.deferred none)) (fun e => by injection e; omega)).cell
      have k1 := (r1.kept (grownBy_putObj' ((W2.setCell ⟨w.heap.size, 0, none⟩ (.slice A m cp)).setCell ⟨w.heap.size + 1, 0, none⟩ (.bool true)) D (.deferred none)) (fun e => by injection e; omega)).cell
      have hBz : Below w.heap.size w (((W2.setCell ⟨w.heap.size, 0, none⟩ (.slice A m cp)).setCell ⟨w.heap.size + 1, 0, none⟩ (.bool true)).putObj D (.deferred none)) := ((hB.trans (hb.mono hB.size)).trans (r3 _ (Nat.le_refl _))).grown (grownBy_putObj' _ _ _) (by have := ((hB.trans (hb.mono hB.size)).trans (r3 _ (Nat.le_refl _))).size; omega) (fun r e => by injection e; omega)
      refine ⟨by simp, .inl ⟨_, _, rfl, run_takeDeferred hD2, ?_⟩⟩
      refine ⟨.tuple #[.slice A m cp, .bool true], by simp [results, Tryd.results22, go_sem, k0, k1], _, by rw [HPS.out], by rw [HR.out, HPS.out, if_pos rfl]; exact ⟨os, (oz.putD hD2 (.deferred none)).base_ (by omega)⟩, hBz⟩
  case stop =>
    rintro D pre W hD hpre ⟨hbad, y0, y1, hB⟩ hK
    have hPS : pnOk t = false := by
      unfold pnOk
      rcases hbad with h | h
      · rw [allF_prefix hpre h]; rfl
      · have := hpre.length_le
        rw [decide_eq_false (by omega)]
        simp
    have HPS := Lib.hid hPS
    have k0 := (y0.kept (grownBy_putObj' W D (.deferred none)) (fun e => by injection e; omega)).cell
    have k1 := (y1.kept (grownBy_putObj' W D (.deferred none)) (fun e => by injection e; omega)).cell
    have hBz : Below w.heap.size w (W.putObj D (.deferred none)) := hB.grown (grownBy_putObj' _ _ _) hB.size (fun r e => by injection e; omega)
    clear hPS hbad hpre
    dsimp only
    gi_wp2
    refine ⟨by simp, .inl ⟨_, _, rfl, run_takeDeferred hK, ?_⟩⟩
    refine ⟨.tuple #[.slice none 0 0, .bool false], by simp [results, Tryd.results22, go_sem, k0, k1], _, by rw [HPS.out], by rw [HR.out, HPS.out]; exact ⟨[], isN.none_ (own.nil_ _ _ _)⟩, hBz⟩
end Go.Proofs.YtffbcfaahegglaaDoor
