/- B13 B14 -/
import Derived.Test.YtffbcfaahegglaaDoorQ16
import Derived.Test.YtffbcfaahegglaaDoorQ7
namespace Go.Proofs.YtffbcfaahegglaaDoor
open Go.RowKit

theorem rd.rows {α : Type} [El α] {w : World} {B n c : Nat} {A : Option Addr} {xs : List α} (h : rd w B (.slice A n c) xs) : rdA w B A xs := by
  obtain ⟨A', n', c', h1, _, _, _, hr⟩ := h
  injection h1 with h1 h2 h3
  subst h1
  exact hr
theorem row_le_flat {α : Type} {xss : List (List α)} {k : Nat} (h : k < xss.length) : xss[k].length ≤ xss.flatten.length := (List.sublist_flatten_of_mem (List.getElem_mem h)).length_le
theorem kept_row_len (f : Ltr → Int) (xss : List (List Ltr)) (n d : Nat) (h : d < (keptTo f xss n).length) : (keptTo f xss n)[d].length ≤ xss.flatten.length := by
  rw [keptTo_get]
  have hd : d < xss.length := by rw [keptTo_len] at h; exact h
  split
  · rw [List.getD_eq_getElem?_getD, List.getElem?_eq_getElem hd]
    exact Nat.le_trans (kpRow_len _ _ _) (row_le_flat hd)
  · simp
theorem add_row_len (f : Ltr → Int) (base : List (List Ltr)) (zs : List Ltr) (d B : Nat) (h : d < (addTo f base zs).length) (hb : ∀ d (h : d < base.length), base[d].length ≤ B) : (addTo f base zs)[d].length ≤ B + zs.length := by
  have hd : d < base.length := by rw [addTo_len] at h; exact h
  rw [addTo_get _ _ _ _ _ hd, List.length_append]
  have := hb d hd
  have := kpRow_len f d zs
  omega



end Go.Proofs.YtffbcfaahegglaaDoor

namespace Go.Proofs.YtffbcfaahegglaaDoor
open Go.RowKit


end Go.Proofs.YtffbcfaahegglaaDoor
