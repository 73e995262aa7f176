/- QE -/
import Derived.Maps.OwnIn
import Derived.Test.YtpinkbodbedajaaGreatDoorQ20
import Derived.Test.YtpinkbodbedajaaGreatDoorQ21
import Derived.Test.YtpinkbodbedajaaGreatDoorQ16
namespace Go.Proofs.YtpinkbodbedajaaGreatDoor
open Go.RowKit Go.Shelf
attribute [local go_sem] Oper.semAt_some

theorem ne_of_lt {α : Type} [El α] {T B b : Nat} {w : World} {v : Value} {xs : List α} (h : own T B w v xs) (hb : b < B) : v.ownBlock = none ∨ v.ownBlock ≠ some b := by
  cases hv : v.ownBlock with
  | none => exact .inl rfl
  | some k => exact .inr fun e => by injection e with e; have := (h.blk k hv).1; omega
theorem isN.out {T1 T2 B : Nat} {w : World} {v : Value} {net : List Ofc} {os : List OfV} (h : isN T1 T2 B w v net os) (b : Nat) (u : Value) (hb : b < B) : isN T1 T2 B (w.setCell ⟨b, 0, none⟩ u) v net os :=
  h.grown (grownBy_setCell' w b u) (ne_of_lt h.1 hb) fun k hk => ne_of_lt (h.2.2.1 k hk (by have := h.2.1; omega)).2 hb
end Go.Proofs.YtpinkbodbedajaaGreatDoor
