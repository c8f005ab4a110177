/-
  The walk of SpaceOver.
-/
import Derived.Test.YtfbcdmhmpfijjaaGreatDoorQR
import Derived.Test.YtfbcdmhmpfijjaaGreatDoorQR3
namespace Go.Proofs.YtfbcdmhmpfijjaaGreatDoor
open Go Go.RowKit

theorem OpsB.mono {w : World} {B B' : Nat} {a : Option Addr} {len : Nat} {os : Nat → OpV} (h : OpsB w B a len os) (hb : B ≤ B') : OpsB w B' a len os :=
  ⟨h.1, fun i hi => by
    obtain ⟨x, h1, h2, h3, h4⟩ := h.2 i hi
    exact ⟨x, h1, by omega, h3, fun y hy h0 => by have := h4 y hy h0; omega⟩⟩
theorem OpsB.is {w : World} {B : Nat} {a : Option Addr} {len : Nat} {os : Nat → OpV} (h : OpsB w B a len os) : IsOps w a len os :=
  ⟨h.1, fun i hi => by
    obtain ⟨x, h1, _, h3, _⟩ := h.2 i hi
    exact ⟨x, h1, h3⟩⟩

theorem at_only {w w' : World} {lo hi k : Nat} {o : Obj} (ho : Only lo hi w w') (h : w.heap[k]? = some o) (hk : k < lo ∨ hi ≤ k) : w'.heap[k]? = some o := (ho.block _ (Array.getElem?_eq_some_iff.1 h).1 hk).trans h
end Go.Proofs.YtfbcdmhmpfijjaaGreatDoor
