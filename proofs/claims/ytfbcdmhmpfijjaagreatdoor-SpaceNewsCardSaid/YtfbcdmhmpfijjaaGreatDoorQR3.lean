/-
  The walks of space.All and of its iterator.
-/
import Derived.Test.YtfbcdmhmpfijjaaGreatDoorQK
import Derived.Shelf.Abstract
namespace Go.Proofs.YtfbcdmhmpfijjaaGreatDoor
open Go Go.RowKit

attribute [local go_sem] Oper.semAt_some

theorem sall_any (p : Addr) (w : World) :
    Calls Tryz.prog 75 #[.pointer (some p)] w fun e w' => e = .returned (.func (.func 121) #[] #[.pointer (some ⟨w.heap.size, 0, none⟩)]) ∧ w' = w.alloc (.cells #[.pointer (some p)] 34) := by
  go_enter Tryz.func75, Tryz.ntmps75
  go_wp2
  go_ret
  exact ⟨rfl, rfl⟩

theorem only_put {w : World} {l : Nat} (o : Obj) : Only l (l + 1) w (w.putObj l o) :=
  ⟨rfl, rfl, rfl, by simp, fun k _ hk2 => World.putObj_heap_other (by omega)⟩

/-- The four blocks from B on lie as they lay. -/
def Kept4 (B : Nat) (w w' : World) : Prop := ∀ k, B ≤ k → k < B + 4 → w'.heap[k]? = w.heap[k]?
end Go.Proofs.YtfbcdmhmpfijjaaGreatDoor
