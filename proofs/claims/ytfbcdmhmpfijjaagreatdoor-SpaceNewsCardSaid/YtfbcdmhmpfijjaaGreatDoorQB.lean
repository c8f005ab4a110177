/-
  The walks of (*bitmap.Map).Reset, Copy, All, and of the iterator's own loop.
-/
import Derived.Test.YtfbcdmhmpfijjaaGreatDoorQW4
import Derived.Lib.SliceRun
import Derived.Deep.RegionHeld3
import Derived.Deep.RegionLaw
namespace Go.Proofs.YtfbcdmhmpfijjaaGreatDoor
open Go Go.RowKit

/-! ### Reset -/
theorem only_setCells {lo hi g : Nat} {a : World} (hg : lo ≤ g ∧ g < hi) : ∀ (vs : List Value) (o : Nat) (w : World), Only lo hi a w → Only lo hi a (w.setCells g o vs)
  | [], _, _, h => h
  | v :: r, o, _, h => only_setCells hg r (o + 1) _ (h.setCell (.inl hg) v)

/-! ### Copy -/
/-- An append of which the run is known, as one step of a region that draws its order. -/
theorem step_append_eq {P : Program} {ops : Array Oper} {o : Oper} {a : Act} {w : World} {K : Act → World → Prop} {Q : Exit → Act → World → Prop} {E : Prop}
    (hg : o.guard = none) (s x : Operand) (t : TypeId) (hop : o.op = Op.call { callee := Callee.builtin Builtin.append, args := #[s, x], argTypes := #[t, t] })
    (sv xv v' : Value) (w' : World) (hs : a.eval s = sv) (hx : a.eval x = xv) (hrun : (Builtin.append_ #[t, t] o.type #[sv, xv]).run P w = .ok v' w') (hK : K (a.put o.dst v') w') :
    if Region.wanted o (yielded ops a.tmps) = true then Oper.wp P o a w K Q else E := by
  have hw : Region.wanted o (yielded ops a.tmps) = true := by simp [Region.wanted, hg]
  rw [if_pos hw]
  unfold Oper.wp
  simp [execOp, hop, resolve, invoke, builtin, hs, hx, hrun, Result.andThen]
  exact hK

/-! ### All -/
set_option maxRecDepth 2000 in
set_option maxHeartbeats 400000 in
theorem all_any (p : Addr) (w : World) :
    Calls Tryz.prog 79 #[.pointer (some p)] w fun e w' => e = .returned (.func (.func 124) #[] #[.pointer (some ⟨w.heap.size, 0, none⟩)]) ∧ w' = w.alloc (.cells #[.pointer (some p)] 81) := by
  go_enter Tryz.func79, Tryz.ntmps79
  go_wp2
  go_ret
  exact ⟨rfl, rfl⟩

/-- How far the loop still may go. -/
def itm (n : Nat) (x : Value) : Nat := if intOf x < 0 then 0 else n + 1 - (intOf x).toNat
theorem itm_lt (n i : Nat) (y : Int) (h : i < n) (hy : y = -1 ∨ (i : Int) < y) : itm n (.int .i64 y) < itm n (.int .i64 (i : Int)) := by
  unfold itm intOf
  simp only
  rw [if_neg (by omega : ¬ (i : Int) < 0)]
  split <;> omega
end Go.Proofs.YtfbcdmhmpfijjaaGreatDoor

namespace Go.Proofs.YtfbcdmhmpfijjaaGreatDoor
open Go Go.RowKit

theorem wf_i64 {x : Int} (h : (Lit.int .i64 x).wf = true) : -9223372036854775808 ≤ x ∧ x ≤ 9223372036854775807 := by
  simp [Lit.wf, IntKind.min, IntKind.max, IntKind.signed, IntKind.bits] at h
  omega

end Go.Proofs.YtfbcdmhmpfijjaaGreatDoor
