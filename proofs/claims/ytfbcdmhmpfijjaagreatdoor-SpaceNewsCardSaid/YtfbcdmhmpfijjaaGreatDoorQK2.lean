/-
  The walk of space.Keep.
-/
import Derived.Test.YtfbcdmhmpfijjaaGreatDoorQK1
import Derived.Test.YtfbcdmhmpfijjaaGreatDoorQR4
namespace Go.Proofs.YtfbcdmhmpfijjaaGreatDoor
open Go Go.RowKit
attribute [local go_sem] Oper.semAt_some

/-- The places that stay, by the first j of a list. -/
def stayTo (zs : List Int) : Nat → (Nat → Bool)
  | 0 => fun _ => false
  | j + 1 => setS (stayTo zs j) (zs.getD j 0).toNat true

/-- The blocks that Keep's first walk over objects leans on. -/
structure KB (w : World) (b2 b6 B sb : Nat) (mp m0 : Addr) (f : Nat) (o : Obj) : Prop where
  x2 : w.heap[b2]? = some (.cells #[.pointer (some ⟨sb, 0, none⟩)] 34)
  x6 : w.heap[b6]? = some (.cells #[.pointer (some mp)] 81)
  xf : w.heap[B]? = some (.cells #[.int .i64 (f : Int)] 3)
  xm : w.heap[B + 1]? = some (.cells #[.pointer (some m0)] 81)
  xd : w.heap[B + 1 + 1]? = some (.deferred (some []))
  xl : w.heap[B + 1 + 1 + 1]? = some o
theorem KB.kept {w w' : World} {b2 b6 B sb : Nat} {mp m0 : Addr} {f : Nat} {o : Obj} (h : KB w b2 b6 B sb mp m0 f o) {lo hi : Nat} (ho : Only lo hi w w') (h1 : hi ≤ b2) (h2 : hi ≤ b6) (h3 : hi ≤ B) : KB w' b2 b6 B sb mp m0 f o := by
  have l2 := (Array.getElem?_eq_some_iff.1 h.x2).1
  have l6 := (Array.getElem?_eq_some_iff.1 h.x6).1
  have lf := (Array.getElem?_eq_some_iff.1 h.xf).1
  have lm := (Array.getElem?_eq_some_iff.1 h.xm).1
  have ld := (Array.getElem?_eq_some_iff.1 h.xd).1
  have ll := (Array.getElem?_eq_some_iff.1 h.xl).1
  exact ⟨(ho.block _ l2 (.inr h1)).trans h.x2, (ho.block _ l6 (.inr h2)).trans h.x6, (ho.block _ lf (.inr h3)).trans h.xf, (ho.block _ lm (.inr (by omega))).trans h.xm, (ho.block _ ld (.inr (by omega))).trans h.xd, (ho.block _ ll (.inr (by omega))).trans h.xl⟩
theorem KB.put {w : World} {b2 b6 B sb : Nat} {mp m0 : Addr} {f : Nat} {o : Obj} (h : KB w b2 b6 B sb mp m0 f o) (h1 : b2 < B) (h2 : b6 < B) (o' : Obj) : KB (w.putObj (B + 1 + 1 + 1) o') b2 b6 B sb mp m0 f o' :=
  ⟨(World.putObj_heap_other (by omega)).trans h.x2, (World.putObj_heap_other (by omega)).trans h.x6, (World.putObj_heap_other (by omega)).trans h.xf, (World.putObj_heap_other (by omega)).trans h.xm, (World.putObj_heap_other (by omega)).trans h.xd, World.putObj_heap_same (Array.getElem?_eq_some_iff.1 h.xl).1⟩
theorem KB.free {w : World} {b2 b6 B sb : Nat} {mp m0 : Addr} {f : Nat} {o : Obj} (h : KB w b2 b6 B sb mp m0 f o) (h1 : b2 < B) (h2 : b6 < B) (f' : Nat) : KB (w.setCell ⟨B, 0, none⟩ (.int .i64 (f' : Int))) b2 b6 B sb mp m0 f' o :=
  ⟨(Below.heap_setCell _ _ _ _ (by show b2 ≠ B; omega)).trans h.x2, (Below.heap_setCell _ _ _ _ (by show b6 ≠ B; omega)).trans h.x6, by simp only [World.setCell, Array.getElem?_modify, h.xf]; simp, (Below.heap_setCell _ _ _ _ (by show B + 1 ≠ B; omega)).trans h.xm, (Below.heap_setCell _ _ _ _ (by show B + 1 + 1 ≠ B; omega)).trans h.xd, (Below.heap_setCell _ _ _ _ (by show B + 1 + 1 + 1 ≠ B; omega)).trans h.xl⟩

/-- The blocks that a walk over a class's free blocks leans on. -/
structure KC (w : World) (b2 b sb : Nat) (m : Addr) (c : Nat) (o : Obj) : Prop where
  x2 : w.heap[b2]? = some (.cells #[.pointer (some ⟨sb, 0, none⟩)] 34)
  xc : w.heap[b]? = some (.cells #[.int .i64 (c : Int)] 3)
  xm : w.heap[b + 1]? = some (.cells #[.pointer (some m)] 81)
  xd : w.heap[b + 1 + 1]? = some (.deferred (some []))
  xl : w.heap[b + 1 + 1 + 1]? = some o
theorem KC.kept {w w' : World} {b2 b sb : Nat} {m : Addr} {c : Nat} {o : Obj} (h : KC w b2 b sb m c o) {lo hi : Nat} (ho : Only lo hi w w') (h1 : hi ≤ b2) (h3 : hi ≤ b) : KC w' b2 b sb m c o := by
  have l2 := (Array.getElem?_eq_some_iff.1 h.x2).1
  have lc := (Array.getElem?_eq_some_iff.1 h.xc).1
  have lm := (Array.getElem?_eq_some_iff.1 h.xm).1
  have ld := (Array.getElem?_eq_some_iff.1 h.xd).1
  have ll := (Array.getElem?_eq_some_iff.1 h.xl).1
  exact ⟨(ho.block _ l2 (.inr h1)).trans h.x2, (ho.block _ lc (.inr h3)).trans h.xc, (ho.block _ lm (.inr (by omega))).trans h.xm, (ho.block _ ld (.inr (by omega))).trans h.xd, (ho.block _ ll (.inr (by omega))).trans h.xl⟩
theorem KC.put {w : World} {b2 b sb : Nat} {m : Addr} {c : Nat} {o : Obj} (h : KC w b2 b sb m c o) (h1 : b2 < b) (o' : Obj) : KC (w.putObj (b + 1 + 1 + 1) o') b2 b sb m c o' :=
  ⟨(World.putObj_heap_other (by omega)).trans h.x2, (World.putObj_heap_other (by omega)).trans h.xc, (World.putObj_heap_other (by omega)).trans h.xm, (World.putObj_heap_other (by omega)).trans h.xd, World.putObj_heap_same (Array.getElem?_eq_some_iff.1 h.xl).1⟩
set_option maxRecDepth 100000 in
theorem index_maps (m : Nat → Addr) (c : Nat) (hc : c < 8) (w : World) :
    (Instr.index 82 (.agg #[.pointer (some (m 1)), .pointer (some (m 2)), .pointer (some (m 3)), .pointer (some (m 4)), .pointer (some (m 5)), .pointer (some (m 6)), .pointer (some (m 7)), .pointer (some (m 8))]) (.int .i64 (c : Int))).run Tryz.prog w = .ok (.pointer (some (m (c + 1)))) w := by
  have h : c = 0 ∨ c = 1 ∨ c = 2 ∨ c = 3 ∨ c = 4 ∨ c = 5 ∨ c = 6 ∨ c = 7 := by omega
  rcases h with rfl | rfl | rfl | rfl | rfl | rfl | rfl | rfl <;> rfl

end Go.Proofs.YtfbcdmhmpfijjaaGreatDoor
