/-
  The walk of world.above.
-/
import Derived.Test.YtfbcdmhmpfijjaaGreatDoorQQ
import Derived.BigQuiet
namespace Go.Proofs.YtfbcdmhmpfijjaaGreatDoor
open Go Go.RowKit

/-- Of the first i objects the one with the least place above a. -/
def abv (os : List Ob) (a : Int) : Nat → Option Ob
  | 0 => none
  | i + 1 => match abv os a i with
    | none => if a < ((os.getD i ob0).at' : Int) then some (os.getD i ob0) else none
    | some b => if a < ((os.getD i ob0).at' : Int) ∧ (os.getD i ob0).at' < b.at' then some (os.getD i ob0) else some b
theorem abv_none (os : List Ob) (a : Int) : ∀ i, i ≤ os.length → abv os a i = none → ∀ j, j < i → ¬a < ((os.getD j ob0).at' : Int)
  | 0, _, _, j, hj => by omega
  | i + 1, hi, h, j, hj => by
    unfold abv at h
    cases e : abv os a i with
    | none =>
      rw [e] at h
      dsimp only at h
      by_cases hc : a < ((os.getD i ob0).at' : Int)
      · rw [if_pos hc] at h; cases h
      · by_cases ej : j = i
        · rw [ej]; exact hc
        · exact abv_none os a i (by omega) e j (by omega)
    | some b => rw [e] at h; dsimp only at h; split at h <;> cases h
theorem abv_some (os : List Ob) (a : Int) : ∀ i, i ≤ os.length → ∀ b, abv os a i = some b → b ∈ os ∧ a < (b.at' : Int) ∧ ∀ j, j < i → a < ((os.getD j ob0).at' : Int) → b.at' ≤ (os.getD j ob0).at'
  | 0, _, b, h => by cases h
  | i + 1, hi, b, h => by
    unfold abv at h
    cases e : abv os a i with
    | none =>
      rw [e] at h
      dsimp only at h
      by_cases hc : a < ((os.getD i ob0).at' : Int)
      · rw [if_pos hc] at h
        injection h with h
        subst h
        refine ⟨getD_mem os i hi, hc, fun j hj hj2 => ?_⟩
        by_cases ej : j = i
        · rw [ej]; exact Nat.le_refl _
        · exact absurd hj2 (abv_none os a i (by omega) e j (by omega))
      · rw [if_neg hc] at h; cases h
    | some b' =>
      obtain ⟨h1, h2, h3⟩ := abv_some os a i (by omega) b' e
      rw [e] at h
      dsimp only at h
      by_cases hc : a < ((os.getD i ob0).at' : Int) ∧ (os.getD i ob0).at' < b'.at'
      · rw [if_pos hc] at h
        injection h with h
        subst h
        refine ⟨getD_mem os i hi, hc.1, fun j hj hj2 => ?_⟩
        by_cases ej : j = i
        · rw [ej]; exact Nat.le_refl _
        · have := h3 j (by omega) hj2
          omega
      · rw [if_neg hc] at h
        injection h with h
        subst h
        refine ⟨h1, h2, fun j hj hj2 => ?_⟩
        by_cases ej : j = i
        · rw [ej] at hj2 ⊢; omega
        · exact h3 j (by omega) hj2
/-- A box of an object is written. -/
theorem ob_box {w : World} {B : Nat} {x0 x1 x2 x3 x4 : Value} (h : w.heap[B]? = some (.cells #[x0, x1, x2, x3, x4] 95 (0, 0))) (y0 y1 y2 y3 y4 : Value) :
    (((((w.setCell ⟨B, 0, none⟩ y0).setCell ⟨B, 1, none⟩ y1).setCell ⟨B, 2, none⟩ y2).setCell ⟨B, 3, none⟩ y3).setCell ⟨B, 4, none⟩ y4).heap[B]? = some (.cells #[y0, y1, y2, y3, y4] 95 (0, 0)) := by
  simp only [World.setCell, Array.getElem?_modify, h]
  simp
theorem only_box {lo hi : Nat} {a w : World} (h : Only lo hi a w) {B : Nat} (hb : (lo ≤ B ∧ B < hi) ∨ a.heap.size ≤ B) (y0 y1 y2 y3 y4 : Value) :
    Only lo hi a (((((w.setCell ⟨B, 0, none⟩ y0).setCell ⟨B, 1, none⟩ y1).setCell ⟨B, 2, none⟩ y2).setCell ⟨B, 3, none⟩ y3).setCell ⟨B, 4, none⟩ y4) :=
  ((((h.setCell (p := ⟨B, 0, none⟩) hb y0).setCell (p := ⟨B, 1, none⟩) hb y1).setCell (p := ⟨B, 2, none⟩) hb y2).setCell (p := ⟨B, 3, none⟩) hb y3).setCell (p := ⟨B, 4, none⟩) hb y4
theorem heap_box {w : World} {B k : Nat} (hk : k ≠ B) (y0 y1 y2 y3 y4 : Value) :
    (((((w.setCell ⟨B, 0, none⟩ y0).setCell ⟨B, 1, none⟩ y1).setCell ⟨B, 2, none⟩ y2).setCell ⟨B, 3, none⟩ y3).setCell ⟨B, 4, none⟩ y4).heap[k]? = w.heap[k]? := by
  repeat rw [Below.heap_setCell _ _ _ _ (by exact hk)]
def Ob.val (o : Ob) : Value := .agg #[.int .i64 (o.at' : Int), .int .i64 o.sh.k, .int .i64 o.sh.z, .int .i64 o.sh.s, .int .i64 o.sh.t]
abbrev Ob.obj (o : Ob) : Obj := .cells #[.int .i64 (o.at' : Int), .int .i64 o.sh.k, .int .i64 o.sh.z, .int .i64 o.sh.s, .int .i64 o.sh.t] 95 (0, 0)
/-- The world, and two boxes behind what was there. -/
structure Ab (w : World) (wr : World) (o : Ob) : Prop where
  st : Still w wr
  b0 : wr.heap[w.heap.size]? = some ob0.obj
  b1 : wr.heap[w.heap.size + 1]? = some o.obj
theorem Ab.drewN {w wr : World} {o : Ob} (h : Ab w wr o) (m : Nat) : Ab w (wr.drewN m) o := ⟨h.st.drewN m, h.b0, h.b1⟩
theorem Ab.set {w wr : World} {o : Ob} (h : Ab w wr o) (p : Ob) :
    Ab w (((((wr.setCell ⟨w.heap.size + 1, 0, none⟩ (.int .i64 (p.at' : Int))).setCell ⟨w.heap.size + 1, 1, none⟩ (.int .i64 p.sh.k)).setCell ⟨w.heap.size + 1, 2, none⟩ (.int .i64 p.sh.z)).setCell ⟨w.heap.size + 1, 3, none⟩ (.int .i64 p.sh.s)).setCell ⟨w.heap.size + 1, 4, none⟩ (.int .i64 p.sh.t)) p :=
  ⟨only_box h.st (.inr (by omega)) _ _ _ _ _, (heap_box (by omega) _ _ _ _ _).trans h.b0, ob_box h.b1 _ _ _ _ _⟩
end Go.Proofs.YtfbcdmhmpfijjaaGreatDoor

namespace Go.Proofs.YtfbcdmhmpfijjaaGreatDoor
open Go Go.RowKit

/-- What above tells, of the places that are taken. -/
theorem Agree.next {s : St} {os : List Ob} (h : Agree s os) (hi : s.Inv) {N a i : Nat} (_hN : 64 * s.n = N) (hn : Bm.next (s.B 0) N (a : Int) = ((i : Nat) : Int)) :
    abv os ((a : Int) - 1) os.length = some ⟨i, s.sh i⟩ := by
  rcases Bm.next_spec (s.B 0) N (a : Int) with ⟨e, _⟩ | ⟨i', e, h2, h3, h4, h5⟩
  · rw [e] at hn; omega
  · rw [e] at hn
    obtain rfl : i' = i := by omega
    obtain ⟨o, ho, hoi⟩ := h.all i' h4
    have hosh := (h.here o ho).2
    obtain ⟨j, hj, hjo⟩ := List.getElem_of_mem ho
    have hjo2 : os.getD j ob0 = o := by rw [List.getD_eq_getElem?_getD, List.getElem?_eq_getElem hj]; exact hjo
    cases hb : abv os ((a : Int) - 1) os.length with
    | none =>
      have := abv_none os _ _ (Nat.le_refl _) hb j hj
      rw [hjo2, hoi] at this
      omega
    | some b =>
      obtain ⟨b1, b2, b3⟩ := abv_some os _ _ (Nat.le_refl _) b hb
      have hbt := h.here b b1
      have b4 := b3 j hj (by rw [hjo2, hoi]; omega)
      rw [hjo2, hoi] at b4
      have hlt := (hi.obj _ hbt.1).2.lt
      have b5 : b.at' = i' := by
        refine Classical.byContradiction fun hne => ?_
        have := h5 b.at' (by omega) (by omega)
        rw [hbt.1] at this; cases this
      cases b with
      | mk bp bs =>
        dsimp only at b5 hbt
        subst b5
        rw [hbt.2]
theorem box1 {w : World} {b : Nat} {x : Value} {T : TypeId} (h : w.heap[b]? = some (.cells #[x] T (0, 0))) (y : Value) : (w.setCell ⟨b, 0, none⟩ y).heap[b]? = some (.cells #[y] T (0, 0)) := by
  simp only [World.setCell, Array.getElem?_modify, h]
  simp
theorem box1_ne {w : World} {b c : Nat} (h : c ≠ b) (o : Nat) (y : Value) : (w.setCell ⟨b, o, none⟩ y).heap[c]? = w.heap[c]? := Below.heap_setCell _ _ _ _ h
theorem box1_al {w : World} {b : Nat} {o p : Obj} (h : w.heap[b]? = some o) : (w.alloc p).heap[b]? = some o := (Below.heap_alloc _ _ _ (Array.getElem?_eq_some_iff.1 h).1).trans h
end Go.Proofs.YtfbcdmhmpfijjaaGreatDoor
