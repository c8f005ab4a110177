/-
  The walk of hearthlaw3.BitmapWalk and of what it hands to the iterator.
-/
import Derived.Test.YtppeiljecgeifaaDoorL3
import Derived.Test.YtppeiljecgeifaaDoorP5
namespace Go.Proofs.YtppeiljecgeifaaDoor
open Go Go.RowKit

/-- A number as a value of Go's int. -/
abbrev I (x : Nat) : Value := .int .i64 (x : Int)

set_option maxHeartbeats 400000 in
theorem walk1_any (bA bT bN g cap L k i : Nat) (w : World) (hA : w.cell? ⟨bA, 0, none⟩ = some (.int .i64 (k : Int))) (hT : w.cell? ⟨bT, 0, none⟩ = some (.slice (some ⟨g, 0, none⟩) L cap))
    (hf : w.frozen? ⟨bA, 0, none⟩ = false) (hc : w.cell? ⟨g, k, none⟩ = some (.int .i64 (i : Int))) (hk0 : (0 : Int) ≤ (k : Int)) (hk : (k : Int) < (L : Int)) (hkm : (k : Int) ≤ 300000) :
    Calls Tryd.prog 25 #[.int .i64 (i : Int), .pointer (some ⟨bA, 0, none⟩), .pointer (some ⟨bT, 0, none⟩), .pointer (some ⟨bN, 0, none⟩)] w
      fun e w' => e = .returned (.bool true) ∧ w' = w.setCell ⟨bA, 0, none⟩ (.int .i64 ((k + 1 : Nat) : Int)) := by
  have hd1 : decide ((k : Int) < 0) = false := decide_eq_false (by omega)
  have hd2 : decide (L ≤ k) = false := decide_eq_false (by omega)
  go_enter Tryd.func25, Tryd.ntmps25
  go_wp2
  go_ret
  exact ⟨rfl, rfl⟩

theorem fillS_mem (zs : List Int) (n : Int) (hn : 0 < n) (m : Nat) : ∀ k, k < m → fillS zs n m (wi (zs.getD k 0) n).toNat = true := by
  induction m with
  | zero => intro k hk; omega
  | succ m ih =>
    intro k hk
    have h1 := wi_range (zs.getD k 0) n hn
    unfold fillS rangeS
    split
    · rfl
    · rename_i hne
      refine ih k ?_
      by_cases e : k = m
      · subst e; exact absurd ⟨by omega, by omega⟩ hne
      · omega
theorem Tryd.infoI : (Tryd.prog.info? 3).map (fun i => (i.zero, i.size, i.bytes)) = some (some (.int .i64 0), 1, 8) := by kernel_rfl

theorem cell_new (w : World) (xs : Array Value) (e : TypeId) (j : Nat) : (w.alloc (.cells xs e)).cell? ⟨w.heap.size, j, none⟩ = xs[j]? := by
  simp only [World.cell?, heap_alloc_new]; rfl
/-- A boxed slice of numbers of the call's own. -/
def Told (w : World) (bT : Nat) (T : List Nat) (ao : Option Addr) (cap : Nat) : Prop :=
  w.heap[bT]? = some (.cells #[.slice ao T.length cap] 27 (0, 0)) ∧ w.ownsRow (bT + 1) 3 1 (.slice ao T.length cap) T.length (T.map I)

theorem Told.cell {w : World} {bT : Nat} {T : List Nat} {ao : Option Addr} {cap : Nat} (h : Told w bT T ao cap) : w.cell? ⟨bT, 0, none⟩ = some (.slice ao T.length cap) := by simp [World.cell?, h.1]
theorem Told.frozen {w : World} {bT : Nat} {T : List Nat} {ao : Option Addr} {cap : Nat} (h : Told w bT T ao cap) : w.frozen? ⟨bT, 0, none⟩ = false := by simp [World.frozen?, h.1]
theorem Told.at {w : World} {bT : Nat} {T : List Nat} {ao : Option Addr} {cap : Nat} (h : Told w bT T ao cap) (h0 : 0 < T.length) : ∃ g, ao = some ⟨g, 0, none⟩ ∧ bT + 1 ≤ g ∧ ∀ j, j < T.length → w.cell? ⟨g, j, none⟩ = some (I (T.getD j 0)) := by
  rcases h.2.2 with ⟨_, h1⟩ | ⟨g, cap', cur, hv, hb, hg, hnc, hcm, hs, ht⟩
  · omega
  · injection hv with e1 e2 e3
    refine ⟨g, e1, hb, fun j hj => ?_⟩
    have hc := h.2.cells (g := g) (by rw [e1]; rfl) j (I (T.getD j 0)) (by rw [List.getElem?_map, List.getElem?_eq_getElem hj, List.getD_eq_getElem?_getD, List.getElem?_eq_getElem hj]; rfl)
    have e : (⟨g, 0, none⟩ : Addr).add j = ⟨g, j, none⟩ := by unfold Addr.add; split <;> simp_all
    rwa [e] at hc

theorem told_append {w2 wr w1 : World} {bT : Nat} {T : List Nat} {ao : Option Addr} {cap i : Nat} {v' : Value} {o : Obj} (h : Told wr bT T ao cap) (hb : bT < wr.heap.size) (hs : Still w2 wr) (h2 : w2.heap.size ≤ bT)
    (hg : (wr.alloc o).grownBy w1 (Value.ownBlock (.slice ao T.length cap))) (hown : w1.ownsRow (bT + 1) 3 1 v' (T.length + 1) (T.map I ++ [I i])) :
    ∃ ao' cap', v' = .slice ao' (T.length + 1) cap' ∧ w1.cell? ⟨bT, 0, none⟩ = some (.slice ao T.length cap) ∧ w1.frozen? ⟨bT, 0, none⟩ = false ∧
      Told (w1.setCell ⟨bT, 0, none⟩ (.slice ao' (T.length + 1) cap')) bT (T ++ [i]) ao' cap' ∧ Still w2 (w1.setCell ⟨bT, 0, none⟩ (.slice ao' (T.length + 1) cap')) ∧ bT < (w1.setCell ⟨bT, 0, none⟩ (.slice ao' (T.length + 1) cap')).heap.size := by
  have hsh : ∃ ao' cap', v' = .slice ao' (T.length + 1) cap' := by
    rcases hown.2 with ⟨_, h0⟩ | ⟨g', cap', cur', rfl, _⟩
    · omega
    · exact ⟨_, _, rfl⟩
  obtain ⟨ao', cap', rfl⟩ := hsh
  have hrow : ∀ k, Value.ownBlock (.slice ao T.length cap) = some k → bT + 1 ≤ k ∧ k < wr.heap.size := fun k hk => h.2.lt k hk
  have hbl : w1.heap[bT]? = some (.cells #[.slice ao T.length cap] 27 (0, 0)) := by
    rw [hg.block bT (by simp; omega) (fun e => by have := hrow bT e.symm; omega), Below.heap_alloc _ _ _ hb]
    exact h.1
  have hst : Still w2 (wr.alloc o) := hs.alloc o
  have hst1 : Still w2 w1 := hst.grown hg (fun k hk => by have := hrow k hk; right; omega)
  refine ⟨ao', cap', rfl, by simp [World.cell?, hbl], by simp [World.frozen?, hbl], ⟨?_, ?_⟩, hst1.setCell (.inr h2) _, ?_⟩
  · rw [List.length_append]
    simp only [World.setCell, Array.getElem?_modify, hbl]
    simp
  · rw [List.length_append, List.map_append]
    refine ownsRow_of_block hown fun g hgg => ?_
    have := (hown.lt g hgg).1
    rw [Below.heap_setCell _ _ _ _ (by show g ≠ bT; omega)]
  · have := hg.size
    simp [World.setCell] at this ⊢
    omega
theorem one_new (w : World) (v : Value) (e : TypeId) : ∀ j u, [v][j]? = some u → (w.alloc (.cells #[v] e)).cell? ((⟨w.heap.size, 0, none⟩ : Addr).add j) = some u := by
  intro j u hu
  cases j with
  | zero =>
    rw [show (⟨w.heap.size, 0, none⟩ : Addr).add 0 = ⟨w.heap.size, 0, none⟩ from rfl, cell_new]
    simpa using hu
  | succ j => simp at hu
end Go.Proofs.YtppeiljecgeifaaDoor
