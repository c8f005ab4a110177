/-
  What a map of bits is in memory, and what a call may have turned. No walk.
-/
import Derived.Below
import Derived.Laws.MakeOwn
import Derived.WalkSmall
import Derived.OneCell
import Derived.Test.YtfbcdmhmpfijjaaGreatDoorQA
namespace Go.Proofs.YtfbcdmhmpfijjaaGreatDoor
open Go Go.RowKit

/-- Of the blocks that there were only those from lo up to, not with, hi may have turned. -/
structure Only (lo hi : Nat) (w w' : World) : Prop where
  os : w'.os = w.os
  tape : w'.tape = w.tape
  output : w'.output = w.output
  size : w.heap.size ≤ w'.heap.size
  block : ∀ k, k < w.heap.size → k < lo ∨ hi ≤ k → w'.heap[k]? = w.heap[k]?

theorem Only.refl (lo hi : Nat) (w : World) : Only lo hi w w := ⟨rfl, rfl, rfl, Nat.le_refl _, fun _ _ _ => rfl⟩
theorem Only.trans {lo hi : Nat} {a b c : World} (h : Only lo hi a b) (k : Only lo hi b c) : Only lo hi a c :=
  ⟨k.os.trans h.os, k.tape.trans h.tape, k.output.trans h.output, Nat.le_trans h.size k.size, fun i hi hk => (k.block i (Nat.lt_of_lt_of_le hi h.size) hk).trans (h.block i hi hk)⟩
theorem Only.mono {lo hi lo' hi' : Nat} {a b : World} (h : Only lo hi a b) (h1 : lo' ≤ lo) (h2 : hi ≤ hi') : Only lo' hi' a b :=
  ⟨h.os, h.tape, h.output, h.size, fun i hi hk => h.block i hi (by omega)⟩
/-- What was turned beyond the blocks that there were before counts for nothing. -/
theorem Only.trans' {lo hi lo' hi' : Nat} {a b c : World} (h : Only lo hi a b) (k : Only lo' hi' b c) (h1 : lo ≤ lo' ∨ a.heap.size ≤ lo') (h2 : hi' ≤ hi ∨ a.heap.size ≤ lo') : Only lo hi a c :=
  ⟨k.os.trans h.os, k.tape.trans h.tape, k.output.trans h.output, Nat.le_trans h.size k.size, fun i hi hk => (k.block i (Nat.lt_of_lt_of_le hi h.size) (by omega)).trans (h.block i hi hk)⟩
theorem Only.drew {lo hi : Nat} {a w : World} (h : Only lo hi a w) : Only lo hi a w.drew := ⟨h.os, h.tape, h.output, h.size, h.block⟩
theorem Only.drewN {lo hi : Nat} {a w : World} (h : Only lo hi a w) (n : Nat) : Only lo hi a (w.drewN n) := ⟨h.os, h.tape, h.output, h.size, h.block⟩
theorem Only.alloc {lo hi : Nat} {a w : World} (h : Only lo hi a w) (o : Obj) : Only lo hi a (w.alloc o) :=
  ⟨h.os, h.tape, h.output, by have := h.size; simp; omega, fun k hk hk2 => by rw [Below.heap_alloc _ _ _ (Nat.lt_of_lt_of_le hk h.size)]; exact h.block k hk hk2⟩
theorem Only.setCell {lo hi : Nat} {a w : World} (h : Only lo hi a w) {p : Addr} (hp : (lo ≤ p.block ∧ p.block < hi) ∨ a.heap.size ≤ p.block) (u : Value) : Only lo hi a (w.setCell p u) :=
  ⟨h.os, h.tape, h.output, by have := h.size; simpa [World.setCell] using this, fun k hk hk2 => by rw [Below.heap_setCell _ _ _ _ (by omega)]; exact h.block k hk hk2⟩
theorem Only.grown {lo hi : Nat} {a w w' : World} {row : Option Nat} (h : Only lo hi a w) (hg : w.grownBy w' row) (hr : ∀ k, row = some k → (lo ≤ k ∧ k < hi) ∨ a.heap.size ≤ k) : Only lo hi a w' :=
  ⟨hg.os.trans h.os, hg.tape.trans h.tape, hg.output.trans h.output, Nat.le_trans h.size hg.size, fun k hk hk2 => by
    rw [hg.block k (Nat.lt_of_lt_of_le hk h.size) (fun e => by have := hr k e.symm; omega)]; exact h.block k hk hk2⟩
theorem Only.below {lo hi : Nat} {a b : World} (h : Only lo hi a b) (hB : lo ≤ a.heap.size) : Below lo a b :=
  ⟨h.os, h.tape, h.output, h.size, fun k hk => h.block k (by omega) (by omega)⟩
/-- Nothing that was there has turned. -/
abbrev Still (w w' : World) : Prop := Only w.heap.size w.heap.size w w'
theorem Still.below {a b : World} (h : Still a b) : Below a.heap.size a b := Only.below h (Nat.le_refl _)
theorem Still.any {a b : World} (h : Still a b) (lo hi : Nat) : Only lo hi a b := ⟨h.os, h.tape, h.output, h.size, fun i hi _ => h.block i hi (by omega)⟩
theorem Only.cell {lo hi : Nat} {w w' : World} (h : Only lo hi w w') {p : Addr} (hs : p.block < w.heap.size) (hp : p.block < lo ∨ hi ≤ p.block) : w'.cell? p = w.cell? p :=
  World.cell?_of_block (w := w) (h.block p.block hs hp)
theorem Only.frozen {lo hi : Nat} {w w' : World} (h : Only lo hi w w') {p : Addr} (hs : p.block < w.heap.size) (hp : p.block < lo ∨ hi ≤ p.block) : w'.frozen? p = w.frozen? p :=
  World.frozen?_of_block (w := w) (h.block p.block hs hp)

/-- A value that owns cells keeps them where its block does not turn. -/
theorem ownsRow_of_block {w w' : World} {base : Nat} {e : TypeId} {size : Nat} {v : Value} {n : Nat} {xs : List Value} (h : w.ownsRow base e size v n xs)
    (hb : ∀ g, v.ownBlock = some g → w'.heap[g]? = w.heap[g]?) : w'.ownsRow base e size v n xs := by
  refine ⟨h.1, ?_⟩
  rcases h.2 with hn | ⟨g, cap, cur, rfl, hbg, hgg, rest⟩
  · exact .inl hn
  · exact .inr ⟨g, cap, cur, rfl, hbg, by rw [hb g rfl]; exact hgg, rest⟩

/-- A store into a row that is owned. -/
theorem ownsRow_set {w : World} {base : Nat} {e : TypeId} {g cap n : Nat} {xs : List Value} (h : w.ownsRow base e 1 (.slice (some ⟨g, 0, none⟩) n cap) n xs) (j : Nat) (u : Value) :
    (w.setCell ⟨g, j, none⟩ u).ownsRow base e 1 (.slice (some ⟨g, 0, none⟩) n cap) n (xs.set j u) := by
  obtain ⟨h1, h2⟩ := h
  refine ⟨by simpa using h1, ?_⟩
  rcases h2 with ⟨hv, _⟩ | ⟨g', cap', cur, hv, hbg, hgg, hn, hm, hs, ht⟩
  · cases hv
  · injection hv with e1 e2 e3
    injection e1 with e1
    injection e1 with e1
    subst e1; subst e3
    refine .inr ⟨g, cap, cur.setIfInBounds j u, rfl, hbg, ?_, hn, hm, by simpa using hs, ?_⟩
    · simp only [World.setCell, Array.getElem?_modify]
      simp [hgg]
    · rw [← ht]
      simp only [Array.toList_setIfInBounds]
      rw [List.take_set]

/-- The number of a bit's row, as a value. -/
abbrev U (r : Nat) : Value := .int .u64 (r : Int)

/-- A map of bits at block pb: its length, and a row of words. -/
structure MapAt (w : World) (lo hi pb n : Nat) (v : Value) (rows : List Nat) : Prop where
  plo : lo ≤ pb
  phi : pb < hi
  top : hi ≤ w.heap.size
  head : w.heap[pb]? = some (.cells #[.int .i64 (n : Int), v] 135 (0, 0))
  own : w.ownsRow lo 139 1 v ((n + 63) / 64) (rows.map U)
  apart : ∀ g, v.ownBlock = some g → g < hi ∧ g ≠ pb
  small : ∀ r ∈ rows, r < 18446744073709551616
  nle : n ≤ 262144

theorem MapAt.len {w : World} {lo hi pb n : Nat} {v : Value} {rows : List Nat} (h : MapAt w lo hi pb n v rows) : rows.length = (n + 63) / 64 := by
  have := h.own.1; simpa using this

theorem MapAt.kept {w w' : World} {lo hi pb n : Nat} {v : Value} {rows : List Nat} (h : MapAt w lo hi pb n v rows) {lo' hi' : Nat} (ho : Only lo' hi' w w') (hd : hi ≤ lo' ∨ hi' ≤ lo) : MapAt w' lo hi pb n v rows := by
  have hp := h.plo; have hq := h.phi; have ht := h.top
  refine ⟨h.plo, h.phi, Nat.le_trans h.top ho.size, ?_, ?_, h.apart, h.small, h.nle⟩
  · rw [ho.block pb (by omega) (by omega)]; exact h.head
  · refine ownsRow_of_block h.own fun g hg => ho.block g ?_ ?_
    · have := (h.own.lt g hg).2; omega
    · have a := (h.own.lt g hg).1; have b := (h.apart g hg).1; omega

theorem MapAt.cell0 {w : World} {lo hi pb n : Nat} {v : Value} {rows : List Nat} (h : MapAt w lo hi pb n v rows) : w.cell? ⟨pb, 0, none⟩ = some (.int .i64 (n : Int)) := by
  simp [World.cell?, h.head]
theorem MapAt.cell1 {w : World} {lo hi pb n : Nat} {v : Value} {rows : List Nat} (h : MapAt w lo hi pb n v rows) : w.cell? ⟨pb, 1, none⟩ = some v := by
  simp [World.cell?, h.head]
/-- Where there is a row the value is a slice at a block's head. -/
theorem MapAt.slice {w : World} {lo hi pb n : Nat} {v : Value} {rows : List Nat} (h : MapAt w lo hi pb n v rows) (hn : 0 < n) :
    ∃ g cap, v = .slice (some ⟨g, 0, none⟩) ((n + 63) / 64) cap ∧ g ≠ pb ∧ lo ≤ g ∧ g < hi ∧ (n + 63) / 64 ≤ cap ∧ cap ≤ maxLen ∧
      (∀ j, j < (n + 63) / 64 → w.cell? ⟨g, j, none⟩ = some (.int .u64 ((rows.getD j 0 : Nat) : Int))) ∧ ∀ j, w.frozen? ⟨g, j, none⟩ = false := by
  rcases h.own.2 with ⟨_, h0⟩ | ⟨g, cap, cur, rfl, hb, hg, hnc, hm, hs, ht⟩
  · omega
  · refine ⟨g, cap, rfl, (h.apart g rfl).2, hb, (h.apart g rfl).1, hnc, hm, fun j hj => ?_, fun j => ?_⟩
    · have hj2 : cur.toList[j]? = some (U (rows.getD j 0)) := by
        have e : (cur.toList.take ((n + 63) / 64 * 1))[j]? = cur.toList[j]? := by rw [List.getElem?_take, if_pos (by omega)]
        rw [← e, ht, List.getElem?_map]
        have : rows[j]? = some (rows.getD j 0) := by
          rw [List.getD_eq_getElem?_getD, List.getElem?_eq_getElem (by rw [h.len]; exact hj)]; rfl
        rw [this]; rfl
      simp only [World.cell?, hg]
      simpa using hj2
    · simp only [World.frozen?, hg]; simp

theorem MapAt.set {w : World} {lo hi pb n g cap : Nat} {rows : List Nat} (h : MapAt w lo hi pb n (.slice (some ⟨g, 0, none⟩) ((n + 63) / 64) cap) rows) (j r : Nat) (hr : r < 18446744073709551616) :
    MapAt (w.setCell ⟨g, j, none⟩ (.int .u64 (r : Int))) lo hi pb n (.slice (some ⟨g, 0, none⟩) ((n + 63) / 64) cap) (rows.set j r) := by
  refine ⟨h.plo, h.phi, by simpa [World.setCell] using h.top, ?_, ?_, h.apart, ?_, h.nle⟩
  · rw [Below.heap_setCell _ _ _ _ (fun e => (h.apart g rfl).2 e.symm)]; exact h.head
  · rw [List.map_set]
    exact ownsRow_set h.own j _
  · intro x hx
    rcases List.mem_or_eq_of_mem_set hx with hx | hx
    · exact h.small x hx
    · omega

theorem MapAt.drew {w : World} {lo hi pb n : Nat} {v : Value} {rows : List Nat} (h : MapAt w lo hi pb n v rows) : MapAt w.drew lo hi pb n v rows :=
  ⟨h.plo, h.phi, h.top, h.head, h.own, h.apart, h.small, h.nle⟩

/-- A map in which just the numbers of S are. -/
def IsMap (w : World) (lo hi : Nat) (p : Addr) (n : Nat) (S : Nat → Bool) : Prop :=
  ∃ pb v rows, p = ⟨pb, 0, none⟩ ∧ MapAt w lo hi pb n v rows ∧ (∀ i, i < n → (rows.getD (i / 64) 0).testBit (i % 64) = S i) ∧ ∀ i, n ≤ i → S i = false

theorem IsMap.kept {w w' : World} {lo hi n : Nat} {p : Addr} {S : Nat → Bool} (h : IsMap w lo hi p n S) {lo' hi' : Nat} (ho : Only lo' hi' w w') (hd : hi ≤ lo' ∨ hi' ≤ lo) : IsMap w' lo hi p n S := by
  obtain ⟨pb, v, rows, hp, hm, hS⟩ := h
  exact ⟨pb, v, rows, hp, hm.kept ho hd, hS⟩
theorem IsMap.still {w w' : World} {lo hi n : Nat} {p : Addr} {S : Nat → Bool} (h : IsMap w lo hi p n S) (ho : Still w w') : IsMap w' lo hi p n S := by
  have : hi ≤ w.heap.size := by obtain ⟨pb, v, rows, hp, hm, hS⟩ := h; exact hm.top
  exact h.kept ho (.inl this)
end Go.Proofs.YtfbcdmhmpfijjaaGreatDoor
