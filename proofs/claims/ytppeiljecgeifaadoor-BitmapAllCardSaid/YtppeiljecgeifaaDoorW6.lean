/-
  The walks of the reference's map (hearthref3): New, Put, PutRange, Get, Reset, Copy.
-/
import Derived.Test.YtppeiljecgeifaaDoorL6
namespace Go.Proofs.YtppeiljecgeifaaDoor
open Go Go.RowKit

/-- A set's first n as a row of bools. -/
def bools (S : Nat → Bool) (n : Nat) : List Value := (List.range n).map fun i => .bool (S i)
theorem bools_length (S : Nat → Bool) (n : Nat) : (bools S n).length = n := by simp [bools]
theorem bools_get (S : Nat → Bool) (n j : Nat) (h : j < n) : (bools S n)[j]? = some (.bool (S j)) := by
  unfold bools
  rw [List.getElem?_map, List.getElem?_range h]; rfl
theorem bools_set (S : Nat → Bool) (n j : Nat) (b : Bool) : (bools S n).set j (.bool b) = bools (fun i => if i = j then b else S i) n := by
  apply List.ext_getElem?
  intro i
  rw [List.getElem?_set]
  by_cases hi : i < n
  · rw [bools_get S n i hi, bools_get _ n i hi, bools_length]
    by_cases e : j = i
    · subst e; simp [hi]
    · rw [if_neg e, if_neg (fun h => e h.symm)]
  · have h1 : ∀ T : Nat → Bool, (bools T n)[i]? = none := fun T => List.getElem?_eq_none (by rw [bools_length]; omega)
    rw [h1, h1]
    split
    · rw [bools_length, if_neg (by omega)]
    · rfl
theorem bools_congr {S T : Nat → Bool} {n : Nat} (h : ∀ i, i < n → S i = T i) : bools S n = bools T n := by
  unfold bools
  exact List.map_congr_left fun i hi => by rw [h i (List.mem_range.1 hi)]

structure RefAt (w : World) (lo hi pb n : Nat) (ao : Option Addr) (cap : Nat) (S : Nat → Bool) : Prop where
  plo : lo ≤ pb
  phi : pb < hi
  top : hi ≤ w.heap.size
  head : w.heap[pb]? = some (.cells #[.slice ao n cap] 56 (0, 0))
  own : w.ownsRow lo 4 1 (.slice ao n cap) n (bools S n)
  apart : ∀ g, Value.ownBlock (.slice ao n cap) = some g → g < hi ∧ g ≠ pb
  nle : n ≤ 262144
/-- The reference's map in which just the numbers of S are. -/
def IsRef (w : World) (lo hi : Nat) (p : Addr) (n : Nat) (S : Nat → Bool) : Prop := ∃ pb ao cap, p = ⟨pb, 0, none⟩ ∧ RefAt w lo hi pb n ao cap S

theorem RefAt.kept {w w' : World} {lo hi pb n : Nat} {ao : Option Addr} {cap : Nat} {S : Nat → Bool} (h : RefAt w lo hi pb n ao cap S) {lo' hi' : Nat} (ho : Only lo' hi' w w') (hd : hi ≤ lo' ∨ hi' ≤ lo) : RefAt w' lo hi pb n ao cap S := by
  have hp := h.plo; have hq := h.phi; have ht := h.top
  refine ⟨h.plo, h.phi, Nat.le_trans h.top ho.size, ?_, ?_, h.apart, h.nle⟩
  · rw [ho.block pb (by omega) (by omega)]; exact h.head
  · refine ownsRow_of_block h.own fun g hg => ho.block g ?_ ?_
    · have := (h.own.lt g hg).2; omega
    · have a := (h.own.lt g hg).1; have b := (h.apart g hg).1; omega
theorem RefAt.drewN {w : World} {lo hi pb n : Nat} {ao : Option Addr} {cap : Nat} {S : Nat → Bool} (h : RefAt w lo hi pb n ao cap S) (m : Nat) : RefAt (w.drewN m) lo hi pb n ao cap S :=
  ⟨h.plo, h.phi, h.top, h.head, h.own, h.apart, h.nle⟩
theorem RefAt.cell0 {w : World} {lo hi pb n : Nat} {ao : Option Addr} {cap : Nat} {S : Nat → Bool} (h : RefAt w lo hi pb n ao cap S) : w.cell? ⟨pb, 0, none⟩ = some (.slice ao n cap) := by simp [World.cell?, h.head]
theorem RefAt.row {w : World} {lo hi pb n : Nat} {ao : Option Addr} {cap : Nat} {S : Nat → Bool} (h : RefAt w lo hi pb n ao cap S) (hn : 0 < n) :
    ∃ g, ao = some ⟨g, 0, none⟩ ∧ g ≠ pb ∧ lo ≤ g ∧ g < hi ∧ (∀ j, j < n → w.cell? ⟨g, j, none⟩ = some (.bool (S j))) ∧ ∀ j, w.frozen? ⟨g, j, none⟩ = false := by
  rcases h.own.2 with ⟨_, h0⟩ | ⟨g, cap', cur, hv, hb, hg, hnc, hm, hs, ht⟩
  · omega
  · injection hv with e1 e2 e3
    subst e1
    refine ⟨g, rfl, (h.apart g rfl).2, hb, (h.apart g rfl).1, fun j hj => ?_, fun j => by simp only [World.frozen?, hg]; simp⟩
    have hc := h.own.cells (g := g) rfl j _ (bools_get S n j hj)
    have e : (⟨g, 0, none⟩ : Addr).add j = ⟨g, j, none⟩ := by unfold Addr.add; split <;> simp_all
    rwa [e] at hc
theorem RefAt.set {w : World} {lo hi pb n g : Nat} {cap : Nat} {S : Nat → Bool} (h : RefAt w lo hi pb n (some ⟨g, 0, none⟩) cap S) (j : Nat) (b : Bool) :
    RefAt (w.setCell ⟨g, j, none⟩ (.bool b)) lo hi pb n (some ⟨g, 0, none⟩) cap (fun i => if i = j then b else S i) := by
  refine ⟨h.plo, h.phi, by simpa [World.setCell] using h.top, ?_, ?_, h.apart, h.nle⟩
  · rw [Below.heap_setCell _ _ _ _ (fun e => (h.apart g rfl).2 e.symm)]; exact h.head
  · rw [← bools_set]
    exact ownsRow_set h.own j _
theorem RefAt.congr {w : World} {lo hi pb n : Nat} {ao : Option Addr} {cap : Nat} {S T : Nat → Bool} (h : RefAt w lo hi pb n ao cap S) (hST : ∀ i, i < n → S i = T i) : RefAt w lo hi pb n ao cap T :=
  ⟨h.plo, h.phi, h.top, h.head, by rw [← bools_congr hST]; exact h.own, h.apart, h.nle⟩
theorem IsRef.kept {w w' : World} {lo hi n : Nat} {p : Addr} {S : Nat → Bool} (h : IsRef w lo hi p n S) {lo' hi' : Nat} (ho : Only lo' hi' w w') (hd : hi ≤ lo' ∨ hi' ≤ lo) : IsRef w' lo hi p n S := by
  obtain ⟨pb, ao, cap, hp, h⟩ := h
  exact ⟨pb, ao, cap, hp, h.kept ho hd⟩
theorem IsRef.top {w : World} {lo hi n : Nat} {p : Addr} {S : Nat → Bool} (h : IsRef w lo hi p n S) : hi ≤ w.heap.size := by
  obtain ⟨pb, ao, cap, hp, h⟩ := h; exact h.top
theorem IsMap.top {w : World} {lo hi n : Nat} {p : Addr} {S : Nat → Bool} (h : IsMap w lo hi p n S) : hi ≤ w.heap.size := by
  obtain ⟨pb, v, rows, hp, h, _⟩ := h; exact h.top
theorem IsMap.nle {w : World} {lo hi n : Nat} {p : Addr} {S : Nat → Bool} (h : IsMap w lo hi p n S) : n ≤ 262144 := by
  obtain ⟨pb, v, rows, hp, h, _⟩ := h; exact h.nle
theorem IsMap.out {w : World} {lo hi n : Nat} {p : Addr} {S : Nat → Bool} (h : IsMap w lo hi p n S) : ∀ i, n ≤ i → S i = false := by
  obtain ⟨pb, v, rows, hp, h, h2, h3⟩ := h; exact h3
theorem IsRef.still {w w' : World} {lo hi n : Nat} {p : Addr} {S : Nat → Bool} (h : IsRef w lo hi p n S) (ho : Still w w') : IsRef w' lo hi p n S := h.kept ho (.inl h.top)
theorem IsRef.drewN {w : World} {lo hi n : Nat} {p : Addr} {S : Nat → Bool} (h : IsRef w lo hi p n S) (m : Nat) : IsRef (w.drewN m) lo hi p n S := by
  obtain ⟨pb, ao, cap, hp, h⟩ := h
  exact ⟨pb, ao, cap, hp, h.drewN m⟩

/-! ### New -/
theorem Tryd.infoB : (Tryd.prog.info? 4).map (fun i => (i.zero, i.size, i.bytes)) = some (some (.bool false), 1, 1) := by kernel_rfl
set_option maxHeartbeats 400000 in
theorem rnew_core (n : Nat) (w : World) (hn : (n : Int) ≤ 262144) :
    Calls Tryd.prog 33 #[.int .i64 (n : Int)] w fun e w' => e = .returned (.tuple #[.pointer (some ⟨w.heap.size + 1, 0, none⟩), .int .i64 0]) ∧
      w' = (w.alloc (.cells (madeCells #[.bool false] n) 4)).alloc (.cells #[.slice (some ⟨w.heap.size, 0, none⟩) n n] 56) := by
  obtain ⟨i0, hi, hz0, hz1, hz2⟩ := info_parts Tryd.infoB
  have hn0 : (0 : Int) ≤ (n : Int) := by omega
  have hmk := run_make (P := Tryd.prog) w 54 4 i0 (.bool false) Tryd.underlying54 hi hz0 .i64 .i64 (n : Int) (n : Int) (by omega) (Int.le_refl _) (by rw [hz2]; omega) (by omega)
  rw [hz1, Int.toNat_natCast, Nat.mul_one, show (Value.bool false).cells = #[Value.bool false] from rfl] at hmk
  clear hi hz0 hz1 hz2
  go_enter Tryd.func33, Tryd.ntmps33
  go_wp2
  go_ret2
  exact ⟨rfl, rfl⟩
theorem rnew_yes (n : Nat) (w : World) (hn : n ≤ 262144) :
    Calls Tryd.prog 33 #[.int .i64 (n : Int)] w fun e w' => ∃ p, e = .returned (.tuple #[.pointer (some p), .int .i64 0]) ∧ IsRef w' w.heap.size w'.heap.size p n (fun _ => false) ∧ Still w w' := by
  refine (rnew_core n w (by omega)).mono ?_
  rintro e w' ⟨rfl, rfl⟩
  refine ⟨_, rfl, ⟨w.heap.size + 1, some ⟨w.heap.size, 0, none⟩, n, rfl, ⟨by omega, by simp, Nat.le_refl _, ?_, ⟨by rw [bools_length]; omega, .inr ⟨w.heap.size, n, madeCells #[.bool false] n, rfl, Nat.le_refl _, ?_, Nat.le_refl _, by unfold maxLen; omega, by rw [size_madeCells]; omega, ?_⟩⟩, ?_, hn⟩⟩,
    ((Only.refl _ _ w).alloc _).alloc _⟩
  · show (Array.push (Array.push w.heap _) _)[w.heap.size + 1]? = _
    rw [Array.getElem?_push, if_pos (by simp)]
  · show (Array.push (Array.push w.heap _) _)[w.heap.size]? = _
    rw [Array.getElem?_push, if_neg (by simp), Array.getElem?_push, if_pos rfl]
  · rw [made_replicate]
    unfold bools
    simp [List.map_const']
  · intro g hg
    simp only [Value.ownBlock, Option.some.injEq] at hg
    subst hg
    constructor
    · simp; omega
    · omega
set_option maxHeartbeats 400000 in
theorem rnew_no (n : Int) (w : World) (hn : n < 0 ∨ 262144 < n) :
    Calls Tryd.prog 33 #[.int .i64 n] w fun e w' => e = .returned (.tuple #[.pointer none, .int .i64 1]) ∧ w = w' := by
  by_cases h : n < 0
  · clear hn
    go_enter Tryd.func33, Tryd.ntmps33
    go_wp2
    go_ret2
    exact ⟨rfl, rfl⟩
  · have h0 : 0 ≤ n := by omega
    have h1 : 262144 < n := by omega
    clear hn h
    go_enter Tryd.func33, Tryd.ntmps33
    go_wp2
    go_ret2
    exact ⟨rfl, rfl⟩

/-! ### Put, PutRange -/
set_option maxHeartbeats 400000 in
theorem put_core (pb n g cap j : Nat) (b old : Bool) (w : World) (hc0 : w.cell? ⟨pb, 0, none⟩ = some (.slice (some ⟨g, 0, none⟩) n cap)) (hj0 : (0 : Int) ≤ (j : Int)) (hj : (j : Int) < (n : Int))
    (hcj : w.cell? ⟨g, j, none⟩ = some (.bool old)) (hfj : w.frozen? ⟨g, j, none⟩ = false) :
    Calls Tryd.prog 43 #[.pointer (some ⟨pb, 0, none⟩), .int .i64 (j : Int), .bool b] w fun e w' => e = .returned (.int .i64 0) ∧ w' = w.setCell ⟨g, j, none⟩ (.bool b) := by
  have hd : decide (n ≤ j) = false := decide_eq_false (by omega)
  go_enter Tryd.func43, Tryd.ntmps43
  go_wp2
  go_ret
  exact ⟨rfl, rfl⟩
theorem put_yes (lo hi n : Nat) (p : Addr) (S : Nat → Bool) (i : Int) (b : Bool) (w : World) (hm : IsRef w lo hi p n S) (h0 : 0 ≤ i) (h1 : i < (n : Int)) :
    Calls Tryd.prog 43 #[.pointer (some p), .int .i64 i, .bool b] w fun e w' => e = .returned (.int .i64 0) ∧ IsRef w' lo hi p n (rangeS S i (i + 1) b) ∧ Only lo hi w w' := by
  obtain ⟨pb, ao, cap, rfl, hm⟩ := hm
  obtain ⟨j, rfl⟩ : ∃ k : Nat, i = k := ⟨i.toNat, by omega⟩
  obtain ⟨g, rfl, hg1, hg2, hg3, hcell, hfr⟩ := hm.row (by omega)
  refine (put_core pb n g cap j b (S j) w hm.cell0 h0 h1 (hcell j (by omega)) (hfr j)).mono ?_
  rintro e w' ⟨rfl, rfl⟩
  refine ⟨rfl, ⟨pb, _, cap, rfl, (hm.set j b).congr fun i _ => ?_⟩, (Only.refl _ _ w).setCell (.inl ⟨hg2, hg3⟩) _⟩
  unfold rangeS
  by_cases e : i = j
  · subst e; rw [if_pos rfl, if_pos (by omega)]
  · rw [if_neg e, if_neg (by omega)]
set_option maxHeartbeats 400000 in
theorem put_no (lo hi n : Nat) (p : Addr) (S : Nat → Bool) (i : Int) (b : Bool) (w : World) (hm : IsRef w lo hi p n S) (h : i < 0 ∨ (n : Int) ≤ i) :
    Calls Tryd.prog 43 #[.pointer (some p), .int .i64 i, .bool b] w fun e w' => e = .returned (.int .i64 10) ∧ w = w' := by
  obtain ⟨pb, ao, cap, rfl, hm⟩ := hm
  have hc0 := hm.cell0
  clear hm
  by_cases h1 : i < 0
  · clear h
    go_enter Tryd.func43, Tryd.ntmps43
    go_wp2
    go_ret
    exact ⟨rfl, rfl⟩
  · have h2 : (n : Int) ≤ i := by omega
    have h3 : ¬ i < 0 := h1
    clear h h1
    go_enter Tryd.func43, Tryd.ntmps43
    go_wp2
    go_ret
    exact ⟨rfl, rfl⟩
end Go.Proofs.YtppeiljecgeifaaDoor
