/-
  The walks of (*bitmap.Map).Set, Clear, Gap, Copy, Reset, All, and of bitmap.New.
-/
import Derived.Test.YtfbcdmhmpfijjaaGreatDoorQW2
import Derived.Test.YtfbcdmhmpfijjaaGreatDoorQW3
import Derived.OwnWalk
namespace Go.Proofs.YtfbcdmhmpfijjaaGreatDoor
open Go Go.RowKit

/-- A set in which all from f up to, not with, t are put in (b) or taken out. -/
def rangeS (S : Nat → Bool) (f t : Int) (b : Bool) : Nat → Bool := fun i => if f ≤ (i : Int) ∧ (i : Int) < t then b else S i

theorem rangeS_true (S : Nat → Bool) (f t : Int) : (fun i : Nat => S i || (decide (f ≤ (i : Int)) && decide ((i : Int) < t))) = rangeS S f t true := by
  funext i
  unfold rangeS
  by_cases h1 : f ≤ (i : Int) <;> by_cases h2 : (i : Int) < t <;> simp [h1, h2]
theorem rangeS_false (S : Nat → Bool) (f t : Int) : (fun i : Nat => S i && !(decide (f ≤ (i : Int)) && decide ((i : Int) < t))) = rangeS S f t false := by
  funext i
  unfold rangeS
  by_cases h1 : f ≤ (i : Int) <;> by_cases h2 : (i : Int) < t <;> simp [h1, h2]

theorem setRange_any (lo hi n : Nat) (p : Addr) (S : Nat → Bool) (f t : Int) (w : World) (hm : IsMap w lo hi p n S) (h0 : 0 ≤ f) (ht : t ≤ (n : Int)) (hft : f ≤ t) :
    Calls Tryz.prog 102 #[.pointer (some p), .int .i64 f, .int .i64 t] w fun e w' => e = .returned (.int .i64 0) ∧ IsMap w' lo hi p n (rangeS S f t true) ∧ Only lo hi w w' := by
  rw [← rangeS_true]
  exact setRange_yes lo hi n p S f t w hm h0 ht hft
theorem clearRange_any (lo hi n : Nat) (p : Addr) (S : Nat → Bool) (f t : Int) (w : World) (hm : IsMap w lo hi p n S) (h0 : 0 ≤ f) (ht : t ≤ (n : Int)) (hft : f ≤ t) :
    Calls Tryz.prog 131 #[.pointer (some p), .int .i64 f, .int .i64 t] w fun e w' => e = .returned (.int .i64 0) ∧ IsMap w' lo hi p n (rangeS S f t false) ∧ Only lo hi w w' := by
  rw [← rangeS_false]
  exact clearRange_yes lo hi n p S f t w hm h0 ht hft

set_option maxRecDepth 2000 in
set_option maxHeartbeats 400000 in
theorem set_yes (lo hi n : Nat) (p : Addr) (S : Nat → Bool) (i : Int) (w : World) (hm : IsMap w lo hi p n S) (h0 : 0 ≤ i) (h1 : i < (n : Int)) :
    Calls Tryz.prog 52 #[.pointer (some p), .int .i64 i] w fun e w' => e = .returned (.int .i64 0) ∧ IsMap w' lo hi p n (rangeS S i (i + 1) true) ∧ Only lo hi w w' := by
  have hn : (n : Int) ≤ 262144 := by obtain ⟨pb, v, rows, rfl, hm, -⟩ := hm; have := hm.nle; omega
  have HM := Lib.hid hm; clear hm
  go_enter Tryz.func52, Tryz.ntmps52
  go_wp2_with fail
  refine (setRange_any lo hi n p S i (i + 1) _ HM.out h0 (by omega) (by omega)).mono ?_
  rintro e w' ⟨rfl, hm', ho'⟩
  go_wp2
  go_ret
  exact ⟨rfl, hm', ho'⟩
set_option maxRecDepth 2000 in
set_option maxHeartbeats 400000 in
theorem clear_yes (lo hi n : Nat) (p : Addr) (S : Nat → Bool) (i : Int) (w : World) (hm : IsMap w lo hi p n S) (h0 : 0 ≤ i) (h1 : i < (n : Int)) :
    Calls Tryz.prog 99 #[.pointer (some p), .int .i64 i] w fun e w' => e = .returned (.int .i64 0) ∧ IsMap w' lo hi p n (rangeS S i (i + 1) false) ∧ Only lo hi w w' := by
  have hn : (n : Int) ≤ 262144 := by obtain ⟨pb, v, rows, rfl, hm, -⟩ := hm; have := hm.nle; omega
  have HM := Lib.hid hm; clear hm
  go_enter Tryz.func99, Tryz.ntmps99
  go_wp2_with fail
  refine (clearRange_any lo hi n p S i (i + 1) _ HM.out h0 (by omega) (by omega)).mono ?_
  rintro e w' ⟨rfl, hm', ho'⟩
  go_wp2
  go_ret
  exact ⟨rfl, hm', ho'⟩
/-! ### New -/
theorem Tryz.infoU : (Tryz.prog.info? 139).map (fun i => (i.zero, i.size, i.bytes)) = some (some (.int .u64 0), 1, 8) := by kernel_rfl

theorem made_replicate (z : Value) (n : Nat) : madeCells #[z] n = Array.replicate n z := by
  unfold madeCells
  apply Array.ext
  · simp
  · intro i h1 h2
    simp [Nat.mod_one]

theorem mapAt_new (w : World) (n : Nat) (hn : n ≤ 262144) :
    MapAt ((w.alloc (.cells (madeCells #[.int .u64 0] ((n + 63) / 64)) 139)).alloc (.cells #[.int .i64 (n : Int), .slice (some ⟨w.heap.size, 0, none⟩) ((n + 63) / 64) ((n + 63) / 64)] 135)) w.heap.size (w.heap.size + 2) (w.heap.size + 1) n
      (.slice (some ⟨w.heap.size, 0, none⟩) ((n + 63) / 64) ((n + 63) / 64)) (List.replicate ((n + 63) / 64) 0) := by
  refine ⟨by omega, by omega, by simp, ?_, ?_, ?_, ?_, hn⟩
  · show (Array.push (Array.push w.heap _) _)[w.heap.size + 1]? = _
    rw [Array.getElem?_push, if_pos (by simp)]
  · refine ⟨by simp, .inr ⟨w.heap.size, (n + 63) / 64, madeCells #[.int .u64 0] ((n + 63) / 64), rfl, Nat.le_refl _, ?_, Nat.le_refl _, by unfold maxLen; omega, by rw [size_madeCells]; omega, ?_⟩⟩
    · show (Array.push (Array.push w.heap _) _)[w.heap.size]? = _
      rw [Array.getElem?_push, if_neg (by simp), Array.getElem?_push, if_pos rfl]
    · rw [made_replicate]
      simp
  · intro g hg
    simp only [Value.ownBlock, Option.some.injEq] at hg
    omega
  · intro r hr
    have := List.eq_of_mem_replicate hr
    omega

set_option maxRecDepth 2000 in
set_option maxHeartbeats 400000 in
theorem new_core (n : Nat) (w : World) (hn : (n : Int) ≤ 262144) :
    Calls Tryz.prog 45 #[.int .i64 (n : Int)] w fun e w' => e = .returned (.tuple #[.pointer (some ⟨w.heap.size + 1, 0, none⟩), .int .i64 0]) ∧
      w' = (w.alloc (.cells (madeCells #[.int .u64 0] ((n + 63) / 64)) 139)).alloc (.cells #[.int .i64 (n : Int), .slice (some ⟨w.heap.size, 0, none⟩) ((n + 63) / 64) ((n + 63) / 64)] 135) := by
  obtain ⟨i0, hi, hz0, hz1, hz2⟩ := info_parts Tryz.infoU
  have hn0 : (0 : Int) ≤ (n : Int) := by omega
  have hmk := run_make (P := Tryz.prog) w 133 139 i0 (.int .u64 0) Tryz.underlying133 hi hz0 .i64 .i64 (((n : Int) + 63) / 64) (((n : Int) + 63) / 64) (by omega) (Int.le_refl _) (by rw [hz2]; omega) (by omega)
  rw [hz1, show (((n : Int) + 63) / 64).toNat = (n + 63) / 64 by omega, Nat.mul_one, show (Value.int IntKind.u64 0).cells = #[Value.int IntKind.u64 0] from rfl] at hmk
  clear hi hz0 hz1 hz2
  go_enter Tryz.func45, Tryz.ntmps45
  go_wp2
  go_ret2
  exact ⟨rfl, rfl⟩
theorem isMap_new (w : World) (n : Nat) (hn : n ≤ 262144) :
    IsMap ((w.alloc (.cells (madeCells #[.int .u64 0] ((n + 63) / 64)) 139)).alloc (.cells #[.int .i64 (n : Int), .slice (some ⟨w.heap.size, 0, none⟩) ((n + 63) / 64) ((n + 63) / 64)] 135)) w.heap.size (w.heap.size + 2) ⟨w.heap.size + 1, 0, none⟩ n (fun _ => false) := by
  refine ⟨_, _, _, rfl, mapAt_new w n hn, fun i hi => ?_, fun i _ => rfl⟩
  rw [List.getD_eq_getElem?_getD]
  have : (List.replicate ((n + 63) / 64) 0)[i / 64]?.getD 0 = 0 := by
    rw [List.getElem?_replicate]; split <;> rfl
  rw [this]; simp
/-- New, where there is one: an empty map in new memory. -/
theorem new_yes (n : Nat) (w : World) (hn : n ≤ 262144) :
    Calls Tryz.prog 45 #[.int .i64 (n : Int)] w fun e w' => ∃ p, e = .returned (.tuple #[.pointer (some p), .int .i64 0]) ∧ IsMap w' w.heap.size w'.heap.size p n (fun _ => false) ∧ Still w w' := by
  refine (new_core n w (by omega)).mono ?_
  rintro e w' ⟨rfl, rfl⟩
  exact ⟨_, rfl, by have := isMap_new w n hn; simpa using this, ((Only.refl _ _ w).alloc _).alloc _⟩
/-! ### Gap -/
theorem IsMap.drewN {w : World} {lo hi n : Nat} {p : Addr} {S : Nat → Bool} (h : IsMap w lo hi p n S) (m : Nat) : IsMap (w.drewN m) lo hi p n S := by
  obtain ⟨pb, v, rows, hp, hm, hS⟩ := h
  exact ⟨pb, v, rows, hp, ⟨hm.plo, hm.phi, hm.top, hm.head, hm.own, hm.apart, hm.small, hm.nle⟩, hS⟩
theorem Tab.drewN {w : World} (h : Tab w) (m : Nat) : Tab (w.drewN m) := h
theorem Tab.only {w w' : World} (h : Tab w) {lo hi : Nat} (ho : Only lo hi w w') (hlo : 0 < lo) : Tab w' := by
  intro j hj
  have hc := h j hj
  rw [← hc]
  exact ho.cell (by have := World.block_lt_of_cell? w _ hc; exact this) (.inl hlo)

end Go.Proofs.YtfbcdmhmpfijjaaGreatDoor
