/-
  The walks of (*hearth/bitmap.Map).SetRange, ClearRange.
-/
import Derived.Test.YtfbcdmhmpfijjaaGreatDoorQW1
import Derived.Test.YtfbcdmhmpfijjaaGreatDoorQD1
import Derived.StillTailTactics
import Derived.LoopTactic
namespace Go.Proofs.YtfbcdmhmpfijjaaGreatDoor
open Go Go.RowKit

set_option maxRecDepth 2000 in
set_option maxHeartbeats 400000 in
theorem good_any (pb n : Nat) (f t : Int) (w : World) (h0 : w.cell? ⟨pb, 0, none⟩ = some (.int .i64 (n : Int))) (hf : 0 ≤ f) (ht : t ≤ (n : Int)) (hft : f ≤ t) :
    Calls Tryz.prog 132 #[.pointer (some ⟨pb, 0, none⟩), .int .i64 f, .int .i64 t] w fun e w' => e = .returned (.bool true) ∧ w = w' := by
  go_enter Tryz.func132, Tryz.ntmps132
  go_wp2
  go_ret
  exact ⟨rfl, rfl⟩
/-- The rows behind some rounds: those from a up to, not with, b are turned by their part of the range. -/
def turnRows (T : Nat → Nat → Nat) (rows : List Nat) (a b : Nat) : List Nat := rows.mapIdx fun j r => if a ≤ j ∧ j < b then T j r else r

theorem turnRows_start (T : Nat → Nat → Nat) (rows : List Nat) (a : Nat) : turnRows T rows a a = rows := by
  unfold turnRows
  apply List.ext_getElem?
  intro j
  rw [List.getElem?_mapIdx]
  cases rows[j]? with
  | none => rfl
  | some r => simp; omega
theorem turnRows_step (T : Nat → Nat → Nat) (rows : List Nat) (a k : Nat) (ha : a ≤ k) (hk : k < rows.length) :
    (turnRows T rows a k).set k (T k ((turnRows T rows a k).getD k 0)) = turnRows T rows a (k + 1) := by
  apply List.ext_getElem?
  intro j
  unfold turnRows
  rw [List.getElem?_set, List.getD_eq_getElem?_getD, List.getElem?_mapIdx, List.getElem?_mapIdx, List.getElem?_mapIdx]
  by_cases hj : k = j
  · subst hj
    simp only [List.length_mapIdx, hk, if_true, List.getElem?_eq_getElem hk, Option.map_some, Option.getD_some]
    rw [if_neg (by omega), if_pos (by omega)]
  · simp only [hj, if_false]
    cases rows[j]? with
    | none => rfl
    | some r =>
      simp only [Option.map_some]
      by_cases h : a ≤ j ∧ j < k
      · rw [if_pos h, if_pos (by omega)]
      · rw [if_neg h, if_neg (by omega)]
theorem turnRows_length (T : Nat → Nat → Nat) (rows : List Nat) (a k : Nat) : (turnRows T rows a k).length = rows.length := by simp [turnRows]
theorem turnRows_getD (T : Nat → Nat → Nat) (rows : List Nat) (a b j : Nat) (hj : j < rows.length) : (turnRows T rows a b).getD j 0 = if a ≤ j ∧ j < b then T j (rows.getD j 0) else rows.getD j 0 := by
  unfold turnRows
  rw [List.getD_eq_getElem?_getD, List.getD_eq_getElem?_getD, List.getElem?_mapIdx, List.getElem?_eq_getElem hj]
  rfl

/-- Joined with the range's part; without it. -/
def joinT (f t j r : Nat) : Nat := r ||| Bm.partN j f t
def cutT (f t j r : Nat) : Nat := r ^^^ (r &&& Bm.partN j f t)

theorem join_bit (rows : List Nat) (f t b i : Nat) (h : t ≤ b * 64) (hi : i / 64 < rows.length) :
    ((turnRows (joinT f t) rows (f / 64) b).getD (i / 64) 0).testBit (i % 64) = ((rows.getD (i / 64) 0).testBit (i % 64) || (decide (f ≤ i) && decide (i < t))) := by
  rw [turnRows_getD _ _ _ _ _ hi]
  have e : i / 64 * 64 + i % 64 = i := by omega
  by_cases hc : f / 64 ≤ i / 64 ∧ i / 64 < b
  · rw [if_pos hc]
    unfold joinT
    rw [Nat.testBit_or, Bm.partN_bit, e, show decide (i % 64 < 64) = true from decide_eq_true (by omega), Bool.true_and]
  · rw [if_neg hc]
    have : (decide (f ≤ i) && decide (i < t)) = false := by
      by_cases h1 : f ≤ i
      · have h2 : ¬ i < t := by omega
        simp [h2]
      · simp [h1]
    rw [this, Bool.or_false]
theorem cut_bit (rows : List Nat) (f t b i : Nat) (h : t ≤ b * 64) (hi : i / 64 < rows.length) :
    ((turnRows (cutT f t) rows (f / 64) b).getD (i / 64) 0).testBit (i % 64) = ((rows.getD (i / 64) 0).testBit (i % 64) && !(decide (f ≤ i) && decide (i < t))) := by
  rw [turnRows_getD _ _ _ _ _ hi]
  have e : i / 64 * 64 + i % 64 = i := by omega
  by_cases hc : f / 64 ≤ i / 64 ∧ i / 64 < b
  · rw [if_pos hc]
    unfold cutT
    rw [Bm.andNot_bit, Bm.partN_bit, e, show decide (i % 64 < 64) = true from decide_eq_true (by omega), Bool.true_and]
  · rw [if_neg hc]
    have : (decide (f ≤ i) && decide (i < t)) = false := by
      by_cases h1 : f ≤ i
      · have h2 : ¬ i < t := by omega
        simp [h2]
      · simp [h1]
    rw [this]; simp

set_option maxRecDepth 2000 in
set_option maxHeartbeats 800000 in
theorem setRange_rows (lo hi pb n g cap : Nat) (rows : List Nat) (f t : Nat) (w : World) (hm : MapAt w lo hi pb n (.slice (some ⟨g, 0, none⟩) ((n + 63) / 64) cap) rows) (hft : f ≤ t) (ht : t ≤ n) :
    Calls Tryz.prog 102 #[.pointer (some ⟨pb, 0, none⟩), .int .i64 (f : Int), .int .i64 (t : Int)] w fun e w' => e = .returned (.int .i64 0) ∧
      ∃ b, t ≤ b * 64 ∧ MapAt w' lo hi pb n (.slice (some ⟨g, 0, none⟩) ((n + 63) / 64) cap) (turnRows (joinT f t) rows (f / 64) b) ∧ Only lo hi w w' := by
  have hn := hm.nle
  have hc0 := hm.cell0
  have hft' : (f : Int) ≤ (t : Int) := by omega
  have ht' : (t : Int) ≤ (n : Int) := by omega
  have HM := Lib.hid hm; clear hm
  go_enter Tryz.func102, Tryz.ntmps102
  go_wp2_with fail
  refine (good_any pb n _ _ _ hc0 (by omega) ht' hft').mono ?_
  rintro e w' ⟨rfl, rfl⟩
  go_wp2_with fail
  go_loopw [7] (fun i wr => ∃ k : Nat, f / 64 ≤ k ∧ k * 64 < t + 64 ∧ i = .int .i64 k ∧ MapAt wr lo hi pb n (.slice (some ⟨g, 0, none⟩) ((n + 63) / 64) cap) (turnRows (joinT f t) rows (f / 64) k) ∧ Only lo hi w wr) (fun i _ => t - (intOf i).toNat)
  case atStart => exact ⟨f / 64, Nat.le_refl _, by omega, by go_num, by rw [turnRows_start]; exact HM.out, Only.refl _ _ _⟩
  case round =>
    obtain ⟨k, hk1, hk2, rfl, hm, ho⟩ := hrel
    by_cases hlt : k * 64 < t
    · have hlt' : (k : Int) * 64 < (t : Int) := by omega
      have hkL : k < (n + 63) / 64 := by omega
      have hkL' : (k : Int) < ((n : Int) + 63) / 64 := by omega
      have hk0 : (0 : Int) ≤ (k : Int) := by omega
      obtain ⟨g', cap', hv, hgp, hlg, hgh, hLc, hcm, hcell, hfr⟩ := hm.slice (by omega)
      injection hv with e1 e2 e3
      injection e1 with e1
      injection e1 with e1
      subst e1; subst e3
      clear e2
      have hc0 := hm.cell0
      have hc1 := hm.cell1
      have hck := hcell k hkL
      have hfk := hfr k
      clear hcell hfr
      have HM2 := Lib.hid hm; clear hm
      have HO := Lib.hid ho; clear ho
      go_wp2_with fail
      go_still_tail 13, (by kernel_rfl)
      still_call ((part_any (k : Int) (f : Int) (t : Int) _ (by omega) (by omega) (by omega) (by omega) (by omega) (by omega) (by omega) (by omega)).mono fun _ _ ⟨h1, h2⟩ => ⟨h1, h2.symm⟩)
      repeat still_step
      refine wpStill_nil ?_
      change wpList _ _ _ _ _ wr.drew
      go_wp2
      go_roundw
      case rel =>
        have hsm := HM2.out.small
        have hlen : (turnRows (joinT f t) rows (f / 64) k).length = (n + 63) / 64 := HM2.out.len
        have hrk : ((turnRows (joinT f t) rows (f / 64) k)[k]?.getD 0) = (turnRows (joinT f t) rows (f / 64) k).getD k 0 := by rw [List.getD_eq_getElem?_getD]
        have hx : (turnRows (joinT f t) rows (f / 64) k).getD k 0 < 18446744073709551616 := by
          refine hsm _ ?_
          rw [List.getD_eq_getElem?_getD, List.getElem?_eq_getElem (by omega)]
          exact List.getElem_mem _
        refine ⟨k + 1, by omega, by omega, by go_num, ?_, ?_⟩
        · rw [hrk, bits_or_u64_nat _ _ hx (Bm.partN_lt _ _ _), ← turnRows_step (joinT f t) _ _ _ hk1 (by rw [turnRows_length] at hlen; omega)]
          exact (HM2.out.set k _ (Bm.or_lt hx (Bm.partN_lt _ _ _))).drew
        · exact (HO.out.setCell (.inl ⟨hlg, hgh⟩) _).drew
      case measure => simp [intOf]; omega
    · go_wp2
      go_ret
      exact ⟨rfl, k, by omega, hm, ho⟩
set_option maxRecDepth 2000 in
set_option maxHeartbeats 800000 in
theorem clearRange_rows (lo hi pb n g cap : Nat) (rows : List Nat) (f t : Nat) (w : World) (hm : MapAt w lo hi pb n (.slice (some ⟨g, 0, none⟩) ((n + 63) / 64) cap) rows) (hft : f ≤ t) (ht : t ≤ n) :
    Calls Tryz.prog 131 #[.pointer (some ⟨pb, 0, none⟩), .int .i64 (f : Int), .int .i64 (t : Int)] w fun e w' => e = .returned (.int .i64 0) ∧
      ∃ b, t ≤ b * 64 ∧ MapAt w' lo hi pb n (.slice (some ⟨g, 0, none⟩) ((n + 63) / 64) cap) (turnRows (cutT f t) rows (f / 64) b) ∧ Only lo hi w w' := by
  have hn := hm.nle
  have hc0 := hm.cell0
  have hft' : (f : Int) ≤ (t : Int) := by omega
  have ht' : (t : Int) ≤ (n : Int) := by omega
  have HM := Lib.hid hm; clear hm
  go_enter Tryz.func131, Tryz.ntmps131
  go_wp2_with fail
  refine (good_any pb n _ _ _ hc0 (by omega) ht' hft').mono ?_
  rintro e w' ⟨rfl, rfl⟩
  go_wp2_with fail
  go_loopw [7] (fun i wr => ∃ k : Nat, f / 64 ≤ k ∧ k * 64 < t + 64 ∧ i = .int .i64 k ∧ MapAt wr lo hi pb n (.slice (some ⟨g, 0, none⟩) ((n + 63) / 64) cap) (turnRows (cutT f t) rows (f / 64) k) ∧ Only lo hi w wr) (fun i _ => t - (intOf i).toNat)
  case atStart => exact ⟨f / 64, Nat.le_refl _, by omega, by go_num, by rw [turnRows_start]; exact HM.out, Only.refl _ _ _⟩
  case round =>
    obtain ⟨k, hk1, hk2, rfl, hm, ho⟩ := hrel
    by_cases hlt : k * 64 < t
    · have hlt' : (k : Int) * 64 < (t : Int) := by omega
      have hkL : k < (n + 63) / 64 := by omega
      have hkL' : (k : Int) < ((n : Int) + 63) / 64 := by omega
      have hk0 : (0 : Int) ≤ (k : Int) := by omega
      obtain ⟨g', cap', hv, hgp, hlg, hgh, hLc, hcm, hcell, hfr⟩ := hm.slice (by omega)
      injection hv with e1 e2 e3
      injection e1 with e1
      injection e1 with e1
      subst e1; subst e3
      clear e2
      have hc0 := hm.cell0
      have hc1 := hm.cell1
      have hck := hcell k hkL
      have hfk := hfr k
      clear hcell hfr
      have HM2 := Lib.hid hm; clear hm
      have HO := Lib.hid ho; clear ho
      go_wp2_with fail
      go_still_tail 13, (by kernel_rfl)
      still_call ((part_any (k : Int) (f : Int) (t : Int) _ (by omega) (by omega) (by omega) (by omega) (by omega) (by omega) (by omega) (by omega)).mono fun _ _ ⟨h1, h2⟩ => ⟨h1, h2.symm⟩)
      repeat still_step
      refine wpStill_nil ?_
      change wpList _ _ _ _ _ wr.drew
      go_wp2
      go_roundw
      case rel =>
        have hsm := HM2.out.small
        have hlen : (turnRows (cutT f t) rows (f / 64) k).length = (n + 63) / 64 := HM2.out.len
        have hrk : ((turnRows (cutT f t) rows (f / 64) k)[k]?.getD 0) = (turnRows (cutT f t) rows (f / 64) k).getD k 0 := by rw [List.getD_eq_getElem?_getD]
        have hx : (turnRows (cutT f t) rows (f / 64) k).getD k 0 < 18446744073709551616 := by
          refine hsm _ ?_
          rw [List.getD_eq_getElem?_getD, List.getElem?_eq_getElem (by omega)]
          exact List.getElem_mem _
        refine ⟨k + 1, by omega, by omega, by go_num, ?_, ?_⟩
        · rw [hrk, Bm.bits_andNot_u64_nat _ _ hx (Bm.partN_lt _ _ _), ← turnRows_step (cutT f t) _ _ _ hk1 (by rw [turnRows_length] at hlen; omega)]
          exact (HM2.out.set k _ (Bm.andNot_lt hx)).drew
        · exact (HO.out.setCell (.inl ⟨hlg, hgh⟩) _).drew
      case measure => simp [intOf]; omega
    · go_wp2
      go_ret
      exact ⟨rfl, k, by omega, hm, ho⟩


set_option maxRecDepth 2000 in
set_option maxHeartbeats 400000 in
theorem setRange_zero (pb : Nat) (w : World) (h0 : w.cell? ⟨pb, 0, none⟩ = some (.int .i64 ((0 : Nat) : Int))) :
    Calls Tryz.prog 102 #[.pointer (some ⟨pb, 0, none⟩), .int .i64 0, .int .i64 0] w fun e w' => e = .returned (.int .i64 0) ∧ w = w' := by
  have hb : (0 : Int) ≤ ((0 : Nat) : Int) := by omega
  go_enter Tryz.func102, Tryz.ntmps102
  go_wp2_with fail
  refine (good_any pb 0 0 0 _ h0 (by omega) hb (by omega)).mono ?_
  rintro e w' ⟨rfl, rfl⟩
  go_wp2_with fail
  refine wp_loop_rounds 1 ?_
  rw [rounds_succ]
  go_wp2
  go_ret
  exact ⟨rfl, rfl⟩
theorem setRange_yes (lo hi n : Nat) (p : Addr) (S : Nat → Bool) (f t : Int) (w : World) (hm : IsMap w lo hi p n S) (h0 : 0 ≤ f) (ht : t ≤ (n : Int)) (hft : f ≤ t) :
    Calls Tryz.prog 102 #[.pointer (some p), .int .i64 f, .int .i64 t] w fun e w' => e = .returned (.int .i64 0) ∧
      IsMap w' lo hi p n (fun i => S i || (decide (f ≤ (i : Int)) && decide ((i : Int) < t))) ∧ Only lo hi w w' := by
  obtain ⟨pb, v, rows, rfl, hm, hS, hz⟩ := hm
  obtain ⟨f, rfl⟩ : ∃ k : Nat, f = k := ⟨f.toNat, by omega⟩
  obtain ⟨t, rfl⟩ : ∃ k : Nat, t = k := ⟨t.toNat, by omega⟩
  by_cases hn : 0 < n
  · obtain ⟨g, cap, rfl, -⟩ := hm.slice hn
    refine (setRange_rows lo hi pb n g cap rows f t w hm (by omega) (by omega)).mono ?_
    rintro e w' ⟨rfl, b, hb, hm', ho⟩
    refine ⟨rfl, ⟨pb, _, _, rfl, hm', ?_, ?_⟩, ho⟩
    · intro i hi2
      rw [join_bit rows f t b i hb (by rw [hm.len]; omega), hS i hi2]
      simp
    · intro i hi2
      have := hz i hi2
      have h1 : decide ((i : Int) < (t : Int)) = false := decide_eq_false (by omega)
      simp only [this, h1]; simp
  · obtain rfl : n = 0 := by omega
    obtain rfl : t = 0 := by omega
    obtain rfl : f = 0 := by omega
    refine (setRange_zero pb w hm.cell0).mono ?_
    rintro e w' ⟨rfl, rfl⟩
    refine ⟨rfl, ⟨pb, v, rows, rfl, hm, fun i h => by omega, fun i h => ?_⟩, Only.refl _ _ _⟩
    have := hz i h
    have h1 : decide ((i : Int) < ((0 : Nat) : Int)) = false := decide_eq_false (by omega)
    simp only [this, h1]; simp
set_option maxRecDepth 2000 in
set_option maxHeartbeats 400000 in
theorem clearRange_zero (pb : Nat) (w : World) (h0 : w.cell? ⟨pb, 0, none⟩ = some (.int .i64 ((0 : Nat) : Int))) :
    Calls Tryz.prog 131 #[.pointer (some ⟨pb, 0, none⟩), .int .i64 0, .int .i64 0] w fun e w' => e = .returned (.int .i64 0) ∧ w = w' := by
  have hb : (0 : Int) ≤ ((0 : Nat) : Int) := by omega
  go_enter Tryz.func131, Tryz.ntmps131
  go_wp2_with fail
  refine (good_any pb 0 0 0 _ h0 (by omega) hb (by omega)).mono ?_
  rintro e w' ⟨rfl, rfl⟩
  go_wp2_with fail
  refine wp_loop_rounds 1 ?_
  rw [rounds_succ]
  go_wp2
  go_ret
  exact ⟨rfl, rfl⟩
theorem clearRange_yes (lo hi n : Nat) (p : Addr) (S : Nat → Bool) (f t : Int) (w : World) (hm : IsMap w lo hi p n S) (h0 : 0 ≤ f) (ht : t ≤ (n : Int)) (hft : f ≤ t) :
    Calls Tryz.prog 131 #[.pointer (some p), .int .i64 f, .int .i64 t] w fun e w' => e = .returned (.int .i64 0) ∧
      IsMap w' lo hi p n (fun i => S i && !(decide (f ≤ (i : Int)) && decide ((i : Int) < t))) ∧ Only lo hi w w' := by
  obtain ⟨pb, v, rows, rfl, hm, hS, hz⟩ := hm
  obtain ⟨f, rfl⟩ : ∃ k : Nat, f = k := ⟨f.toNat, by omega⟩
  obtain ⟨t, rfl⟩ : ∃ k : Nat, t = k := ⟨t.toNat, by omega⟩
  by_cases hn : 0 < n
  · obtain ⟨g, cap, rfl, -⟩ := hm.slice hn
    refine (clearRange_rows lo hi pb n g cap rows f t w hm (by omega) (by omega)).mono ?_
    rintro e w' ⟨rfl, b, hb, hm', ho⟩
    refine ⟨rfl, ⟨pb, _, _, rfl, hm', ?_, ?_⟩, ho⟩
    · intro i hi2
      rw [cut_bit rows f t b i hb (by rw [hm.len]; omega), hS i hi2]
      simp
    · intro i hi2
      have := hz i hi2
      have h1 : decide ((i : Int) < (t : Int)) = false := decide_eq_false (by omega)
      simp only [this, h1]; simp
  · obtain rfl : n = 0 := by omega
    obtain rfl : t = 0 := by omega
    obtain rfl : f = 0 := by omega
    refine (clearRange_zero pb w hm.cell0).mono ?_
    rintro e w' ⟨rfl, rfl⟩
    refine ⟨rfl, ⟨pb, v, rows, rfl, hm, fun i h => by omega, fun i h => ?_⟩, Only.refl _ _ _⟩
    have := hz i h
    have h1 : decide ((i : Int) < ((0 : Nat) : Int)) = false := decide_eq_false (by omega)
    simp only [this, h1]; simp
end Go.Proofs.YtfbcdmhmpfijjaaGreatDoor
