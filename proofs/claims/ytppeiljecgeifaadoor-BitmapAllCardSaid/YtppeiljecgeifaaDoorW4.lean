/-
  The walks of (*bitmap.Map).Set, Clear, Gap, Copy, Reset, All, and of bitmap.New.
-/
import Derived.Test.YtppeiljecgeifaaDoorW2
import Derived.Test.YtppeiljecgeifaaDoorW3
import Derived.OwnWalk
namespace Go.Proofs.YtppeiljecgeifaaDoor
open Go Go.RowKit

/-- A set in which all from f up to, not with, t are put in (b) or taken out. -/
def rangeS (S : Nat → Bool) (f t : Int) (b : Bool) : Nat → Bool := fun i => if f ≤ (i : Int) ∧ (i : Int) < t then b else S i

theorem rangeS_true (S : Nat → Bool) (f t : Int) : (fun i : Nat => S i || (decide (f ≤ (i : Int)) && decide ((i : Int) < t))) = rangeS S f t true := by
  funext i
  unfold rangeS
  by_cases h1 : f ≤ (i : Int) <;> by_cases h2 : (i : Int) < t <;> simp [h1, h2]
theorem rangeS_false (S : Nat → Bool) (f t : Int) : (fun i : Nat => S i && !(decide (f ≤ (i : Int)) && decide ((i : Int) < t))) = rangeS S f t false := by
  funext i
  unfold rangeS
  by_cases h1 : f ≤ (i : Int) <;> by_cases h2 : (i : Int) < t <;> simp [h1, h2]

theorem setRange_any (lo hi n : Nat) (p : Addr) (S : Nat → Bool) (f t : Int) (w : World) (hm : IsMap w lo hi p n S) (h0 : 0 ≤ f) (ht : t ≤ (n : Int)) (hft : f ≤ t) :
    Calls Tryd.prog 19 #[.pointer (some p), .int .i64 f, .int .i64 t] w fun e w' => e = .returned (.int .i64 0) ∧ IsMap w' lo hi p n (rangeS S f t true) ∧ Only lo hi w w' := by
  rw [← rangeS_true]
  exact setRange_yes lo hi n p S f t w hm h0 ht hft
theorem clearRange_any (lo hi n : Nat) (p : Addr) (S : Nat → Bool) (f t : Int) (w : World) (hm : IsMap w lo hi p n S) (h0 : 0 ≤ f) (ht : t ≤ (n : Int)) (hft : f ≤ t) :
    Calls Tryd.prog 20 #[.pointer (some p), .int .i64 f, .int .i64 t] w fun e w' => e = .returned (.int .i64 0) ∧ IsMap w' lo hi p n (rangeS S f t false) ∧ Only lo hi w w' := by
  rw [← rangeS_false]
  exact clearRange_yes lo hi n p S f t w hm h0 ht hft

set_option maxHeartbeats 400000 in
theorem set_yes (lo hi n : Nat) (p : Addr) (S : Nat → Bool) (i : Int) (w : World) (hm : IsMap w lo hi p n S) (h0 : 0 ≤ i) (h1 : i < (n : Int)) :
    Calls Tryd.prog 28 #[.pointer (some p), .int .i64 i] w fun e w' => e = .returned (.int .i64 0) ∧ IsMap w' lo hi p n (rangeS S i (i + 1) true) ∧ Only lo hi w w' := by
  have hn : (n : Int) ≤ 262144 := by obtain ⟨pb, v, rows, rfl, hm, -⟩ := hm; have := hm.nle; omega
  have HM := Lib.hid hm; clear hm
  go_enter Tryd.func28, Tryd.ntmps28
  go_wp2_with fail
  refine (setRange_any lo hi n p S i (i + 1) _ HM.out h0 (by omega) (by omega)).mono ?_
  rintro e w' ⟨rfl, hm', ho'⟩
  go_wp2
  go_ret
  exact ⟨rfl, hm', ho'⟩
set_option maxHeartbeats 400000 in
theorem clear_yes (lo hi n : Nat) (p : Addr) (S : Nat → Bool) (i : Int) (w : World) (hm : IsMap w lo hi p n S) (h0 : 0 ≤ i) (h1 : i < (n : Int)) :
    Calls Tryd.prog 44 #[.pointer (some p), .int .i64 i] w fun e w' => e = .returned (.int .i64 0) ∧ IsMap w' lo hi p n (rangeS S i (i + 1) false) ∧ Only lo hi w w' := by
  have hn : (n : Int) ≤ 262144 := by obtain ⟨pb, v, rows, rfl, hm, -⟩ := hm; have := hm.nle; omega
  have HM := Lib.hid hm; clear hm
  go_enter Tryd.func44, Tryd.ntmps44
  go_wp2_with fail
  refine (clearRange_any lo hi n p S i (i + 1) _ HM.out h0 (by omega) (by omega)).mono ?_
  rintro e w' ⟨rfl, hm', ho'⟩
  go_wp2
  go_ret
  exact ⟨rfl, hm', ho'⟩
theorem out_of_range (i : Int) (n : Nat) (_hn : (n : Int) ≤ 262144) (h2 : i ≤ 9223372036854775807) (h : i < 0 ∨ (n : Int) ≤ i) : ¬ (0 ≤ i ∧ wrap64 (i + 1) ≤ (n : Int) ∧ i ≤ wrap64 (i + 1)) := by
  unfold wrap64
  omega
set_option maxHeartbeats 400000 in
theorem set_no (lo hi n : Nat) (p : Addr) (S : Nat → Bool) (i : Int) (w : World) (hm : IsMap w lo hi p n S) (h2 : i ≤ 9223372036854775807) (h : i < 0 ∨ (n : Int) ≤ i) :
    Calls Tryd.prog 28 #[.pointer (some p), .int .i64 i] w fun e w' => e = .returned (.int .i64 10) ∧ w = w' := by
  have hn : (n : Int) ≤ 262144 := by obtain ⟨pb, v, rows, rfl, hm, -⟩ := hm; have := hm.nle; omega
  have HO := Lib.hid (out_of_range i n hn h2 h)
  clear h h2
  have HM := Lib.hid hm; clear hm
  go_enter Tryd.func28, Tryd.ntmps28
  go_wp2_with fail
  refine (setRange_no lo hi n p S i _ _ HM.out HO.out).mono ?_
  rintro e w' ⟨rfl, rfl⟩
  go_wp2
  go_ret
  exact ⟨rfl, rfl⟩
set_option maxHeartbeats 400000 in
theorem clear_no (lo hi n : Nat) (p : Addr) (S : Nat → Bool) (i : Int) (w : World) (hm : IsMap w lo hi p n S) (h2 : i ≤ 9223372036854775807) (h : i < 0 ∨ (n : Int) ≤ i) :
    Calls Tryd.prog 44 #[.pointer (some p), .int .i64 i] w fun e w' => e = .returned (.int .i64 10) ∧ w = w' := by
  have hn : (n : Int) ≤ 262144 := by obtain ⟨pb, v, rows, rfl, hm, -⟩ := hm; have := hm.nle; omega
  have HO := Lib.hid (out_of_range i n hn h2 h)
  clear h h2
  have HM := Lib.hid hm; clear hm
  go_enter Tryd.func44, Tryd.ntmps44
  go_wp2_with fail
  refine (clearRange_no lo hi n p S i _ _ HM.out HO.out).mono ?_
  rintro e w' ⟨rfl, rfl⟩
  go_wp2
  go_ret
  exact ⟨rfl, rfl⟩

/-! ### New -/
theorem Tryd.infoU : (Tryd.prog.info? 61).map (fun i => (i.zero, i.size, i.bytes)) = some (some (.int .u64 0), 1, 8) := by kernel_rfl

theorem made_replicate (z : Value) (n : Nat) : madeCells #[z] n = Array.replicate n z := by
  unfold madeCells
  apply Array.ext
  · simp
  · intro i h1 h2
    simp [Nat.mod_one]

theorem mapAt_new (w : World) (n : Nat) (hn : n ≤ 262144) :
    MapAt ((w.alloc (.cells (madeCells #[.int .u64 0] ((n + 63) / 64)) 61)).alloc (.cells #[.int .i64 (n : Int), .slice (some ⟨w.heap.size, 0, none⟩) ((n + 63) / 64) ((n + 63) / 64)] 59)) w.heap.size (w.heap.size + 2) (w.heap.size + 1) n
      (.slice (some ⟨w.heap.size, 0, none⟩) ((n + 63) / 64) ((n + 63) / 64)) (List.replicate ((n + 63) / 64) 0) := by
  refine ⟨by omega, by omega, by simp, ?_, ?_, ?_, ?_, hn⟩
  · show (Array.push (Array.push w.heap _) _)[w.heap.size + 1]? = _
    rw [Array.getElem?_push, if_pos (by simp)]
  · refine ⟨by simp, .inr ⟨w.heap.size, (n + 63) / 64, madeCells #[.int .u64 0] ((n + 63) / 64), rfl, Nat.le_refl _, ?_, Nat.le_refl _, by unfold maxLen; omega, by rw [size_madeCells]; omega, ?_⟩⟩
    · show (Array.push (Array.push w.heap _) _)[w.heap.size]? = _
      rw [Array.getElem?_push, if_neg (by simp), Array.getElem?_push, if_pos rfl]
    · rw [made_replicate]
      simp
  · intro g hg
    simp only [Value.ownBlock, Option.some.injEq] at hg
    omega
  · intro r hr
    have := List.eq_of_mem_replicate hr
    omega

set_option maxHeartbeats 400000 in
theorem new_core (n : Nat) (w : World) (hn : (n : Int) ≤ 262144) :
    Calls Tryd.prog 27 #[.int .i64 (n : Int)] w fun e w' => e = .returned (.tuple #[.pointer (some ⟨w.heap.size + 1, 0, none⟩), .int .i64 0]) ∧
      w' = (w.alloc (.cells (madeCells #[.int .u64 0] ((n + 63) / 64)) 61)).alloc (.cells #[.int .i64 (n : Int), .slice (some ⟨w.heap.size, 0, none⟩) ((n + 63) / 64) ((n + 63) / 64)] 59) := by
  obtain ⟨i0, hi, hz0, hz1, hz2⟩ := info_parts Tryd.infoU
  have hn0 : (0 : Int) ≤ (n : Int) := by omega
  have hmk := run_make (P := Tryd.prog) w 57 61 i0 (.int .u64 0) Tryd.underlying57 hi hz0 .i64 .i64 (((n : Int) + 63) / 64) (((n : Int) + 63) / 64) (by omega) (Int.le_refl _) (by rw [hz2]; omega) (by omega)
  rw [hz1, show (((n : Int) + 63) / 64).toNat = (n + 63) / 64 by omega, Nat.mul_one, show (Value.int IntKind.u64 0).cells = #[Value.int IntKind.u64 0] from rfl] at hmk
  clear hi hz0 hz1 hz2
  go_enter Tryd.func27, Tryd.ntmps27
  go_wp2
  go_ret2
  exact ⟨rfl, rfl⟩
theorem isMap_new (w : World) (n : Nat) (hn : n ≤ 262144) :
    IsMap ((w.alloc (.cells (madeCells #[.int .u64 0] ((n + 63) / 64)) 61)).alloc (.cells #[.int .i64 (n : Int), .slice (some ⟨w.heap.size, 0, none⟩) ((n + 63) / 64) ((n + 63) / 64)] 59)) w.heap.size (w.heap.size + 2) ⟨w.heap.size + 1, 0, none⟩ n (fun _ => false) := by
  refine ⟨_, _, _, rfl, mapAt_new w n hn, fun i hi => ?_, fun i _ => rfl⟩
  rw [List.getD_eq_getElem?_getD]
  have : (List.replicate ((n + 63) / 64) 0)[i / 64]?.getD 0 = 0 := by
    rw [List.getElem?_replicate]; split <;> rfl
  rw [this]; simp
/-- New, where there is one: an empty map in new memory. -/
theorem new_yes (n : Nat) (w : World) (hn : n ≤ 262144) :
    Calls Tryd.prog 27 #[.int .i64 (n : Int)] w fun e w' => ∃ p, e = .returned (.tuple #[.pointer (some p), .int .i64 0]) ∧ IsMap w' w.heap.size w'.heap.size p n (fun _ => false) ∧ Still w w' := by
  refine (new_core n w (by omega)).mono ?_
  rintro e w' ⟨rfl, rfl⟩
  exact ⟨_, rfl, by have := isMap_new w n hn; simpa using this, ((Only.refl _ _ w).alloc _).alloc _⟩
set_option maxHeartbeats 400000 in
theorem new_no (n : Int) (w : World) (hn : n < 0 ∨ 262144 < n) :
    Calls Tryd.prog 27 #[.int .i64 n] w fun e w' => e = .returned (.tuple #[.pointer none, .int .i64 1]) ∧ w = w' := by
  by_cases h : n < 0
  · clear hn
    go_enter Tryd.func27, Tryd.ntmps27
    go_wp2
    go_ret2
    exact ⟨rfl, rfl⟩
  · have h0 : 0 ≤ n := by omega
    have h1 : 262144 < n := by omega
    clear hn h
    go_enter Tryd.func27, Tryd.ntmps27
    go_wp2
    go_ret2
    exact ⟨rfl, rfl⟩

/-! ### Gap -/
theorem IsMap.drewN {w : World} {lo hi n : Nat} {p : Addr} {S : Nat → Bool} (h : IsMap w lo hi p n S) (m : Nat) : IsMap (w.drewN m) lo hi p n S := by
  obtain ⟨pb, v, rows, hp, hm, hS⟩ := h
  exact ⟨pb, v, rows, hp, ⟨hm.plo, hm.phi, hm.top, hm.head, hm.own, hm.apart, hm.small, hm.nle⟩, hS⟩
theorem Tab.drewN {w : World} (h : Tab w) (m : Nat) : Tab (w.drewN m) := h
theorem Tab.only {w w' : World} (h : Tab w) {lo hi : Nat} (ho : Only lo hi w w') (hlo : 0 < lo) : Tab w' := by
  intro j hj
  have hc := h j hj
  rw [← hc]
  exact ho.cell (by have := World.block_lt_of_cell? w _ hc; exact this) (.inl hlo)

set_option maxHeartbeats 800000 in
theorem gap_core (lo hi n K pb : Nat) (S : Nat → Bool) (f : Int) (f0 : Nat) (w : World) (hm : IsMap w lo hi ⟨pb, 0, none⟩ n S) (hc0 : w.cell? ⟨pb, 0, none⟩ = some (.int .i64 (n : Int))) (hnn : (n : Int) ≤ 262144) (hT : Tab w)
    (hmx : (if f < 0 then (0 : Int) else f) = (f0 : Int)) (hfm : (f0 : Int) ≤ 9223372036854775807) (hK : 1 ≤ K) (hKn : K ≤ n) :
    Calls Tryd.prog 26 #[.pointer (some ⟨pb, 0, none⟩), .int .i64 f, .int .i64 (K : Int)] w fun e w' => e = .returned (.int .i64 (Bm.gap S n f0 K)) ∧ ∃ m, w' = w.drewN m := by
  have hK1 : ¬ (K : Int) < 1 := by omega
  have hK2 : ¬ (n : Int) < (K : Int) := by omega
  have HM := Lib.hid hm; clear hm
  have HT := Lib.hid hT; clear hT
  go_enter Tryd.func26, Tryd.ntmps26
  go_wp2_with fail
  clear hmx
  go_loopw [1, 7] (fun i _ wr => ∃ a : Nat, f0 ≤ a ∧ i = .int .i64 a ∧ (a : Int) ≤ 9223372036854775807 ∧ (∀ j, f0 ≤ j → j < a → Bm.fits S n K j = false) ∧ ∃ m, wr = w.drewN m) (fun i _ _ => n + 1 - (intOf i).toNat)
  case atStart => exact ⟨f0, Nat.le_refl _, rfl, hfm, fun j _ _ => by omega, 0, rfl⟩
  case round =>
    obtain ⟨a, ha1, rfl, ham, hb, m, hwm⟩ := hrel
    have hc0 : wr.cell? ⟨pb, 0, none⟩ = some (.int .i64 (n : Int)) := by rw [hwm]; exact hc0
    have HWM := Lib.hid hwm; clear hwm
    have HB := Lib.hid hb; clear hb
    have ha0 : (0 : Int) ≤ (a : Int) := by omega
    by_cases hlt : a + K ≤ n
    · have hlt' : (a : Int) ≤ (n : Int) - (K : Int) := by omega
      go_wp2_with fail
      refine (next_any lo hi n _ S (a : Int) _ (by rw [HWM.out]; exact HM.out.drewN m) (by rw [HWM.out]; exact HT.out.drewN m) ham).mono ?_
      rintro e w' ⟨rfl, m2, hw2⟩
      have HW2 := Lib.hid hw2; clear hw2
      have hns := Bm.next_spec S n (a : Int)
      generalize hx : Bm.next S n (a : Int) = x at *
      have HX := Lib.hid hx; clear hx
      rcases hns with ⟨h1, h2⟩ | ⟨i, h1, h2, h3, h4, h5⟩
      · have H2 := Lib.hid h2; clear h2
        have hx0 : x < 0 := by omega
        have H1 := Lib.hid h1; clear h1
        go_wp2
        go_ret
        refine ⟨ret_i64 ?_, m + m2, by rw [HW2.out, HWM.out, World.drewN_drewN]⟩
        rw [Bm.gap_eq hK (by omega) ((Bm.fits_iff S n K a).2 ⟨hlt, fun j hj1 hj2 => H2.out j (by omega) (by omega)⟩) (fun j hj1 hj2 => HB.out j (by omega) hj2)]
      · subst h1
        have H5 := Lib.hid h5; clear h5
        have H4 := Lib.hid h4; clear h4
        have hx0 : ¬ (i : Int) < 0 := by omega
        have hi0 : (i : Int) ≤ 262144 := by omega
        by_cases hd : (K : Int) ≤ (i : Int) - (a : Int)
        · go_wp2
          go_ret
          refine ⟨ret_i64 ?_, m + m2, by rw [HW2.out, HWM.out, World.drewN_drewN]⟩
          rw [Bm.gap_eq hK (by omega) ((Bm.fits_iff S n K a).2 ⟨hlt, fun j hj1 hj2 => H5.out j (by omega) (by omega)⟩) (fun j hj1 hj2 => HB.out j (by omega) hj2)]
        · go_wp2
          go_roundw
          case rel =>
            refine ⟨i + 1, by omega, by go_num, by omega, fun j hj1 hj2 => ?_, m + m2, by rw [HW2.out, HWM.out, World.drewN_drewN]⟩
            by_cases e : j < a
            · exact HB.out j hj1 e
            · exact Bm.fits_blocked H4.out (by omega) (by omega)
          case measure => simp [intOf]; omega
    · have hlt' : ¬ (a : Int) ≤ (n : Int) - (K : Int) := by omega
      go_wp2
      go_ret
      refine ⟨ret_i64 ?_, m, HWM.out⟩
      rw [Bm.gap_none hK (fun j hj => ?_)]
      by_cases e : j < a
      · exact HB.out j (by omega) e
      · cases hf : Bm.fits S n K j with
        | false => rfl
        | true => have := ((Bm.fits_iff S n K j).1 hf).1; omega
end Go.Proofs.YtppeiljecgeifaaDoor
