/-
  The walks of class: words, Of, Words, Blocks, Pages, Start.
-/
import Derived.Test.YtfbcdmhmpfijjaaGreatDoorQB
namespace Go.Proofs.YtfbcdmhmpfijjaaGreatDoor
open Go Go.RowKit

namespace Sp
/-- The words of each class's blocks. -/
def cw : Nat → Nat
  | 0 => 2 | 1 => 4 | 2 => 6 | 3 => 8 | 4 => 12 | 5 => 16 | 6 => 20 | 7 => 32 | _ => 0
/-- The class of a size; 8: whole pages; -1: none. -/
def cls (s : Int) : Int :=
  if s < 1 ∨ 1024 < s then -1 else if s ≤ 2 then 0 else if s ≤ 4 then 1 else if s ≤ 6 then 2 else if s ≤ 8 then 3 else if s ≤ 12 then 4 else if s ≤ 16 then 5 else if s ≤ 20 then 6 else if s ≤ 32 then 7 else 8
/-- The words of a class's blocks, of any number. -/
def cww (c : Int) : Int := if 0 ≤ c ∧ c < 8 then (cw c.toNat : Int) else 0
/-- How many blocks of a class a page has. -/
def bks (c : Int) : Int := if 0 ≤ c ∧ c < 8 then ((64 / cw c.toNat : Nat) : Int) else 0
/-- How many whole pages an object of a size takes. -/
def pgs (s : Int) : Int := if cls s = 8 then (s + 63) / 64 else 0
theorem cls_8 {s : Int} (h : cls s = 8) : 32 < s ∧ s ≤ 1024 := by
  unfold cls at h
  repeat' split at h
  all_goals first | omega | exact absurd h (by decide)
theorem cww_8 (c : Int) (h : 0 ≤ c ∧ c < 8) : cww c = 2 ∨ cww c = 4 ∨ cww c = 6 ∨ cww c = 8 ∨ cww c = 12 ∨ cww c = 16 ∨ cww c = 20 ∨ cww c = 32 := by
  have hc : c = 0 ∨ c = 1 ∨ c = 2 ∨ c = 3 ∨ c = 4 ∨ c = 5 ∨ c = 6 ∨ c = 7 := by omega
  rcases hc with rfl | rfl | rfl | rfl | rfl | rfl | rfl | rfl <;> decide
theorem bks_of (c : Int) : bks c = if cww c = 0 then 0 else Int.tdiv 64 (cww c) := by
  by_cases h : 0 ≤ c ∧ c < 8
  · have hc : c = 0 ∨ c = 1 ∨ c = 2 ∨ c = 3 ∨ c = 4 ∨ c = 5 ∨ c = 6 ∨ c = 7 := by omega
    rcases hc with rfl | rfl | rfl | rfl | rfl | rfl | rfl | rfl <;> decide
  · unfold bks cww
    rw [if_neg h, if_neg h, if_pos rfl]
theorem bks_le (c : Int) : 0 ≤ bks c ∧ bks c ≤ 32 ∧ 0 ≤ cww c ∧ cww c ≤ 32 ∧ bks c * cww c ≤ 64 := by
  by_cases h : 0 ≤ c ∧ c < 8
  · have hc : c = 0 ∨ c = 1 ∨ c = 2 ∨ c = 3 ∨ c = 4 ∨ c = 5 ∨ c = 6 ∨ c = 7 := by omega
    rcases hc with rfl | rfl | rfl | rfl | rfl | rfl | rfl | rfl <;> decide
  · unfold bks cww
    rw [if_neg h, if_neg h]
    decide
end Sp

abbrev wordsV : Value := .agg #[.int .i64 2, .int .i64 4, .int .i64 6, .int .i64 8, .int .i64 12, .int .i64 16, .int .i64 20, .int .i64 32]

theorem words_any (w : World) : Calls Tryz.prog 107 #[] w fun e w' => e = .returned wordsV ∧ Still w w' := by
  go_enter Tryz.func107, Tryz.ntmps107
  go_wp2
  exact bodyPost_ret (results_cell_row rfl _ _ w.heap.size _ _ _ _ rfl (heap_alloc_new w _) Tryz.underlying71 rfl (by kernel_rfl)) rfl ⟨rfl, (Only.refl _ _ w).alloc _⟩

set_option maxRecDepth 4000 in
set_option maxHeartbeats 1600000 in
theorem of_any (s : Int) (w : World) : Calls Tryz.prog 63 #[.int .i64 s] w fun e w' => e = .returned (.int .i64 (Sp.cls s)) ∧ Still w w' := by
  by_cases h1 : s < 1
  · have hr : Sp.cls s = -1 := by unfold Sp.cls; rw [if_pos (.inl h1)]
    rw [hr]; clear hr
    go_enter Tryz.func63, Tryz.ntmps63
    go_wp2
    go_ret
    exact ⟨rfl, Only.refl _ _ _⟩
  · by_cases h2 : 1024 < s
    · have hr : Sp.cls s = -1 := by unfold Sp.cls; rw [if_pos (.inr h2)]
      rw [hr]; clear hr
      go_enter Tryz.func63, Tryz.ntmps63
      go_wp2
      go_ret
      exact ⟨rfl, Only.refl _ _ _⟩
    · have HR : Hid (Sp.cls s = if s ≤ 2 then 0 else if s ≤ 4 then 1 else if s ≤ 6 then 2 else if s ≤ 8 then 3 else if s ≤ 12 then 4 else if s ≤ 16 then 5 else if s ≤ 20 then 6 else if s ≤ 32 then 7 else 8) := by unfold Sp.cls; rw [if_neg (by omega)]; exact rfl
      generalize Sp.cls s = v at *
      have hx0 : ∀ W, (Instr.index 71 wordsV (.int .i64 0)).run Tryz.prog W = .ok (.int .i64 2) W := fun _ => by kernel_rfl
      have hx1 : ∀ W, (Instr.index 71 wordsV (.int .i64 1)).run Tryz.prog W = .ok (.int .i64 4) W := fun _ => by kernel_rfl
      have hx2 : ∀ W, (Instr.index 71 wordsV (.int .i64 2)).run Tryz.prog W = .ok (.int .i64 6) W := fun _ => by kernel_rfl
      have hx3 : ∀ W, (Instr.index 71 wordsV (.int .i64 3)).run Tryz.prog W = .ok (.int .i64 8) W := fun _ => by kernel_rfl
      have hx4 : ∀ W, (Instr.index 71 wordsV (.int .i64 4)).run Tryz.prog W = .ok (.int .i64 12) W := fun _ => by kernel_rfl
      have hx5 : ∀ W, (Instr.index 71 wordsV (.int .i64 5)).run Tryz.prog W = .ok (.int .i64 16) W := fun _ => by kernel_rfl
      have hx6 : ∀ W, (Instr.index 71 wordsV (.int .i64 6)).run Tryz.prog W = .ok (.int .i64 20) W := fun _ => by kernel_rfl
      have hx7 : ∀ W, (Instr.index 71 wordsV (.int .i64 7)).run Tryz.prog W = .ok (.int .i64 32) W := fun _ => by kernel_rfl
      go_enter Tryz.func63, Tryz.ntmps63
      go_wp2_with fail
      refine (words_any _).mono ?_
      rintro e w1 ⟨rfl, hs⟩
      have HS := Lib.hid hs; clear hs
      go_wp2_with fail
      go_loopw [12] (fun y wr => ∃ i : Nat, y = .int .i64 i ∧ i ≤ 8 ∧ (∀ j, j < i → (Sp.cw j : Int) < s) ∧ wr = w1) (fun y _ => 9 - (intOf y).toNat)
      case atStart => exact ⟨0, rfl, by omega, fun j hj => by omega, rfl⟩
      case round =>
        obtain ⟨i, rfl, hi, hb, rfl⟩ := hrel
        have HB := Lib.hid hb; clear hb
        have hc : i = 0 ∨ i = 1 ∨ i = 2 ∨ i = 3 ∨ i = 4 ∨ i = 5 ∨ i = 6 ∨ i = 7 ∨ i = 8 := by omega
        rcases hc with rfl | rfl | rfl | rfl | rfl | rfl | rfl | rfl | rfl
        · by_cases h : s ≤ 2
          · have hr : v = 0 := by
              rw [HR.out]
              rw [if_pos h]
            subst hr
            go_wp2
            go_ret
            exact ⟨rfl, HS.out⟩
          · have HN := Lib.hid h
            go_wp2
            go_roundw
            case rel => exact ⟨1, rfl, by omega, fun j hj => by
              by_cases hj2 : j < 0
              · exact HB.out j hj2
              · obtain rfl : j = 0 := by omega
                show (2 : Int) < s
                have := HN.out
                omega, by first | rfl | trivial⟩
            case measure => simp [intOf]
        · by_cases h : s ≤ 4
          · have hr : v = 1 := by
              rw [HR.out]
              have := HB.out 0 (by omega)
              have e : (Sp.cw 0 : Int) = 2 := rfl
              rw [if_neg (by omega), if_pos h]
            subst hr
            go_wp2
            go_ret
            exact ⟨rfl, HS.out⟩
          · have HN := Lib.hid h
            go_wp2
            go_roundw
            case rel => exact ⟨2, rfl, by omega, fun j hj => by
              by_cases hj2 : j < 1
              · exact HB.out j hj2
              · obtain rfl : j = 1 := by omega
                show (4 : Int) < s
                have := HN.out
                omega, by first | rfl | trivial⟩
            case measure => simp [intOf]
        · by_cases h : s ≤ 6
          · have hr : v = 2 := by
              rw [HR.out]
              have := HB.out 1 (by omega)
              have e : (Sp.cw 1 : Int) = 4 := rfl
              rw [if_neg (by omega), if_neg (by omega), if_pos h]
            subst hr
            go_wp2
            go_ret
            exact ⟨rfl, HS.out⟩
          · have HN := Lib.hid h
            go_wp2
            go_roundw
            case rel => exact ⟨3, rfl, by omega, fun j hj => by
              by_cases hj2 : j < 2
              · exact HB.out j hj2
              · obtain rfl : j = 2 := by omega
                show (6 : Int) < s
                have := HN.out
                omega, by first | rfl | trivial⟩
            case measure => simp [intOf]
        · by_cases h : s ≤ 8
          · have hr : v = 3 := by
              rw [HR.out]
              have := HB.out 2 (by omega)
              have e : (Sp.cw 2 : Int) = 6 := rfl
              rw [if_neg (by omega), if_neg (by omega), if_neg (by omega), if_pos h]
            subst hr
            go_wp2
            go_ret
            exact ⟨rfl, HS.out⟩
          · have HN := Lib.hid h
            go_wp2
            go_roundw
            case rel => exact ⟨4, rfl, by omega, fun j hj => by
              by_cases hj2 : j < 3
              · exact HB.out j hj2
              · obtain rfl : j = 3 := by omega
                show (8 : Int) < s
                have := HN.out
                omega, by first | rfl | trivial⟩
            case measure => simp [intOf]
        · by_cases h : s ≤ 12
          · have hr : v = 4 := by
              rw [HR.out]
              have := HB.out 3 (by omega)
              have e : (Sp.cw 3 : Int) = 8 := rfl
              rw [if_neg (by omega), if_neg (by omega), if_neg (by omega), if_neg (by omega), if_pos h]
            subst hr
            go_wp2
            go_ret
            exact ⟨rfl, HS.out⟩
          · have HN := Lib.hid h
            go_wp2
            go_roundw
            case rel => exact ⟨5, rfl, by omega, fun j hj => by
              by_cases hj2 : j < 4
              · exact HB.out j hj2
              · obtain rfl : j = 4 := by omega
                show (12 : Int) < s
                have := HN.out
                omega, by first | rfl | trivial⟩
            case measure => simp [intOf]
        · by_cases h : s ≤ 16
          · have hr : v = 5 := by
              rw [HR.out]
              have := HB.out 4 (by omega)
              have e : (Sp.cw 4 : Int) = 12 := rfl
              rw [if_neg (by omega), if_neg (by omega), if_neg (by omega), if_neg (by omega), if_neg (by omega), if_pos h]
            subst hr
            go_wp2
            go_ret
            exact ⟨rfl, HS.out⟩
          · have HN := Lib.hid h
            go_wp2
            go_roundw
            case rel => exact ⟨6, rfl, by omega, fun j hj => by
              by_cases hj2 : j < 5
              · exact HB.out j hj2
              · obtain rfl : j = 5 := by omega
                show (16 : Int) < s
                have := HN.out
                omega, by first | rfl | trivial⟩
            case measure => simp [intOf]
        · by_cases h : s ≤ 20
          · have hr : v = 6 := by
              rw [HR.out]
              have := HB.out 5 (by omega)
              have e : (Sp.cw 5 : Int) = 16 := rfl
              rw [if_neg (by omega), if_neg (by omega), if_neg (by omega), if_neg (by omega), if_neg (by omega), if_neg (by omega), if_pos h]
            subst hr
            go_wp2
            go_ret
            exact ⟨rfl, HS.out⟩
          · have HN := Lib.hid h
            go_wp2
            go_roundw
            case rel => exact ⟨7, rfl, by omega, fun j hj => by
              by_cases hj2 : j < 6
              · exact HB.out j hj2
              · obtain rfl : j = 6 := by omega
                show (20 : Int) < s
                have := HN.out
                omega, by first | rfl | trivial⟩
            case measure => simp [intOf]
        · by_cases h : s ≤ 32
          · have hr : v = 7 := by
              rw [HR.out]
              have := HB.out 6 (by omega)
              have e : (Sp.cw 6 : Int) = 20 := rfl
              rw [if_neg (by omega), if_neg (by omega), if_neg (by omega), if_neg (by omega), if_neg (by omega), if_neg (by omega), if_neg (by omega), if_pos h]
            subst hr
            go_wp2
            go_ret
            exact ⟨rfl, HS.out⟩
          · have HN := Lib.hid h
            go_wp2
            go_roundw
            case rel => exact ⟨8, rfl, by omega, fun j hj => by
              by_cases hj2 : j < 7
              · exact HB.out j hj2
              · obtain rfl : j = 7 := by omega
                show (32 : Int) < s
                have := HN.out
                omega, by first | rfl | trivial⟩
            case measure => simp [intOf]
        · have hr : v = 8 := by
            rw [HR.out]
            have := HB.out 7 (by omega)
            have e : (Sp.cw 7 : Int) = 32 := rfl
            rw [if_neg (by omega), if_neg (by omega), if_neg (by omega), if_neg (by omega), if_neg (by omega), if_neg (by omega), if_neg (by omega), if_neg (by omega)]
          subst hr
          go_wp2
          go_ret
          exact ⟨rfl, HS.out⟩

set_option maxHeartbeats 1600000 in
theorem cwords_any (c : Int) (w : World) : Calls Tryz.prog 100 #[.int .i64 c] w fun e w' => e = .returned (.int .i64 (Sp.cww c)) ∧ Still w w' := by
  by_cases h : 0 ≤ c ∧ c < 8
  · have hc : c = 0 ∨ c = 1 ∨ c = 2 ∨ c = 3 ∨ c = 4 ∨ c = 5 ∨ c = 6 ∨ c = 7 := by omega
    have hx0 : ∀ W, (Instr.index 71 wordsV (.int .i64 0)).run Tryz.prog W = .ok (.int .i64 2) W := fun _ => by kernel_rfl
    have hx1 : ∀ W, (Instr.index 71 wordsV (.int .i64 1)).run Tryz.prog W = .ok (.int .i64 4) W := fun _ => by kernel_rfl
    have hx2 : ∀ W, (Instr.index 71 wordsV (.int .i64 2)).run Tryz.prog W = .ok (.int .i64 6) W := fun _ => by kernel_rfl
    have hx3 : ∀ W, (Instr.index 71 wordsV (.int .i64 3)).run Tryz.prog W = .ok (.int .i64 8) W := fun _ => by kernel_rfl
    have hx4 : ∀ W, (Instr.index 71 wordsV (.int .i64 4)).run Tryz.prog W = .ok (.int .i64 12) W := fun _ => by kernel_rfl
    have hx5 : ∀ W, (Instr.index 71 wordsV (.int .i64 5)).run Tryz.prog W = .ok (.int .i64 16) W := fun _ => by kernel_rfl
    have hx6 : ∀ W, (Instr.index 71 wordsV (.int .i64 6)).run Tryz.prog W = .ok (.int .i64 20) W := fun _ => by kernel_rfl
    have hx7 : ∀ W, (Instr.index 71 wordsV (.int .i64 7)).run Tryz.prog W = .ok (.int .i64 32) W := fun _ => by kernel_rfl
    rcases hc with rfl | rfl | rfl | rfl | rfl | rfl | rfl | rfl <;>
    · go_enter Tryz.func100, Tryz.ntmps100
      go_wp2_with fail
      refine (words_any _).mono ?_
      rintro e w1 ⟨rfl, hs⟩
      have HS := Lib.hid hs; clear hs
      go_wp2
      go_ret
      exact ⟨rfl, HS.out⟩
  · have hr : Sp.cww c = 0 := by unfold Sp.cww; rw [if_neg h]
    rw [hr]; clear hr
    by_cases h1 : c < 0
    · clear h
      go_enter Tryz.func100, Tryz.ntmps100
      go_wp2
      go_ret
      exact ⟨rfl, Only.refl _ _ _⟩
    · have h2 : 8 ≤ c := by omega
      clear h
      go_enter Tryz.func100, Tryz.ntmps100
      go_wp2
      go_ret
      exact ⟨rfl, Only.refl _ _ _⟩

set_option maxHeartbeats 1600000 in
theorem blocks_any (c : Int) (w : World) : Calls Tryz.prog 68 #[.int .i64 c] w fun e w' => e = .returned (.int .i64 (Sp.bks c)) ∧ Still w w' := by
  have HV := Lib.hid (Sp.bks_of c)
  have H8 := Lib.hid (Sp.cww_8 c)
  have H0 : Hid (¬ (0 ≤ c ∧ c < 8) → Sp.cww c = 0) := Lib.hid (fun h => by unfold Sp.cww; rw [if_neg h])
  generalize Sp.bks c = v at *
  go_enter Tryz.func68, Tryz.ntmps68
  go_wp2_with fail
  refine (cwords_any c _).mono ?_
  rintro e w1 ⟨rfl, hs⟩
  have HS := Lib.hid hs; clear hs
  generalize Sp.cww c = x at *
  by_cases h : 0 ≤ c ∧ c < 8
  · rcases H8.out h with rfl | rfl | rfl | rfl | rfl | rfl | rfl | rfl <;>
    · have hv := HV.out
      rw [if_neg (by decide)] at hv
      clear h H8 H0 HV
      subst hv
      go_wp2
      go_ret
      exact ⟨rfl, HS.out⟩
  · obtain rfl := H0.out h
    have hv := HV.out
    rw [if_pos rfl] at hv
    clear h H8 H0 HV
    subst hv
    go_wp2
    go_ret
    exact ⟨rfl, HS.out⟩

set_option maxHeartbeats 1600000 in
theorem pages_any (s : Int) (w : World) : Calls Tryz.prog 65 #[.int .i64 s] w fun e w' => e = .returned (.int .i64 (Sp.pgs s)) ∧ Still w w' := by
  by_cases h : Sp.cls s = 8
  · have hr : Sp.pgs s = (s + 63) / 64 := by unfold Sp.pgs; rw [if_pos h]
    obtain ⟨h1, h2⟩ := Sp.cls_8 h
    have hw1 : IntKind.i64.wrap (s + 64) = s + 64 := by rw [IntKind.wrap_i64]; omega
    have hw2 : IntKind.i64.wrap (s + 64 - 1) = s + 63 := by rw [IntKind.wrap_i64]; omega
    have hw3 : IntKind.i64.wrap ((s + 63).tdiv 64) = (s + 63) / 64 := by rw [Int.tdiv_eq_ediv_of_nonneg (by omega), IntKind.wrap_i64]; omega
    rw [hr]
    clear hr h1 h2
    go_enter Tryz.func65, Tryz.ntmps65
    go_wp2_with fail
    refine (of_any s _).mono ?_
    rintro e w1 ⟨rfl, hs⟩
    have HS := Lib.hid hs; clear hs
    rw [h]
    clear h
    go_wp2
    go_ret
    exact ⟨rfl, HS.out⟩
  · have hr : Sp.pgs s = 0 := by unfold Sp.pgs; rw [if_neg h]
    have hb : (Sp.cls s == 8) = false := beq_eq_false_iff_ne.2 h
    rw [hr]
    clear hr h
    go_enter Tryz.func65, Tryz.ntmps65
    go_wp2_with fail
    refine (of_any s _).mono ?_
    rintro e w1 ⟨rfl, hs⟩
    have HS := Lib.hid hs; clear hs
    generalize Sp.cls s = x at *
    go_wp2
    go_ret
    exact ⟨rfl, HS.out⟩

set_option maxHeartbeats 1600000 in
theorem start_any (c i : Int) (w : World) (h0 : 0 ≤ i) (h1 : i < Sp.bks c) : Calls Tryz.prog 130 #[.int .i64 c, .int .i64 i] w fun e w' => e = .returned (.int .i64 (i * Sp.cww c)) ∧ Still w w' := by
  have hw : IntKind.i64.wrap (i * Sp.cww c) = i * Sp.cww c := by
    obtain ⟨a1, a2, a3, a4, a5⟩ := Sp.bks_le c
    have b1 : 0 ≤ i * Sp.cww c := Int.mul_nonneg h0 a3
    have b2 : i * Sp.cww c ≤ Sp.bks c * Sp.cww c := Int.mul_le_mul_of_nonneg_right (by omega) a3
    rw [IntKind.wrap_i64]; omega
  have hd : decide (Sp.bks c ≤ i) = false := decide_eq_false (by omega)
  have hd0 : decide (i < 0) = false := decide_eq_false (by omega)
  have HB := Lib.hid (fun w => blocks_any c w)
  have HC := Lib.hid (fun w => cwords_any c w)
  clear h1
  generalize Sp.bks c = x at *
  generalize Sp.cww c = y at *
  go_enter Tryz.func130, Tryz.ntmps130
  go_wp2_with fail
  refine (HB.out _).mono ?_
  rintro e w1 ⟨rfl, hs⟩
  have HS := Lib.hid hs; clear hs
  go_wp2_with fail
  refine (HC.out _).mono ?_
  rintro e w2 ⟨rfl, hs2⟩
  have HS2 : Hid (Still w w2) := HS.out.trans (hs2.any _ _)
  clear hs2
  go_wp2
  go_ret
  exact ⟨rfl, HS2.out⟩
end Go.Proofs.YtfbcdmhmpfijjaaGreatDoor

namespace Go.Proofs.YtfbcdmhmpfijjaaGreatDoor
open Go Go.RowKit

namespace Sp
/-- The words of a kind without parts. -/
def base (k : Int) : Int :=
  if k = 2 ∨ k = 5 ∨ k = 7 then 2 else if k = 1 ∨ k = 8 ∨ k = 9 ∨ k = 10 then 3 else if k = 13 then 4 else if k = 4 then 2 else if k = 11 then 5 else if k = 3 ∨ k = 6 ∨ k = 12 then 1 else 0
/-- How many parts it may have. -/
def most (k : Int) : Int := if k = 4 then 4096 else if k = 11 then 128 else if k = 3 then 1023 else if k = 6 then 64 else if k = 12 then 512 else 0
def heads (n : Int) : Bool := decide (4 ≤ n) && (decide (n ≤ 512) && (bits .and .i64 n (n - 1) == 0))
def fits (k s : Int) : Bool :=
  decide (0 < base k) && (decide (base k ≤ s) && (decide (s - base k ≤ if k = 4 then 512 else most k) && (!(k == 12) || heads (s - base k))))
def numbered (k : Int) : Bool := decide (1 ≤ k) && decide (k ≤ 11)
def lnk (n : Int) : Int := if n < -1 ∨ 262144 ≤ n then 0 else n * 8 + 4
end Sp

set_option maxRecDepth 4000 in
set_option maxHeartbeats 1600000 in
theorem shape_any (k : Int) (w : World) : Calls Tryz.prog 96 #[.int .i64 k] w fun e w' => e = .returned (.tuple #[.int .i64 (Sp.base k), .int .i64 (Sp.most k)]) ∧ w = w' := by
  by_cases h : 1 ≤ k ∧ k ≤ 13
  · have hc : k = 1 ∨ k = 2 ∨ k = 3 ∨ k = 4 ∨ k = 5 ∨ k = 6 ∨ k = 7 ∨ k = 8 ∨ k = 9 ∨ k = 10 ∨ k = 11 ∨ k = 12 ∨ k = 13 := by omega
    rcases hc with rfl | rfl | rfl | rfl | rfl | rfl | rfl | rfl | rfl | rfl | rfl | rfl | rfl <;>
    · go_enter Tryz.func96, Tryz.ntmps96
      go_wp2
      go_ret2
      exact ⟨rfl, rfl⟩
  · have hb : Sp.base k = 0 := by
      unfold Sp.base
      rw [if_neg (by omega), if_neg (by omega), if_neg (by omega), if_neg (by omega), if_neg (by omega), if_neg (by omega)]
    have hm : Sp.most k = 0 := by
      unfold Sp.most
      rw [if_neg (by omega), if_neg (by omega), if_neg (by omega), if_neg (by omega), if_neg (by omega)]
    rw [hb, hm]
    clear hb hm
    have h1 : (k == 1) = false := beq_eq_false_iff_ne.2 (by omega)
    have h2 : (k == 2) = false := beq_eq_false_iff_ne.2 (by omega)
    have h3 : (k == 3) = false := beq_eq_false_iff_ne.2 (by omega)
    have h4 : (k == 4) = false := beq_eq_false_iff_ne.2 (by omega)
    have h5 : (k == 5) = false := beq_eq_false_iff_ne.2 (by omega)
    have h6 : (k == 6) = false := beq_eq_false_iff_ne.2 (by omega)
    have h7 : (k == 7) = false := beq_eq_false_iff_ne.2 (by omega)
    have h8 : (k == 8) = false := beq_eq_false_iff_ne.2 (by omega)
    have h9 : (k == 9) = false := beq_eq_false_iff_ne.2 (by omega)
    have h10 : (k == 10) = false := beq_eq_false_iff_ne.2 (by omega)
    have h11 : (k == 11) = false := beq_eq_false_iff_ne.2 (by omega)
    have h12 : (k == 12) = false := beq_eq_false_iff_ne.2 (by omega)
    have h13 : (k == 13) = false := beq_eq_false_iff_ne.2 (by omega)
    clear h
    go_enter Tryz.func96, Tryz.ntmps96
    go_wp2
    go_ret2
    exact ⟨rfl, rfl⟩

theorem visible_any (k : Int) (w : World) : Calls Tryz.prog 101 #[.int .i64 k] w fun e w' => e = .returned (.bool (decide (1 ≤ k) && decide (k ≤ 10))) ∧ w = w' := by
  by_cases h1 : 1 ≤ k
  · have hd : decide (1 ≤ k) = true := decide_eq_true h1
    rw [hd]
    go_enter Tryz.func101, Tryz.ntmps101
    go_wp2
    go_ret
    exact ⟨rfl, rfl⟩
  · have hd : decide (1 ≤ k) = false := decide_eq_false h1
    rw [hd]
    go_enter Tryz.func101, Tryz.ntmps101
    go_wp2
    go_ret
    exact ⟨rfl, rfl⟩
theorem numbered_any (k : Int) (w : World) : Calls Tryz.prog 51 #[.int .i64 k] w fun e w' => e = .returned (.bool (Sp.numbered k)) ∧ w = w' := by
  have hv : Hid ((decide (1 ≤ k) && decide (k ≤ 10)) = true → Sp.numbered k = true) := Lib.hid (fun h => by
    simp only [Bool.and_eq_true, decide_eq_true_eq] at h
    unfold Sp.numbered; rw [decide_eq_true h.1, decide_eq_true (by omega)]; rfl)
  have hv2 : Hid ((decide (1 ≤ k) && decide (k ≤ 10)) = false → Sp.numbered k = (k == 11)) := Lib.hid (fun h => by
    simp only [Bool.and_eq_false_iff, decide_eq_false_iff_not] at h
    unfold Sp.numbered
    by_cases hk : k = 11
    · subst hk; rfl
    · rw [beq_eq_false_iff_ne.2 hk]
      by_cases h1 : 1 ≤ k
      · rw [decide_eq_true h1, decide_eq_false (by omega)]; rfl
      · rw [decide_eq_false h1]; rfl)
  have HV := Lib.hid (fun w => visible_any k w)
  generalize Sp.numbered k = v at *
  generalize (decide (1 ≤ k) && decide (k ≤ 10)) = u at *
  cases u with
  | true =>
    obtain rfl := hv.out rfl
    clear hv hv2
    go_enter Tryz.func51, Tryz.ntmps51
    go_wp2_with fail
    refine (HV.out _).mono ?_
    rintro e w1 ⟨rfl, rfl⟩
    go_wp2
    go_ret
    exact ⟨rfl, rfl⟩
  | false =>
    obtain rfl := hv2.out rfl
    clear hv hv2
    go_enter Tryz.func51, Tryz.ntmps51
    go_wp2_with fail
    refine (HV.out _).mono ?_
    rintro e w1 ⟨rfl, rfl⟩
    go_wp2
    go_ret
    exact ⟨rfl, rfl⟩
end Go.Proofs.YtfbcdmhmpfijjaaGreatDoor

namespace Go.Proofs.YtfbcdmhmpfijjaaGreatDoor
open Go Go.RowKit

set_option maxHeartbeats 1600000 in
theorem heads_any (n : Int) (w : World) : Calls Tryz.prog 97 #[.int .i64 n] w fun e w' => e = .returned (.bool (Sp.heads n)) ∧ w = w' := by
  by_cases h1 : 4 ≤ n
  · by_cases h2 : n ≤ 512
    · have hr : Sp.heads n = (bits .and .i64 n (n - 1) == 0) := by unfold Sp.heads; rw [decide_eq_true h1, decide_eq_true h2]; rfl
      have hw : IntKind.i64.wrap (n - 1) = n - 1 := by rw [IntKind.wrap_i64]; omega
      have hd1 : decide (4 ≤ n) = true := decide_eq_true h1
      have hd2 : decide (n ≤ 512) = true := decide_eq_true h2
      rw [hr]; clear hr h1 h2
      generalize hx : bits .and .i64 n (n - 1) = x at *
      go_enter Tryz.func97, Tryz.ntmps97
      go_wp2
      go_ret
      exact ⟨rfl, rfl⟩
    · have hr : Sp.heads n = false := by unfold Sp.heads; rw [decide_eq_true h1, decide_eq_false h2]; rfl
      have hd1 : decide (4 ≤ n) = true := decide_eq_true h1
      have hd2 : decide (n ≤ 512) = false := decide_eq_false h2
      rw [hr]; clear hr h1 h2
      go_enter Tryz.func97, Tryz.ntmps97
      go_wp2
      go_ret
      exact ⟨rfl, rfl⟩
  · have hr : Sp.heads n = false := by unfold Sp.heads; rw [decide_eq_false h1]; rfl
    have hd1 : decide (4 ≤ n) = false := decide_eq_false h1
    rw [hr]; clear hr h1
    go_enter Tryz.func97, Tryz.ntmps97
    go_wp2
    go_ret
    exact ⟨rfl, rfl⟩

namespace Sp
theorem base_nn (k : Int) : 0 ≤ base k ∧ base k ≤ 5 := by
  unfold base
  repeat' split
  all_goals omega
theorem most_nn (k : Int) : 0 ≤ most k ∧ most k ≤ 4096 := by
  unfold most
  repeat' split
  all_goals omega
/-- What fits takes has from 1 to 1,024 words. -/
theorem fits_size {k s : Int} (h : fits k s = true) : 1 ≤ s ∧ s ≤ 1024 := by
  unfold fits at h
  simp only [Bool.and_eq_true, decide_eq_true_eq] at h
  obtain ⟨h1, h2, h3, _⟩ := h
  have hb : base k ≤ 5 := (base_nn k).2
  refine ⟨by omega, ?_⟩
  by_cases h4 : k = 4
  · rw [if_pos h4] at h3; omega
  · rw [if_neg h4] at h3
    unfold most at h3
    rw [if_neg h4] at h3
    repeat' split at h3
    all_goals first | omega | (subst_vars; simp only [base] at *; revert h3; simp; omega)
end Sp

theorem or_four (n : Int) (h1 : -1 ≤ n) (h2 : n < 262144) : bits BinOp.or IntKind.i64 (n * 8) 4 = n * 8 + 4 := by
  by_cases h0 : n = -1
  · subst h0; decide
  · obtain ⟨m, rfl⟩ := Int.eq_ofNat_of_zero_le (show 0 ≤ n by omega)
    have e1 : (BitVec.ofInt 64 ((m : Int) * 8)).toNat = 2 ^ 3 * m := by
      rw [BitVec.toNat_ofInt]
      omega
    have e2 : (BitVec.ofInt 64 (4 : Int)).toNat = 4 := by decide
    show IntKind.i64.wrap ((BitVec.ofInt 64 ((m : Int) * 8) ||| BitVec.ofInt 64 4).toNat : Int) = _
    rw [BitVec.toNat_or, e1, e2, ← Nat.two_pow_add_eq_or_of_lt (by decide), IntKind.wrap_i64]
    omega
theorem link_any (n : Int) (w : World) (h1 : -1 ≤ n) (h2 : n < 262144) : Calls Tryz.prog 125 #[.int .i64 n] w fun e w' => e = .returned (.int .i64 (Sp.lnk n)) ∧ w = w' := by
  have hr : Sp.lnk n = n * 8 + 4 := by unfold Sp.lnk; rw [if_neg (by omega)]
  rw [hr]; clear hr
  have hd1 : decide (n < -1) = false := decide_eq_false (by omega)
  have hd2 : decide (262144 ≤ n) = false := decide_eq_false (by omega)
  go_enter Tryz.func125, Tryz.ntmps125
  go_wp2_with fail
  rw [or_four n h1 h2]
  go_ret
  exact ⟨rfl, rfl⟩

/-- A header, as header.Make reckons it in range. -/
def Sp.hdr (a k s : Int) : Int :=
  wrap64 (bits BinOp.or .u64 (IntKind.u64.wrap (bits BinOp.or .u64 (bits BinOp.or .u64 (IntKind.u64.wrap (bits BinOp.and .u64 (IntKind.u64.wrap (IntKind.u64.wrap (bits BinOp.or .u64 (a * 65536) (k * 2048) + s) * 10872568911861)) 17592186044415 * 65536)) (s * 32)) k * 8)) 5)
set_option maxHeartbeats 1600000 in
theorem make_any (a k s : Int) (w : World) (h1 : 0 ≤ a) (h2 : a < 262144) (h3 : 1 ≤ k) (h4 : k ≤ 31) (h5 : 1 ≤ s) (h6 : s ≤ 1024) :
    Calls Tryz.prog 50 #[.int .i64 a, .int .i64 k, .int .i64 s] w fun e w' => e = .returned (.int .i64 (Sp.hdr a k s)) ∧ w = w' := by
  have hd1 : decide (a < 0) = false := decide_eq_false (by omega)
  have hd2 : decide (262144 ≤ a) = false := decide_eq_false (by omega)
  have hd3 : decide (k < 1) = false := decide_eq_false (by omega)
  have hd4 : decide (31 < k) = false := decide_eq_false (by omega)
  have hd5 : decide (s < 1) = false := decide_eq_false (by omega)
  have hd6 : decide (1024 < s) = false := decide_eq_false (by omega)
  go_enter Tryz.func50, Tryz.ntmps50
  go_wp2
  go_ret
  exact ⟨rfl, rfl⟩

set_option maxHeartbeats 1600000 in
theorem fits_any (k s : Int) (w : World) (hs1 : -9223372036854775808 ≤ s) (hs2 : s ≤ 9223372036854775807) :
    Calls Tryz.prog 47 #[.int .i64 k, .int .i64 s] w fun e w' => e = .returned (.bool (Sp.fits k s)) ∧ w = w' := by
  have HSH := Lib.hid (fun w => shape_any k w)
  have HHD := Lib.hid (fun n w => heads_any n w)
  obtain ⟨hb0, hb5⟩ := Sp.base_nn k
  obtain ⟨hm0, hm4⟩ := Sp.most_nn k
  have HV : Hid (Sp.fits k s = (decide (0 < Sp.base k) && (decide (Sp.base k ≤ s) && (decide (s - Sp.base k ≤ if k = 4 then 512 else Sp.most k) && (!(k == 12) || Sp.heads (s - Sp.base k)))))) := rfl
  have HM4 : Hid (k = 4 → Sp.most k = 4096) := Lib.hid (fun h => by subst h; rfl)
  generalize Sp.fits k s = v at *
  generalize Sp.base k = b at *
  generalize Sp.most k = m at *
  by_cases h4 : k = 4
  · obtain rfl := HM4.out h4
    subst h4
    have hv := HV.out
    rw [if_pos rfl, show ((4 : Int) == 12) = false by decide] at hv
    clear HV HM4
    by_cases h1 : 0 < b
    · by_cases h2 : b ≤ s
      · have hw : IntKind.i64.wrap (s - b) = s - b := by rw [IntKind.wrap_i64]; omega
        have hd1 : decide (0 < b) = true := decide_eq_true h1
        have hd2 : decide (b ≤ s) = true := decide_eq_true h2
        by_cases h3 : s - b ≤ 512
        · have hd3 : decide (s - b ≤ 512) = true := decide_eq_true h3
          rw [hd1, hd2, hd3] at hv
          obtain rfl : v = true := hv
          clear h1 h2 h3
          go_enter Tryz.func47, Tryz.ntmps47
          go_wp2_with fail
          refine (HSH.out _).mono ?_
          rintro e w1 ⟨rfl, rfl⟩
          go_wp2
          go_ret
          exact ⟨rfl, rfl⟩
        · have hd3 : decide (s - b ≤ 512) = false := decide_eq_false h3
          rw [hd1, hd2, hd3] at hv
          obtain rfl : v = false := hv
          clear h1 h2 h3
          go_enter Tryz.func47, Tryz.ntmps47
          go_wp2_with fail
          refine (HSH.out _).mono ?_
          rintro e w1 ⟨rfl, rfl⟩
          go_wp2
          go_ret
          exact ⟨rfl, rfl⟩
      · have hd1 : decide (0 < b) = true := decide_eq_true h1
        have hd2 : decide (b ≤ s) = false := decide_eq_false h2
        rw [hd1, hd2] at hv
        obtain rfl : v = false := hv
        clear h1 h2
        go_enter Tryz.func47, Tryz.ntmps47
        go_wp2_with fail
        refine (HSH.out _).mono ?_
        rintro e w1 ⟨rfl, rfl⟩
        go_wp2
        go_ret
        exact ⟨rfl, rfl⟩
    · have hd1 : decide (0 < b) = false := decide_eq_false h1
      rw [hd1] at hv
      obtain rfl : v = false := hv
      clear h1
      go_enter Tryz.func47, Tryz.ntmps47
      go_wp2_with fail
      refine (HSH.out _).mono ?_
      rintro e w1 ⟨rfl, rfl⟩
      go_wp2
      go_ret
      exact ⟨rfl, rfl⟩
  · have hv := HV.out
    rw [if_neg h4] at hv
    have hb4 : (k == 4) = false := beq_eq_false_iff_ne.2 h4
    clear HV HM4 h4
    by_cases h1 : 0 < b
    · by_cases h2 : b ≤ s
      · have hw : IntKind.i64.wrap (s - b) = s - b := by rw [IntKind.wrap_i64]; omega
        have hd1 : decide (0 < b) = true := decide_eq_true h1
        have hd2 : decide (b ≤ s) = true := decide_eq_true h2
        by_cases h3 : s - b ≤ m
        · have hd3 : decide (s - b ≤ m) = true := decide_eq_true h3
          by_cases h12 : k = 12
          · have hk : (k == 12) = true := beq_iff_eq.2 h12
            rw [hd1, hd2, hd3, hk] at hv
            have hv2 : v = Sp.heads (s - b) := by rw [hv]; rfl
            clear hv
            subst hv2
            clear h1 h2 h3 hk hb4
            subst h12
            go_enter Tryz.func47, Tryz.ntmps47
            go_wp2_with fail
            refine (HSH.out _).mono ?_
            rintro e w1 ⟨rfl, rfl⟩
            go_wp2_with fail
            refine (HHD.out _ _).mono ?_
            rintro e w1 ⟨rfl, rfl⟩
            go_wp2
            go_ret
            exact ⟨rfl, rfl⟩
          · have hk : (k == 12) = false := beq_eq_false_iff_ne.2 h12
            rw [hd1, hd2, hd3, hk] at hv
            obtain rfl : v = true := hv
            clear h1 h2 h3
            go_enter Tryz.func47, Tryz.ntmps47
            go_wp2_with fail
            refine (HSH.out _).mono ?_
            rintro e w1 ⟨rfl, rfl⟩
            go_wp2
            go_ret
            exact ⟨rfl, rfl⟩
        · have hd3 : decide (s - b ≤ m) = false := decide_eq_false h3
          rw [hd1, hd2, hd3] at hv
          obtain rfl : v = false := hv
          clear h1 h2 h3
          go_enter Tryz.func47, Tryz.ntmps47
          go_wp2_with fail
          refine (HSH.out _).mono ?_
          rintro e w1 ⟨rfl, rfl⟩
          go_wp2
          go_ret
          exact ⟨rfl, rfl⟩
      · have hd1 : decide (0 < b) = true := decide_eq_true h1
        have hd2 : decide (b ≤ s) = false := decide_eq_false h2
        rw [hd1, hd2] at hv
        obtain rfl : v = false := hv
        clear h1 h2
        go_enter Tryz.func47, Tryz.ntmps47
        go_wp2_with fail
        refine (HSH.out _).mono ?_
        rintro e w1 ⟨rfl, rfl⟩
        go_wp2
        go_ret
        exact ⟨rfl, rfl⟩
    · have hd1 : decide (0 < b) = false := decide_eq_false h1
      rw [hd1] at hv
      obtain rfl : v = false := hv
      clear h1
      go_enter Tryz.func47, Tryz.ntmps47
      go_wp2_with fail
      refine (HSH.out _).mono ?_
      rintro e w1 ⟨rfl, rfl⟩
      go_wp2
      go_ret
      exact ⟨rfl, rfl⟩
end Go.Proofs.YtfbcdmhmpfijjaaGreatDoor

namespace Go.Proofs.YtfbcdmhmpfijjaaGreatDoor
open Go Go.RowKit

/-- A page: its kind, its class, its run. -/
structure Pg where
  k : Int
  c : Int
  r : Int
/-- The cells of n pages. -/
def pgCells (P : Nat → Pg) (n : Nat) : Array Value := Array.ofFn (n := 3 * n) fun j => .int .i64 (if j.val % 3 = 0 then (P (j.val / 3)).k else if j.val % 3 = 1 then (P (j.val / 3)).c else (P (j.val / 3)).r)
theorem pgCells_size (P : Nat → Pg) (n : Nat) : (pgCells P n).size = 3 * n := Array.size_ofFn
theorem pgCells_at (P : Nat → Pg) (n j : Nat) (h : j < 3 * n) : (pgCells P n)[j]? = some (.int .i64 (if j % 3 = 0 then (P (j / 3)).k else if j % 3 = 1 then (P (j / 3)).c else (P (j / 3)).r)) := by
  unfold pgCells
  rw [Array.getElem?_ofFn]
  simp [h]
theorem pgCells_k (P : Nat → Pg) (n i : Nat) (h : i < n) : (pgCells P n)[i * 3]? = some (.int .i64 (P i).k) := by
  rw [pgCells_at P n (i * 3) (by omega), if_pos (by omega), show i * 3 / 3 = i by omega]
theorem pgCells_c (P : Nat → Pg) (n i : Nat) (h : i < n) : (pgCells P n)[i * 3 + 1]? = some (.int .i64 (P i).c) := by
  rw [pgCells_at P n (i * 3 + 1) (by omega), if_neg (by omega), if_pos (by omega), show (i * 3 + 1) / 3 = i by omega]
theorem pgCells_r (P : Nat → Pg) (n i : Nat) (h : i < n) : (pgCells P n)[i * 3 + 2]? = some (.int .i64 (P i).r) := by
  rw [pgCells_at P n (i * 3 + 2) (by omega), if_neg (by omega), if_neg (by omega), show (i * 3 + 2) / 3 = i by omega]
/-- One page is turned. -/
def setPg (P : Nat → Pg) (i : Nat) (g : Pg) : Nat → Pg := fun j => if j = i then g else P j
theorem pgCells_set (P : Nat → Pg) (n i : Nat) (g : Pg) :
    (((pgCells P n).setIfInBounds (i * 3) (.int .i64 g.k)).setIfInBounds (i * 3 + 1) (.int .i64 g.c)).setIfInBounds (i * 3 + 2) (.int .i64 g.r) = pgCells (setPg P i g) n := by
  apply Array.ext_getElem?
  intro j
  by_cases hj : j < 3 * n
  · rw [pgCells_at (setPg P i g) n j hj]
    rw [Array.getElem?_setIfInBounds, Array.getElem?_setIfInBounds, Array.getElem?_setIfInBounds]
    simp only [Array.size_setIfInBounds, pgCells_size]
    by_cases h2 : i * 3 + 2 = j
    · subst h2
      rw [if_pos rfl, if_pos hj, if_neg (by omega), if_neg (by omega), show (i * 3 + 2) / 3 = i by omega]
      simp [setPg]
    · rw [if_neg h2]
      by_cases h1 : i * 3 + 1 = j
      · subst h1
        rw [if_pos rfl, if_pos hj, if_neg (by omega), if_pos (by omega), show (i * 3 + 1) / 3 = i by omega]
        simp [setPg]
      · rw [if_neg h1]
        by_cases h0 : i * 3 = j
        · subst h0
          rw [if_pos rfl, if_pos hj, if_pos (by omega), show i * 3 / 3 = i by omega]
          simp [setPg]
        · rw [if_neg h0, pgCells_at P n j hj]
          have : ¬ j / 3 = i := by omega
          simp [setPg, this]
  · rw [Array.getElem?_eq_none (by simp [pgCells_size]; omega), Array.getElem?_eq_none (by simp [pgCells_size]; omega)]

theorem app_at {α : Type} (a r : Array α) (j : Nat) (h : j < a.size) : (a ++ r)[j]? = a[j]? := by rw [Array.getElem?_append_left h]
theorem app_set {α : Type} (a r : Array α) (j : Nat) (v : α) (h : j < a.size) : (a ++ r).setIfInBounds j v = a.setIfInBounds j v ++ r := by
  apply Array.ext_getElem?
  intro i
  by_cases hi : i < a.size
  · rw [Array.getElem?_append_left (by simpa using hi), Array.getElem?_setIfInBounds, Array.getElem?_setIfInBounds, Array.getElem?_append_left hi]
    have h2 : j < (a ++ r).size := by simp; omega
    simp [h]
    split <;> simp_all
  · rw [Array.getElem?_append_right (by simpa using Nat.not_lt.1 hi), Array.getElem?_setIfInBounds, if_neg (by omega), Array.getElem?_append_right (Nat.not_lt.1 hi)]
    simp
structure TableAt (w : World) (lo hi tb pg cap n : Nat) (P : Nat → Pg) (low free : Int) : Prop where
  top : hi ≤ w.heap.size
  tlo : lo ≤ tb
  thi : tb < hi
  glo : lo ≤ pg
  ghi : pg < hi
  tg : tb ≠ pg
  n1 : 1 ≤ n
  n2 : n ≤ 4096
  head : w.heap[tb]? = some (.cells #[.slice (some ⟨pg, 0, none⟩) n cap, .int .i64 low, .int .i64 free] 132 (0, 0))
  ncap : n ≤ cap
  capM : cap ≤ maxLen
  row : ∃ r, w.heap[pg]? = some (.cells (pgCells P n ++ r) 146 (0, 0))
section
variable {w : World} {lo hi tb pg cap n : Nat} {P : Nat → Pg} {low free : Int} (h : TableAt w lo hi tb pg cap n P low free)
include h
theorem TableAt.c0 : w.cell? ⟨tb, 0, none⟩ = some (.slice (some ⟨pg, 0, none⟩) n cap) := by simp [World.cell?, h.head]
theorem TableAt.c1 : w.cell? ⟨tb, 1, none⟩ = some (.int .i64 low) := by simp [World.cell?, h.head]
theorem TableAt.c2 : w.cell? ⟨tb, 2, none⟩ = some (.int .i64 free) := by simp [World.cell?, h.head]
theorem TableAt.pk (i : Nat) (hi' : i < n) : w.cell? ⟨pg, i * 3, none⟩ = some (.int .i64 (P i).k) := by
  obtain ⟨r, hrow⟩ := h.row
  simp only [World.cell?, hrow]
  rw [app_at _ _ _ (by rw [pgCells_size]; omega)]
  simp [pgCells_k P n i hi']
theorem TableAt.pc (i : Nat) (hi' : i < n) : w.cell? ⟨pg, i * 3 + 1, none⟩ = some (.int .i64 (P i).c) := by
  obtain ⟨r, hrow⟩ := h.row
  simp only [World.cell?, hrow]
  rw [app_at _ _ _ (by rw [pgCells_size]; omega)]
  simp [pgCells_c P n i hi']
theorem TableAt.pr (i : Nat) (hi' : i < n) : w.cell? ⟨pg, i * 3 + 2, none⟩ = some (.int .i64 (P i).r) := by
  obtain ⟨r, hrow⟩ := h.row
  simp only [World.cell?, hrow]
  rw [app_at _ _ _ (by rw [pgCells_size]; omega)]
  simp [pgCells_r P n i hi']
theorem TableAt.kept {w' : World} {lo' hi' : Nat} (ho : Only lo' hi' w w') (hd : hi ≤ lo' ∨ hi' ≤ lo) : TableAt w' lo hi tb pg cap n P low free := by
  have h1 := h.top; have h2 := h.tlo; have h3 := h.thi; have h4 := h.glo; have h5 := h.ghi
  exact ⟨Nat.le_trans h.top ho.size, h.tlo, h.thi, h.glo, h.ghi, h.tg, h.n1, h.n2, by rw [ho.block tb (by omega) (by omega)]; exact h.head, h.ncap, h.capM, by obtain ⟨r, hr⟩ := h.row; exact ⟨r, by rw [ho.block pg (by omega) (by omega)]; exact hr⟩⟩
end
end Go.Proofs.YtfbcdmhmpfijjaaGreatDoor

namespace Go.Proofs.YtfbcdmhmpfijjaaGreatDoor
open Go Go.RowKit

/-- A free page. -/
def Pg.free (g : Pg) : Bool := (g.k == 0) && ((g.c == 0) && (g.r == 0))

set_option maxHeartbeats 800000 in
theorem isFree_any (lo hi tb pg cap n i : Nat) (P : Nat → Pg) (low free : Int) (w : World) (ht : TableAt w lo hi tb pg cap n P low free) (hi' : i < n) :
    Calls Tryz.prog 109 #[.pointer (some ⟨tb, 0, none⟩), .int .i64 (i : Int)] w fun e w' => e = .returned (.bool (P i).free) ∧ w = w' := by
  have hc0 := ht.c0
  have hk := ht.pk i hi'
  have hc := ht.pc i hi'
  have hr := ht.pr i hi'
  have hi0 : (0 : Int) ≤ (i : Int) := by omega
  have hi1 : (i : Int) < (n : Int) := by omega
  clear ht hi'
  go_enter Tryz.func109, Tryz.ntmps109
  go_wp2
  all_goals
    go_ret
    exact ⟨by simp [Pg.free, *], rfl⟩

theorem TableAt.setLow {w : World} {lo hi tb pg cap n : Nat} {P : Nat → Pg} {low free : Int} (h : TableAt w lo hi tb pg cap n P low free) (x : Int) : TableAt (w.setCell ⟨tb, 1, none⟩ (.int .i64 x)) lo hi tb pg cap n P x free :=
  ⟨Nat.le_trans h.top (Nat.le_of_eq (by simp [World.setCell])), h.tlo, h.thi, h.glo, h.ghi, h.tg, h.n1, h.n2, by
    simp only [World.setCell, Array.getElem?_modify, h.head]; simp, h.ncap, h.capM, by
    obtain ⟨r, hr⟩ := h.row
    exact ⟨r, by rw [Below.heap_setCell _ _ _ _ (by show pg ≠ tb; exact h.tg.symm)]; exact hr⟩⟩
theorem TableAt.f (j : Nat) {w : World} {lo hi tb pg cap n : Nat} {P : Nat → Pg} {low free : Int} (h : TableAt w lo hi tb pg cap n P low free) : w.frozen? ⟨tb, j, none⟩ = false := by simp [World.frozen?, h.head]
theorem TableAt.drewN {w : World} {lo hi tb pg cap n : Nat} {P : Nat → Pg} {low free : Int} (h : TableAt w lo hi tb pg cap n P low free) (m : Nat) : TableAt (w.drewN m) lo hi tb pg cap n P low free :=
  ⟨h.top, h.tlo, h.thi, h.glo, h.ghi, h.tg, h.n1, h.n2, h.head, h.ncap, h.capM, h.row⟩

/-- The least free page from some page on; n: there is none. -/
def firstFree (P : Nat → Pg) (n : Nat) (i : Nat) : Nat := if h : i < n then (if (P i).free then i else firstFree P n (i + 1)) else n
  termination_by n - i
end Go.Proofs.YtfbcdmhmpfijjaaGreatDoor

namespace Go.Proofs.YtfbcdmhmpfijjaaGreatDoor
open Go Go.RowKit

set_option maxHeartbeats 1600000 in
theorem rise_any (lo hi tb pg cap n l : Nat) (P : Nat → Pg) (free : Int) (w : World) (ht : TableAt w lo hi tb pg cap n P (l : Int) free) (hl : l ≤ n) :
    Calls Tryz.prog 108 #[.pointer (some ⟨tb, 0, none⟩)] w fun e w' => e = .returned (.tuple #[]) ∧ TableAt w' lo hi tb pg cap n P (firstFree P n l : Nat) free ∧ Only lo hi w w' := by
  have hn2 := ht.n2
  have HT := Lib.hid ht; clear ht
  go_enter Tryz.func108, Tryz.ntmps108
  go_wp2_with fail
  go_loopw [] (fun wr => ∃ a : Nat, a ≤ n ∧ firstFree P n a = firstFree P n l ∧ TableAt wr lo hi tb pg cap n P (a : Int) free ∧ Only lo hi w wr) (fun wr => match wr.cell? ⟨tb, 1, none⟩ with | some v => n + 1 - (intOf v).toNat | none => 0)
  case atStart => exact ⟨l, hl, rfl, HT.out, Only.refl _ _ _⟩
  case round =>
    obtain ⟨a, ha, hf, hta, ho⟩ := hrel
    have hc0 := hta.c0
    have hc1 := hta.c1
    have ha0 : (0 : Int) ≤ (a : Int) := by omega
    have HTA := Lib.hid hta; clear hta
    have HF := Lib.hid hf; clear hf
    have HO := Lib.hid ho; clear ho
    by_cases hlt : a < n
    · have hd : (a : Int) < (n : Int) := by omega
      have HFR : Hid (∀ m, Calls Tryz.prog 109 #[.pointer (some ⟨tb, 0, none⟩), .int .i64 (a : Int)] (wr.drewN m) fun e w' => e = .returned (.bool (P a).free) ∧ wr.drewN m = w') := fun m => isFree_any lo hi tb pg cap n a P _ free _ (HTA.out.drewN m) hlt
      by_cases hfr : (P a).free = true
      · have he : firstFree P n a = a := by rw [firstFree, dif_pos hlt, if_pos hfr]
        have HE : Hid (firstFree P n l = a) := HF.out.symm.trans he
        rw [hfr] at HFR
        clear he hfr
        go_wp2_with fail
        go_quiet (((go_at_call 109; exact quiet_eq (HFR.out _))))
        go_wp2
        go_end0
        exact ⟨rfl, by rw [HE.out]; exact HTA.out.drewN _, HO.out.drewN _⟩
      · have hff : (P a).free = false := by simpa using hfr
        have he : firstFree P n a = firstFree P n (a + 1) := by rw [firstFree, dif_pos hlt, if_neg hfr]
        have HE : Hid (firstFree P n (a + 1) = firstFree P n l) := he.symm.trans HF.out
        have hfz := HTA.out.f 1
        rw [hff] at HFR
        clear he hfr hff
        have HLT := Lib.hid hlt
        have hw : IntKind.i64.wrap ((a : Int) + 1) = ((a + 1 : Nat) : Int) := by rw [IntKind.wrap_i64]; omega
        go_wp2_with fail
        go_quiet (((go_at_call 109; exact quiet_eq (HFR.out _))))
        go_wp2
        go_roundw
        case rel => exact ⟨a + 1, by have := HLT.out; omega, HE.out, (HTA.out.drewN _).setLow _, (HO.out.drewN _).setCell (.inl ⟨HTA.out.tlo, HTA.out.thi⟩) _⟩
        case measure =>
          rw [show ((wr.drewN nq).setCell ⟨tb, 1, none⟩ (.int .i64 ((a : Int) + 1))).cell? ⟨tb, 1, none⟩ = some (.int .i64 ((a : Int) + 1)) from World.cell?_setCell_same _ _ _ (show (wr.drewN nq).cell? ⟨tb, 1, none⟩ = _ from hc1), hc1]
          have := HLT.out
          simp [intOf]; omega
    · have hd : decide ((a : Int) < (n : Int)) = false := decide_eq_false (by omega)
      have HE : Hid (firstFree P n l = a) := Lib.hid (by rw [← HF.out, firstFree, dif_neg hlt]; omega)
      go_wp2_with fail
      go_quiet (fail)
      go_wp2
      go_end0
      exact ⟨rfl, by rw [HE.out]; exact HTA.out.drewN _, HO.out.drewN _⟩
end Go.Proofs.YtfbcdmhmpfijjaaGreatDoor

namespace Go.Proofs.YtfbcdmhmpfijjaaGreatDoor
open Go Go.RowKit

theorem Tryz.infoPg : (Tryz.prog.info? 146).map (fun i => (i.zero, i.size, i.bytes)) = some (some (.agg #[.int .i64 0, .int .i64 0, .int .i64 0]), 3, 24) := by kernel_rfl

theorem made_pages (n : Nat) : madeCells #[.int .i64 0, .int .i64 0, .int .i64 0] (n * 3) = pgCells (fun _ => ⟨0, 0, 0⟩) n := by
  apply Array.ext_getElem?
  intro j
  by_cases hj : j < 3 * n
  · rw [pgCells_at _ n j hj]
    have hs : j < (madeCells #[Value.int .i64 0, .int .i64 0, .int .i64 0] (n * 3)).size := by rw [size_madeCells]; omega
    rw [Array.getElem?_eq_getElem hs]
    unfold madeCells
    have h3 : j % 3 = 0 ∨ j % 3 = 1 ∨ j % 3 = 2 := by omega
    rcases h3 with h | h | h <;> simp [h]
  · rw [Array.getElem?_eq_none (by rw [size_madeCells]; omega), Array.getElem?_eq_none (by rw [pgCells_size]; omega)]

set_option maxHeartbeats 800000 in
theorem pnew_yes (n : Nat) (w : World) (h1 : 1 ≤ n) (h2 : n ≤ 4096) :
    Calls Tryz.prog 44 #[.int .i64 (n : Int)] w fun e w' => ∃ tb pg, e = .returned (.tuple #[.pointer (some ⟨tb, 0, none⟩), .int .i64 0]) ∧ TableAt w' w.heap.size w'.heap.size tb pg n n (fun _ => ⟨0, 0, 0⟩) 0 n ∧ Still w w' := by
  obtain ⟨i0, hi, hz0, hz1, hz2⟩ := info_parts Tryz.infoPg
  have hn0 : (0 : Int) ≤ (n : Int) := by omega
  have hmk := run_make (P := Tryz.prog) w 70 146 i0 (.agg #[.int .i64 0, .int .i64 0, .int .i64 0]) Tryz.underlying70 hi hz0 .i64 .i64 (n : Int) (n : Int) (by omega) (Int.le_refl _) (by rw [hz2]; omega) (by omega)
  rw [hz1, Int.toNat_natCast, show (Value.agg #[Value.int .i64 0, .int .i64 0, .int .i64 0]).cells = #[Value.int .i64 0, .int .i64 0, .int .i64 0] from rfl, made_pages] at hmk
  have hd1 : decide ((n : Int) < 1) = false := decide_eq_false (by omega)
  have hd2 : decide ((4096 : Int) < (n : Int)) = false := decide_eq_false (by omega)
  clear hi hz0 hz1 hz2
  go_enter Tryz.func44, Tryz.ntmps44
  go_wp2
  go_ret2
  refine ⟨w.heap.size + 1, w.heap.size, rfl, ?_, ((Only.refl _ _ w).alloc _).alloc _⟩
  refine ⟨Nat.le_refl _, by omega, by simp, Nat.le_refl _, by simp; omega, by omega, h1, h2, ?_, Nat.le_refl _, (by unfold maxLen; omega), ⟨#[], ?_⟩⟩
  · have := heap_alloc_new (w.alloc (.cells (pgCells (fun _ => ⟨0, 0, 0⟩) n) 146)) (.cells #[.slice (some ⟨w.heap.size, 0, none⟩) n n, .int .i64 0, .int .i64 (n : Int)] 132)
    rw [show (w.alloc (.cells (pgCells (fun _ => ⟨0, 0, 0⟩) n) 146)).heap.size = w.heap.size + 1 by simp] at this
    exact this
  · rw [Array.append_empty]
    exact (heap_alloc_old (w.alloc _) _ (by simp)).trans (heap_alloc_new w _)
end Go.Proofs.YtfbcdmhmpfijjaaGreatDoor
