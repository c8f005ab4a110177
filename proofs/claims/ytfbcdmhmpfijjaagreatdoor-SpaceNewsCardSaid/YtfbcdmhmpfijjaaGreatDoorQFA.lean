/-
  The walk of the document's own header (hearthref5.Make), and that it is the program's.
-/
import Derived.Test.YtfbcdmhmpfijjaaGreatDoorQC
import Derived.Test.YtfbcdmhmpfijjaaGreatDoorQH
import Derived.Test.YtfbcdmhmpfijjaaGreatDoorQG
import Derived.Test.YtfbcdmhmpfijjaaGreatDoorQO
namespace Go.Proofs.YtfbcdmhmpfijjaaGreatDoor
open Go Go.RowKit

theorem or_u64 (x y : Nat) (hx : x < 18446744073709551616) (hy : y < 18446744073709551616) : bits BinOp.or IntKind.u64 (x : Int) (y : Int) = ((x ||| y : Nat) : Int) := by
  have e1 : (BitVec.ofInt 64 (x : Int)).toNat = x := by rw [BitVec.toNat_ofInt]; omega
  have e2 : (BitVec.ofInt 64 (y : Int)).toNat = y := by rw [BitVec.toNat_ofInt]; omega
  show IntKind.u64.wrap ((BitVec.ofInt 64 (x : Int) ||| BitVec.ofInt 64 (y : Int)).toNat : Int) = _
  rw [BitVec.toNat_or, e1, e2]
  have h : x ||| y < 2 ^ 64 := Nat.or_lt_two_pow hx hy
  show ((x ||| y : Nat) : Int) % 18446744073709551616 = _
  omega
theorem and_u64 (x y : Nat) (hx : x < 18446744073709551616) (hy : y < 18446744073709551616) : bits BinOp.and IntKind.u64 (x : Int) (y : Int) = ((x &&& y : Nat) : Int) := by
  have e1 : (BitVec.ofInt 64 (x : Int)).toNat = x := by rw [BitVec.toNat_ofInt]; omega
  have e2 : (BitVec.ofInt 64 (y : Int)).toNat = y := by rw [BitVec.toNat_ofInt]; omega
  show IntKind.u64.wrap ((BitVec.ofInt 64 (x : Int) &&& BitVec.ofInt 64 (y : Int)).toNat : Int) = _
  rw [BitVec.toNat_and, e1, e2]
  have h : x &&& y ≤ x := Nat.and_le_left
  show ((x &&& y : Nat) : Int) % 18446744073709551616 = _
  omega
theorem or_add {i x y : Nat} (h : y < 2 ^ i) (hx : 2 ^ i * x < 18446744073709551616) (hi : y < 18446744073709551616) : bits BinOp.or IntKind.u64 ((2 ^ i * x : Nat) : Int) (y : Int) = ((2 ^ i * x + y : Nat) : Int) := by
  rw [or_u64 _ _ hx hi, ← Nat.two_pow_add_eq_or_of_lt h]
/-- The sign of a number. -/
def sgn (x : Nat) : Nat := x * 10872568911861 % 17592186044416
theorem hdr_eq (a k s : Nat) (h2 : a < 262144) (h4 : k ≤ 31) (h6 : s ≤ 1024) :
    Sp.hdr a k s = (((k + s * 32 + sgn (a * 65536 + k * 2048 + s) * 65536) * 8 + 5 : Nat) : Int) := by
  unfold Sp.hdr sgn
  have e1 : bits BinOp.or .u64 ((a : Int) * 65536) ((k : Int) * 2048) = ((a * 65536 + k * 2048 : Nat) : Int) := by
    have := or_add (i := 16) (x := a) (y := k * 2048) (by omega) (by omega) (by omega)
    rw [show ((2 ^ 16 * a : Nat) : Int) = (a : Int) * 65536 by omega, show ((k * 2048 : Nat) : Int) = (k : Int) * 2048 by omega] at this
    rw [this]
    omega
  obtain ⟨x, hx⟩ : ∃ x, a * 65536 + k * 2048 + s = x := ⟨_, rfl⟩
  have e2 : IntKind.u64.wrap (bits BinOp.or .u64 ((a : Int) * 65536) ((k : Int) * 2048) + (s : Int)) = (x : Int) := by
    rw [e1]
    show (((a * 65536 + k * 2048 : Nat) : Int) + (s : Int)) % 18446744073709551616 = _
    omega
  rw [e2, hx]
  have e3 : IntKind.u64.wrap ((x : Int) * 10872568911861) = ((x * 10872568911861 % 18446744073709551616 : Nat) : Int) := by
    show ((x : Int) * 10872568911861) % 18446744073709551616 = _
    omega
  rw [e3]
  obtain ⟨g, hg⟩ : ∃ g, x * 10872568911861 % 17592186044416 = g := ⟨_, rfl⟩
  have e4 : bits BinOp.and .u64 ((x * 10872568911861 % 18446744073709551616 : Nat) : Int) 17592186044415 = (g : Int) := by
    have := and_u64 (x * 10872568911861 % 18446744073709551616) 17592186044415 (by omega) (by omega)
    rw [show (((17592186044415 : Nat)) : Int) = 17592186044415 from rfl] at this
    rw [this, show (17592186044415 : Nat) = 2 ^ 44 - 1 from rfl, Nat.and_two_pow_sub_one_eq_mod]
    omega
  rw [e4, hg]
  have hgl : g < 17592186044416 := by omega
  have e5 : IntKind.u64.wrap ((g : Int) * 65536) = ((2 ^ 16 * g : Nat) : Int) := by
    show ((g : Int) * 65536) % 18446744073709551616 = _
    omega
  have e6 := or_add (i := 16) (x := g) (y := s * 32) (by omega) (by omega) (by omega)
  rw [show ((s * 32 : Nat) : Int) = (s : Int) * 32 by omega] at e6
  rw [e5, e6]
  have e7 := or_add (i := 5) (x := 2048 * g + s) (y := k) (by omega) (by omega) (by omega)
  rw [show 2 ^ 5 * (2048 * g + s) = 2 ^ 16 * g + s * 32 by omega] at e7
  rw [e7]
  have e8 : IntKind.u64.wrap (((2 ^ 16 * g + s * 32 + k : Nat) : Int) * 8) = ((2 ^ 3 * (k + s * 32 + g * 65536) : Nat) : Int) := by
    show (((2 ^ 16 * g + s * 32 + k : Nat) : Int) * 8) % 18446744073709551616 = _
    omega
  have e9 := or_add (i := 3) (x := k + s * 32 + g * 65536) (y := 5) (by omega) (by omega) (by omega)
  rw [show ((5 : Nat) : Int) = 5 from rfl] at e9
  rw [e8, e9, ← IntWalk.i64_left, IntKind.wrap_i64]
  omega
set_option maxHeartbeats 1600000 in
theorem rsign_any (x : Nat) (hx : x < 17592186044416) (w : World) :
    Calls Tryz.prog 134 #[.int .i64 (x : Int)] w fun e w' => e = .returned (.int .i64 (sgn x : Int)) ∧ w = w' := by
  obtain ⟨r, hr⟩ : ∃ r, sgn x = r := ⟨_, rfl⟩
  have HR := Lib.hid hr
  have h0 : (0 + 10872568911861 * x) % 17592186044416 = r := by rw [← hr]; unfold sgn; omega
  rw [hr]
  clear hr
  go_enter Tryz.func134, Tryz.ntmps134
  go_wp2_with fail
  go_loopw [0, 3, 4] (fun a b c W => ∃ y s d : Nat, a = .int .i64 (y : Int) ∧ b = .int .i64 (s : Int) ∧ c = .int .i64 (d : Int) ∧ y < 17592186044416 ∧ s < 17592186044416 ∧ d < 17592186044416 ∧ (s + d * y) % 17592186044416 = r ∧ w = W) (fun a _ _ _ => (intOf a).toNat)
  case atStart => exact ⟨x, 0, 10872568911861, rfl, rfl, rfl, hx, by omega, by omega, h0, rfl⟩
  case round =>
    obtain ⟨y, s, d, rfl, rfl, rfl, hy, hs, hd, hE, rfl⟩ := hrel
    have hy0 : (0 : Int) ≤ (y : Int) := by omega
    have hs0 : (0 : Int) ≤ (s : Int) := by omega
    have hd0 : (0 : Int) ≤ (d : Int) := by omega
    by_cases hyp : 0 < y
    · have hypI : (0 : Int) < (y : Int) := by omega
      have hyI : (y : Int) < 17592186044416 := by omega
      have hsI : (s : Int) < 17592186044416 := by omega
      have hdI : (d : Int) < 17592186044416 := by omega
      have ht2 : (y : Int).tdiv 2 = ((y / 2 : Nat) : Int) := by rw [Int.tdiv_eq_ediv_of_nonneg (by omega)]; rfl
      have htd : ((d : Int) + (d : Int)).tmod 17592186044416 = (((d + d) % 17592186044416 : Nat) : Int) := by rw [Int.tmod_eq_emod_of_nonneg (by omega)]; omega
      have hts : ((s : Int) + (d : Int)).tmod 17592186044416 = (((s + d) % 17592186044416 : Nat) : Int) := by rw [Int.tmod_eq_emod_of_nonneg (by omega)]; omega
      have hE2 := Lib.hid hE
      rcases Nat.mod_two_eq_zero_or_one y with h2 | h2
      · have htm : (y : Int).tmod 2 = 0 := by rw [Int.tmod_eq_emod_of_nonneg (by omega)]; omega
        go_wp2_with fail
        refine ⟨⟨y / 2, s, (d + d) % 17592186044416, rfl, rfl, rfl, by omega, hs, by omega, ?_, by first | rfl | trivial⟩, by simp [intOf]; omega⟩
        rw [← hE2.out, Nat.add_mod, Nat.mod_mul_mod, ← Nat.add_mod]
        have : y = 2 * (y / 2) := by omega
        generalize y / 2 = z at *
        subst this
        rw [show (d + d) * z = d * (2 * z) by rw [← Nat.two_mul, Nat.mul_comm 2 d, Nat.mul_assoc]]
      · have htm : (y : Int).tmod 2 = 1 := by rw [Int.tmod_eq_emod_of_nonneg (by omega)]; omega
        go_wp2_with fail
        refine ⟨⟨y / 2, (s + d) % 17592186044416, (d + d) % 17592186044416, rfl, rfl, rfl, by omega, by omega, by omega, ?_, by first | rfl | trivial⟩, by simp [intOf]; omega⟩
        rw [← hE2.out, Nat.mod_add_mod, Nat.add_mod, Nat.mod_mul_mod, ← Nat.add_mod]
        have : y = 2 * (y / 2) + 1 := by omega
        generalize y / 2 = z at *
        subst this
        rw [show s + d + (d + d) * z = s + d * (2 * z + 1) by rw [Nat.mul_add, ← Nat.two_mul, Nat.mul_comm 2 d, Nat.mul_assoc]; omega]
    · obtain rfl : y = 0 := by omega
      have hE2 : s = r := by omega
      subst hE2
      go_wp2_with fail
      go_ret
      exact ⟨rfl, rfl⟩
set_option maxHeartbeats 1600000 in
theorem rmake_any (a k s : Nat) (h2 : a < 262144) (h3 : 1 ≤ k) (h4 : k ≤ 31) (h5 : 1 ≤ s) (h6 : s ≤ 1024) (w : World) :
    Calls Tryz.prog 106 #[.int .i64 (a : Int), .int .i64 (k : Int), .int .i64 (s : Int)] w fun e w' => e = .returned (.int .i64 (Sp.hdr a k s)) ∧ w = w' := by
  obtain ⟨x, hx⟩ : ∃ x, a * 65536 + k * 2048 + s = x := ⟨_, rfl⟩
  have HS := Lib.hid (rsign_any x (by omega) w)
  rw [hdr_eq a k s h2 h4 h6, hx]
  have hgl : sgn x < 17592186044416 := Nat.mod_lt _ (by omega)
  obtain ⟨g, hg⟩ : ∃ g, sgn x = g := ⟨_, rfl⟩
  rw [hg] at hgl HS ⊢
  have hxI : (a : Int) * 65536 + (k : Int) * 2048 + (s : Int) = (x : Int) := by omega
  have a0 : (0 : Int) ≤ (a : Int) := by omega
  have a1 : (a : Int) ≤ 262143 := by omega
  have k1 : (1 : Int) ≤ (k : Int) := by omega
  have k2 : (k : Int) ≤ 31 := by omega
  have s1 : (1 : Int) ≤ (s : Int) := by omega
  have s2 : (s : Int) ≤ 1024 := by omega
  have g0 : (0 : Int) ≤ (g : Int) := by omega
  have g1 : (g : Int) < 17592186044416 := by omega
  have HG : Hid (Calls Tryz.prog 133 #[.int .i64 (a : Int), .int .i64 (k : Int), .int .i64 (s : Int)] w fun e w' => e = .returned (.bool true) ∧ w = w') := Lib.hid (by
    go_enter Tryz.func133, Tryz.ntmps133
    go_wp2_with fail
    go_ret
    exact ⟨rfl, rfl⟩)
  clear hg hx
  go_enter Tryz.func106, Tryz.ntmps106
  go_wp2_with fail
  refine HG.out.mono ?_
  rintro e w1 ⟨rfl, rfl⟩
  go_wp2_with fail
  refine HS.out.mono ?_
  rintro e w1 ⟨rfl, rfl⟩
  go_wp2_with fail
  go_ret
  exact ⟨by first | rfl | (congr 1; omega) | (congr 2; omega), rfl⟩
end Go.Proofs.YtfbcdmhmpfijjaaGreatDoor

namespace Go.Proofs.YtfbcdmhmpfijjaaGreatDoor
open Go Go.RowKit

theorem Sp.cw_step (i : Nat) (h : i < 7) : Sp.cw (i + 1) = Sp.cw i + (if i < 3 then 2 else if i < 6 then 4 else 12) := by
  have h' : i = 0 ∨ i = 1 ∨ i = 2 ∨ i = 3 ∨ i = 4 ∨ i = 5 ∨ i = 6 := by omega
  rcases h' with rfl | rfl | rfl | rfl | rfl | rfl | rfl <;> decide
set_option maxRecDepth 100000 in
set_option maxHeartbeats 1600000 in
theorem rwords_any (c : Nat) (hc : c < 8) (w : World) :
    Calls Tryz.prog 126 #[.int .i64 (c : Int)] w fun e w' => e = .returned (.int .i64 (Sp.cw c : Int)) ∧ w = w' := by
  have hcI : (c : Int) < 8 := by omega
  have hc0 : (0 : Int) ≤ (c : Int) := by omega
  go_enter Tryz.func126, Tryz.ntmps126
  go_wp2_with fail
  go_loopw [3, 4] (fun x y W => ∃ i : Nat, x = .int .i64 (Sp.cw i : Int) ∧ y = .int .i64 (i : Int) ∧ i ≤ c ∧ w = W) (fun _ y _ => c + 1 - (intOf y).toNat)
  case atStart => exact ⟨0, rfl, rfl, Nat.zero_le _, rfl⟩
  case round =>
    obtain ⟨i, rfl, rfl, hi, rfl⟩ := hrel
    have hi0 : (0 : Int) ≤ (i : Int) := by omega
    by_cases hic : i < c
    · have hiI : (i : Int) < (c : Int) := by omega
      have hs := Sp.cw_step i (by omega)
      have hl := (Sp.cw_le i (by omega)).2.1
      obtain ⟨v, hv⟩ : ∃ v, Sp.cw i = v := ⟨_, rfl⟩
      rw [hv] at hs hl ⊢
      have hl2 : (v : Int) ≤ 32 := by omega
      have hl0 : (0 : Int) ≤ (v : Int) := by omega
      by_cases h3 : i < 3
      · have h3I : (i : Int) < 3 := by omega
        rw [if_pos h3] at hs
        have HSI := Lib.hid hs
        clear hs
        go_wp2_with fail
        exact ⟨⟨i + 1, by rw [HSI.out]; go_num, by go_num, hic, by first | rfl | trivial⟩, by simp [intOf]; omega⟩
      · have h3I : ¬((i : Int) < 3) := by omega
        have h3d : (3 : Int) ≤ (i : Int) := by omega
        by_cases h6 : i < 6
        · have h6I : (i : Int) < 6 := by omega
          rw [if_neg h3, if_pos h6] at hs
          have HSI := Lib.hid hs
          clear hs
          go_wp2_with fail
          exact ⟨⟨i + 1, by rw [HSI.out]; go_num, by go_num, hic, by first | rfl | trivial⟩, by simp [intOf]; omega⟩
        · have h6d : (6 : Int) ≤ (i : Int) := by omega
          rw [if_neg h3, if_neg h6] at hs
          have HSI := Lib.hid hs
          clear hs
          go_wp2_with fail
          exact ⟨⟨i + 1, by rw [HSI.out]; go_num, by go_num, hic, by first | rfl | trivial⟩, by simp [intOf]; omega⟩
    · obtain rfl : i = c := by omega
      go_wp2_with fail
      go_ret
      exact ⟨rfl, rfl⟩
theorem Sp.bk_lt (c : Nat) (hc : c < 8) (n : Nat) : n < Sp.bk c ↔ (n + 1) * Sp.cw c ≤ 64 := by
  have := Sp.cw_8 c hc
  rcases this with ⟨h1, h2⟩ | ⟨h1, h2⟩ | ⟨h1, h2⟩ | ⟨h1, h2⟩ | ⟨h1, h2⟩ | ⟨h1, h2⟩ | ⟨h1, h2⟩ | ⟨h1, h2⟩ <;> rw [h1, h2] <;> omega
set_option maxRecDepth 100000 in
set_option maxHeartbeats 1600000 in
theorem rblocks_any (c : Nat) (hc : c < 8) (w : World) :
    Calls Tryz.prog 119 #[.int .i64 (c : Int)] w fun e w' => e = .returned (.int .i64 (Sp.bk c : Int)) ∧ w = w' := by
  have hle := Sp.cw_le c hc
  have HB := Lib.hid (fun n => Sp.bk_lt c hc n)
  have HW := Lib.hid (rwords_any c hc w)
  obtain ⟨v, hv⟩ : ∃ v, Sp.cw c = v := ⟨_, rfl⟩
  rw [hv] at hle HB HW
  have hv1 : (2 : Int) ≤ (v : Int) := by omega
  have hv2 : (v : Int) ≤ 32 := by omega
  go_enter Tryz.func119, Tryz.ntmps119
  go_wp2_with fail
  refine HW.out.mono ?_
  rintro e w1 ⟨rfl, rfl⟩
  go_wp2_with fail
  go_loopw [4] (fun y W => ∃ n : Nat, y = .int .i64 (n : Int) ∧ n ≤ Sp.bk c ∧ w = W) (fun y _ => Sp.bk c + 1 - (intOf y).toNat)
  case atStart => exact ⟨0, rfl, Nat.zero_le _, rfl⟩
  case round =>
    obtain ⟨n, rfl, hn, rfl⟩ := hrel
    have hn0 : (0 : Int) ≤ (n : Int) := by omega
    have hnI : (n : Int) ≤ 32 := by omega
    by_cases hnb : n < Sp.bk c
    · have h1 : ((n : Int) + 1) * (v : Int) ≤ 64 := by have := (HB.out n).1 hnb; exact_mod_cast this
      have h2 : (0 : Int) ≤ ((n : Int) + 1) * (v : Int) := Int.mul_nonneg (by omega) (by omega)
      go_wp2_with fail
      exact ⟨⟨n + 1, by go_num, hnb, by first | rfl | trivial⟩, by simp [intOf]; omega⟩
    · have h1 : ¬((n + 1) * v ≤ 64) := fun h => hnb ((HB.out n).2 h)
      have h1 : (64 : Int) < ((n : Int) + 1) * (v : Int) := by
        have h : 64 < (n + 1) * v := by omega
        exact_mod_cast h
      have h2 : ((n : Int) + 1) * (v : Int) ≤ 33 * 32 := Int.mul_le_mul (by omega) hv2 (by omega) (by omega)
      obtain rfl : n = Sp.bk c := by omega
      go_wp2_with fail
      go_ret
      exact ⟨rfl, rfl⟩
set_option maxRecDepth 100000 in
set_option maxHeartbeats 800000 in
theorem rstart_any (c : Nat) (hc : c < 8) (i : Nat) (hi : i < Sp.bk c) (w : World) :
    Calls Tryz.prog 120 #[.int .i64 (c : Int), .int .i64 (i : Int)] w fun e w' => e = .returned (.int .i64 ((i * Sp.cw c : Nat) : Int)) ∧ w = w' := by
  have hle := Sp.cw_le c hc
  have hin := Sp.cw_in c hc i hi
  have HB := Lib.hid (rblocks_any c hc w)
  have HW := Lib.hid (rwords_any c hc w)
  obtain ⟨v, hv⟩ : ∃ v, Sp.cw c = v := ⟨_, rfl⟩
  obtain ⟨b, hb⟩ : ∃ b, Sp.bk c = b := ⟨_, rfl⟩
  rw [hv] at hin HW ⊢
  rw [hb] at hi hle HB
  have hiI : (i : Int) < (b : Int) := by omega
  have hi0 : (0 : Int) ≤ (i : Int) := by omega
  obtain ⟨I, hI⟩ : ∃ I, i * v = I := ⟨_, rfl⟩
  have hwr : IntKind.i64.wrap ((i : Int) * (v : Int)) = (I : Int) := by
    have hm : (i : Int) * (v : Int) = (I : Int) := by rw [← hI]; simp
    rw [hm, IntKind.wrap_i64]
    omega
  have hwr2 : wrap64 ((i : Int) * (v : Int)) = (I : Int) := by rw [← IntWalk.i64_left]; exact hwr
  rw [hI] at hin ⊢
  have hIM : (I : Int) ≤ 64 := by omega
  have hI0 : (0 : Int) ≤ (I : Int) := by omega
  clear hI hin
  go_enter Tryz.func120, Tryz.ntmps120
  go_wp2_with fail
  refine HB.out.mono ?_
  rintro e w1 ⟨rfl, rfl⟩
  go_wp2_with fail
  refine HW.out.mono ?_
  rintro e w1 ⟨rfl, rfl⟩
  go_wp2_with fail
  go_ret
  exact ⟨rfl, rfl⟩
end Go.Proofs.YtfbcdmhmpfijjaaGreatDoor

namespace Go.Proofs.YtfbcdmhmpfijjaaGreatDoor
open Go Go.RowKit

theorem Sp.cls_least {z : Int} (h1 : 1 ≤ z) (h2 : z ≤ 1024) {c : Nat} (hc : c ≤ 8) (hl : ∀ i, i < c → (Sp.cw i : Int) < z) (hg : c < 8 → z ≤ (Sp.cw c : Int)) : Sp.cls z = (c : Int) := by
  have e0 : (Sp.cw 0 : Int) = 2 := rfl
  have e1 : (Sp.cw 1 : Int) = 4 := rfl
  have e2 : (Sp.cw 2 : Int) = 6 := rfl
  have e3 : (Sp.cw 3 : Int) = 8 := rfl
  have e4 : (Sp.cw 4 : Int) = 12 := rfl
  have e5 : (Sp.cw 5 : Int) = 16 := rfl
  have e6 : (Sp.cw 6 : Int) = 20 := rfl
  have e7 : (Sp.cw 7 : Int) = 32 := rfl
  have hc' : c = 0 ∨ c = 1 ∨ c = 2 ∨ c = 3 ∨ c = 4 ∨ c = 5 ∨ c = 6 ∨ c = 7 ∨ c = 8 := by omega
  unfold Sp.cls
  rw [if_neg (by omega)]
  rcases hc' with rfl | rfl | rfl | rfl | rfl | rfl | rfl | rfl | rfl
  · have g := hg (by omega); rw [if_pos (by omega)]; rfl
  · have g := hg (by omega); have l := hl 0 (by omega); rw [if_neg (by omega), if_pos (by omega)]; rfl
  · have g := hg (by omega); have l := hl 1 (by omega); rw [if_neg (by omega), if_neg (by omega), if_pos (by omega)]; rfl
  · have g := hg (by omega); have l := hl 2 (by omega); rw [if_neg (by omega), if_neg (by omega), if_neg (by omega), if_pos (by omega)]; rfl
  · have g := hg (by omega); have l := hl 3 (by omega); rw [if_neg (by omega), if_neg (by omega), if_neg (by omega), if_neg (by omega), if_pos (by omega)]; rfl
  · have g := hg (by omega); have l := hl 4 (by omega); rw [if_neg (by omega), if_neg (by omega), if_neg (by omega), if_neg (by omega), if_neg (by omega), if_pos (by omega)]; rfl
  · have g := hg (by omega); have l := hl 5 (by omega); rw [if_neg (by omega), if_neg (by omega), if_neg (by omega), if_neg (by omega), if_neg (by omega), if_neg (by omega), if_pos (by omega)]; rfl
  · have g := hg (by omega); have l := hl 6 (by omega); rw [if_neg (by omega), if_neg (by omega), if_neg (by omega), if_neg (by omega), if_neg (by omega), if_neg (by omega), if_neg (by omega), if_pos (by omega)]; rfl
  · have l := hl 7 (by omega); rw [if_neg (by omega), if_neg (by omega), if_neg (by omega), if_neg (by omega), if_neg (by omega), if_neg (by omega), if_neg (by omega), if_neg (by omega)]; rfl
theorem Sp.cls_in2 {z : Int} (h1 : 1 ≤ z) (h2 : z ≤ 1024) : 0 ≤ Sp.cls z ∧ Sp.cls z ≤ 8 := by
  unfold Sp.cls
  rw [if_neg (by omega)]
  repeat' split
  all_goals exact ⟨by decide, by decide⟩
set_option maxHeartbeats 1600000 in
theorem rof_yes (z : Int) (h1 : 1 ≤ z) (h2 : z ≤ 1024) (w : World) :
    Calls Tryz.prog 113 #[.int .i64 z] w fun e w' => e = .returned (.int .i64 (Sp.cls z)) ∧ w = w' := by
  have HW := Lib.hid (fun c hc => rwords_any c hc w)
  go_enter Tryz.func113, Tryz.ntmps113
  go_wp2_with fail
  go_loopw [3] (fun y W => ∃ c : Nat, y = .int .i64 (c : Int) ∧ c ≤ 8 ∧ (∀ i, i < c → (Sp.cw i : Int) < z) ∧ w = W) (fun y _ => 9 - (intOf y).toNat)
  case atStart => exact ⟨0, rfl, Nat.zero_le _, fun i hi => absurd hi (Nat.not_lt_zero _), rfl⟩
  case round =>
    obtain ⟨c, rfl, hc, hl, rfl⟩ := hrel
    have HL := Lib.hid hl
    have hc0 : (0 : Int) ≤ (c : Int) := by omega
    clear hl
    by_cases hc8 : c < 8
    · have hcI : (c : Int) < 8 := by omega
      go_wp2_with fail
      refine (HW.out c hc8).mono ?_
      rintro e w1 ⟨rfl, rfl⟩
      have hcw := (Sp.cw_le c hc8).2.1
      by_cases hz : (Sp.cw c : Int) < z
      · have HL2 : Hid (∀ i, i < c + 1 → (Sp.cw i : Int) < z) := Lib.hid fun i hi => by
          by_cases e : i = c
          · rw [e]; exact hz
          · exact HL.out i (by omega)
        generalize Sp.cw c = v at *
        go_wp2_with fail
        exact ⟨⟨c + 1, by go_num, hc8, HL2.out, by first | rfl | trivial⟩, by simp [intOf]; omega⟩
      · have hz' : z ≤ (Sp.cw c : Int) := by omega
        have HCL := Lib.hid (Sp.cls_least h1 h2 (Nat.le_of_lt hc8) HL.out (fun _ => hz'))
        generalize Sp.cw c = v at *
        go_wp2_with fail
        go_ret
        exact ⟨by rw [HCL.out]; rfl, rfl⟩
    · obtain rfl : c = 8 := by omega
      have HCL := Lib.hid (Sp.cls_least h1 h2 (Nat.le_refl _) HL.out (fun h => absurd h (by omega)))
      go_wp2_with fail
      go_ret
      exact ⟨by rw [HCL.out]; rfl, rfl⟩
set_option maxHeartbeats 1600000 in
theorem rpages_any (z : Int) (h1 : 1 ≤ z) (h2 : z ≤ 1024) (w : World) :
    Calls Tryz.prog 115 #[.int .i64 z] w fun e w' => e = .returned (.int .i64 (Sp.pgs z)) ∧ w = w' := by
  have HO := Lib.hid (rof_yes z h1 h2 w)
  have hcl := Sp.cls_in2 h1 h2
  by_cases h8 : Sp.cls z = 8
  · have hp : Sp.pgs z = (z + 63) / 64 := by unfold Sp.pgs; rw [if_pos h8]
    have hz := Sp.cls_8 h8
    rw [h8] at HO
    obtain ⟨m, hm⟩ : ∃ m : Nat, Sp.pgs z = (m : Int) := ⟨(Sp.pgs z).toNat, by omega⟩
    rw [hm] at hp ⊢
    clear hm hcl h8
    go_enter Tryz.func115, Tryz.ntmps115
    go_wp2_with fail
    refine HO.out.mono ?_
    rintro e w1 ⟨rfl, rfl⟩
    go_wp2_with fail
    go_loopw [3] (fun y W => ∃ n : Nat, y = .int .i64 (n : Int) ∧ n ≤ m ∧ w = W) (fun y _ => m + 1 - (intOf y).toNat)
    case atStart => exact ⟨0, rfl, Nat.zero_le _, rfl⟩
    case round =>
      obtain ⟨n, rfl, hn, rfl⟩ := hrel
      have hn0 : (0 : Int) ≤ (n : Int) := by omega
      have hnI : (n : Int) ≤ 17 := by omega
      by_cases hnm : n < m
      · have hlt : (n : Int) * 64 < z := by omega
        go_wp2_with fail
        exact ⟨⟨n + 1, by go_num, hnm, by first | rfl | trivial⟩, by simp [intOf]; omega⟩
      · obtain rfl : n = m := by omega
        have hlt : z ≤ (n : Int) * 64 := by omega
        go_wp2_with fail
        go_ret
        exact ⟨rfl, rfl⟩
  · have hp : Sp.pgs z = 0 := by unfold Sp.pgs; rw [if_neg h8]
    have hne : (Sp.cls z != 8) = true := by simpa using h8
    rw [hp]
    clear hp
    generalize Sp.cls z = c at *
    go_enter Tryz.func115, Tryz.ntmps115
    go_wp2_with fail
    refine HO.out.mono ?_
    rintro e w1 ⟨rfl, rfl⟩
    go_wp2_with fail
    go_ret
    exact ⟨rfl, rfl⟩
set_option maxHeartbeats 1600000 in
theorem rroom_any (z : Int) (h1 : 1 ≤ z) (h2 : z ≤ 1024) (w : World) :
    Calls Tryz.prog 83 #[.int .i64 z] w fun e w' => e = .returned (.int .i64 (Sp.wide z)) ∧ w = w' := by
  have HO := Lib.hid (rof_yes z h1 h2 w)
  have HP := Lib.hid (rpages_any z h1 h2 w)
  have hcl := Sp.cls_in2 h1 h2
  by_cases h8 : Sp.cls z = 8
  · have hp : Sp.pgs z = (z + 63) / 64 := by unfold Sp.pgs; rw [if_pos h8]
    have hz := Sp.cls_8 h8
    have hw : Sp.wide z = Sp.pgs z * 64 := by unfold Sp.wide; rw [if_pos (by omega)]
    rw [hw]
    have hp1 : 0 < Sp.pgs z := by omega
    have hp2 : Sp.pgs z ≤ 16 := by omega
    generalize Sp.pgs z = m at *
    clear HO hp hcl h8
    go_enter Tryz.func83, Tryz.ntmps83
    go_wp2_with fail
    refine HP.out.mono ?_
    rintro e w1 ⟨rfl, rfl⟩
    go_wp2_with fail
    refine HP.out.mono ?_
    rintro e w1 ⟨rfl, rfl⟩
    go_wp2_with fail
    go_ret
    exact ⟨rfl, rfl⟩
  · have hp : Sp.pgs z = 0 := by unfold Sp.pgs; rw [if_neg h8]
    obtain ⟨c, hc⟩ : ∃ c : Nat, Sp.cls z = (c : Int) := ⟨(Sp.cls z).toNat, by omega⟩
    have hc8 : c < 8 := by omega
    have hw : Sp.wide z = (Sp.cw c : Int) := by unfold Sp.wide; rw [if_neg (by omega), hc, Sp.cww_nat c hc8]
    have HW := Lib.hid (rwords_any c hc8 w)
    rw [hp] at HP
    rw [hc] at HO
    rw [hw]
    clear hp hw hc hcl h8
    generalize Sp.cw c = v at *
    go_enter Tryz.func83, Tryz.ntmps83
    go_wp2_with fail
    refine HP.out.mono ?_
    rintro e w1 ⟨rfl, rfl⟩
    go_wp2_with fail
    refine HO.out.mono ?_
    rintro e w1 ⟨rfl, rfl⟩
    go_wp2_with fail
    refine HW.out.mono ?_
    rintro e w1 ⟨rfl, rfl⟩
    go_wp2_with fail
    go_ret
    exact ⟨rfl, rfl⟩
end Go.Proofs.YtfbcdmhmpfijjaaGreatDoor

namespace Go.Proofs.YtfbcdmhmpfijjaaGreatDoor
open Go Go.RowKit

theorem row_ix {k i d i' d' : Nat} (h : d < k) (h' : d' < k) (e : i' * k + d' = i * k + d) : i' = i ∧ d' = d := by
  have h1 : (i' * k + d') / k = i' := by rw [Nat.mul_comm, Nat.mul_add_div (by omega), Nat.div_eq_of_lt h', Nat.add_zero]
  have h2 : (i * k + d) / k = i := by rw [Nat.mul_comm, Nat.mul_add_div (by omega), Nat.div_eq_of_lt h, Nat.add_zero]
  have h3 : i' = i := by rw [← h1, ← h2, e]
  subst h3
  exact ⟨rfl, by omega⟩
/-- A row of n elements of k numbers each, from the start of block b on. -/
def RowB (w : World) (b : Nat) (T : TypeId) (n k : Nat) (f : Nat → Nat → Int) : Prop :=
  ∃ cur, w.heap[b]? = some (.cells cur T (0, 0)) ∧ ∀ i, i < n → ∀ d, d < k → cur[i * k + d]? = some (.int .i64 (f i d))
section
variable {w w' : World} {b : Nat} {T : TypeId} {n k : Nat} {f : Nat → Nat → Int} (h : RowB w b T n k f)
include h
theorem RowB.lt : b < w.heap.size := by
  obtain ⟨cur, h1, _⟩ := h
  exact (Array.getElem?_eq_some_iff.1 h1).1
theorem RowB.frozen (j : Nat) : w.frozen? ⟨b, j, none⟩ = false := by
  obtain ⟨cur, h1, _⟩ := h
  simp [World.frozen?, h1]
theorem RowB.cell {i d : Nat} (hi : i < n) (hd : d < k) : w.cell? ⟨b, i * k + d, none⟩ = some (.int .i64 (f i d)) := by
  obtain ⟨cur, h1, h2⟩ := h
  simp only [World.cell?, h1]
  exact h2 i hi d hd
theorem RowB.kept {lo hi : Nat} (ho : Only lo hi w w') (hb : b < lo ∨ hi ≤ b) : RowB w' b T n k f := by
  have hl := h.lt
  obtain ⟨cur, h1, h2⟩ := h
  exact ⟨cur, (ho.block b hl hb).trans h1, h2⟩
theorem RowB.still (ho : Still w w') : RowB w' b T n k f := h.kept ho (.inl h.lt)
theorem RowB.congr {g : Nat → Nat → Int} (e : ∀ i, i < n → ∀ d, d < k → f i d = g i d) : RowB w b T n k g := by
  obtain ⟨cur, h1, h2⟩ := h
  exact ⟨cur, h1, fun i hi d hd => by rw [h2 i hi d hd, e i hi d hd]⟩
theorem RowB.set {i d : Nat} (hi : i < n) (hd : d < k) (v : Int) : RowB (w.setCell ⟨b, i * k + d, none⟩ (.int .i64 v)) b T n k (fun i' d' => if i' = i ∧ d' = d then v else f i' d') := by
  obtain ⟨cur, h1, h2⟩ := h
  refine ⟨cur.setIfInBounds (i * k + d) (.int .i64 v), ?_, fun i' hi' d' hd' => ?_⟩
  · simp only [World.setCell, Array.getElem?_modify, h1, if_pos, Option.map_some, Option.isSome_none, Bool.false_eq_true, if_false]
  · have hlt := (Array.getElem?_eq_some_iff.1 (h2 i hi d hd)).1
    rw [Array.getElem?_setIfInBounds]
    dsimp only
    by_cases e : i' = i ∧ d' = d
    · obtain ⟨rfl, rfl⟩ := e
      rw [if_pos rfl, if_pos hlt, if_pos ⟨rfl, rfl⟩]
    · rw [if_neg fun e2 => e (row_ix hd hd' e2.symm), if_neg e]
      exact h2 i' hi' d' hd'
end

/-- Where the parts of the document's own space lie. -/
structure RLay where
  lo : Nat
  hi : Nat
  rb : Nat
  tb : Nat
  wb : Nat
  pb : Nat
  ob : Nat
  cw : Nat
  cp : Nat
  co : Nat
structure RLay.Ok (R : RLay) : Prop where
  lo0 : 0 < R.lo
  rb1 : R.lo ≤ R.rb ∧ R.rb < R.hi
  tb1 : R.lo ≤ R.tb ∧ R.tb < R.hi
  wb1 : R.lo ≤ R.wb ∧ R.wb < R.hi
  pb1 : R.lo ≤ R.pb ∧ R.pb < R.hi
  ob1 : R.lo ≤ R.ob ∧ R.ob < R.hi
  rt : R.rb ≠ R.tb
  rw' : R.rb ≠ R.wb
  rp : R.rb ≠ R.pb
  ro : R.rb ≠ R.ob
  tw : R.tb ≠ R.wb
  tp : R.tb ≠ R.pb
  to' : R.tb ≠ R.ob
  wp : R.wb ≠ R.pb
  wo : R.wb ≠ R.ob
  po : R.pb ≠ R.ob
/-- What stands in the document's list of objects. -/
def St.ro (s : St) (a d : Nat) : Int :=
  if s.B 0 a then (if d = 0 then (a : Int) else if d = 1 then (s.sh a).k else if d = 2 then (s.sh a).z else if d = 3 then (s.sh a).s else (s.sh a).t) else 0
/-- What stands in a list of pages. -/
def St.pr (s : St) (i d : Nat) : Int := if d = 0 then (s.P i).k else if d = 1 then (s.P i).c else (s.P i).r
structure RefAt (w : World) (R : RLay) (s : St) : Prop where
  ok : R.Ok
  top : R.hi ≤ w.heap.size
  n1 : 1 ≤ s.n
  n2 : s.n ≤ 4096
  head : w.heap[R.rb]? = some (.cells #[.slice (some ⟨R.wb, 0, none⟩) (64 * s.n) R.cw, .pointer (some ⟨R.tb, 0, none⟩), .slice (some ⟨R.ob, 0, none⟩) (64 * s.n) R.co, .int .i64 s.ser] 66 (0, 0))
  thead : w.heap[R.tb]? = some (.cells #[.slice (some ⟨R.pb, 0, none⟩) s.n R.cp] 127 (0, 0))
  words : RowB w R.wb 3 (64 * s.n) 1 (fun i _ => s.W i)
  pages : RowB w R.pb 146 s.n 3 s.pr
  objs : RowB w R.ob 95 (64 * s.n) 5 s.ro
section
variable {w w' : World} {R : RLay} {s : St} (h : RefAt w R s)
include h
theorem RefAt.c0 : w.cell? ⟨R.rb, 0, none⟩ = some (.slice (some ⟨R.wb, 0, none⟩) (64 * s.n) R.cw) := by simp [World.cell?, h.head]
theorem RefAt.c1 : w.cell? ⟨R.rb, 1, none⟩ = some (.pointer (some ⟨R.tb, 0, none⟩)) := by simp [World.cell?, h.head]
theorem RefAt.c2 : w.cell? ⟨R.rb, 2, none⟩ = some (.slice (some ⟨R.ob, 0, none⟩) (64 * s.n) R.co) := by simp [World.cell?, h.head]
theorem RefAt.c3 : w.cell? ⟨R.rb, 3, none⟩ = some (.int .i64 s.ser) := by simp [World.cell?, h.head]
theorem RefAt.t0 : w.cell? ⟨R.tb, 0, none⟩ = some (.slice (some ⟨R.pb, 0, none⟩) s.n R.cp) := by simp [World.cell?, h.thead]
theorem RefAt.f (j : Nat) : w.frozen? ⟨R.rb, j, none⟩ = false := by simp [World.frozen?, h.head]
theorem RefAt.word {i : Nat} (hi : i < 64 * s.n) : w.cell? ⟨R.wb, i, none⟩ = some (.int .i64 (s.W i)) := by
  have := h.words.cell hi (d := 0) (by omega)
  rwa [Nat.mul_one, Nat.add_zero] at this
theorem RefAt.kept {lo hi : Nat} (ho : Only lo hi w w') (hd : R.hi ≤ lo ∨ hi ≤ R.lo) : RefAt w' R s := by
  have o := h.ok
  have r1 := o.rb1
  have t1 := o.tb1
  have w1 := o.wb1
  have p1 := o.pb1
  have o1 := o.ob1
  have tp := h.top
  exact ⟨o, Nat.le_trans tp ho.size, h.n1, h.n2, (ho.block _ (by omega) (by omega)).trans h.head, (ho.block _ (by omega) (by omega)).trans h.thead, h.words.kept ho (by omega), h.pages.kept ho (by omega), h.objs.kept ho (by omega)⟩
theorem RefAt.still (ho : Still w w') : RefAt w' R s := h.kept ho (.inl h.top)
theorem RefAt.drewN (k : Nat) : RefAt (w.drewN k) R s := h.still ((Only.refl _ _ w).drewN k)
theorem RefAt.alloc (o : Obj) : RefAt (w.alloc o) R s := h.still ((Only.refl _ _ w).alloc o)
theorem RefAt.lts : R.rb < w.heap.size ∧ R.tb < w.heap.size ∧ R.wb < w.heap.size ∧ R.pb < w.heap.size ∧ R.ob < w.heap.size := by
  have o := h.ok
  have r1 := o.rb1
  have t1 := o.tb1
  have w1 := o.wb1
  have p1 := o.pb1
  have o1 := o.ob1
  have tp := h.top
  omega
end
/-- The free blocks of a class are those of its pages' blocks that are not taken. -/
def St.FreeOk (s : St) : Prop := ∀ c, c < 8 → ∀ a, s.B (c + 1) a = true ↔ (s.Blk c a ∧ s.B 0 a = false)
theorem St.InvX.freeOk {s : St} (h : s.Inv) : s.FreeOk := fun c hc a => by rw [h.free c hc a]; simp
theorem St.Blk.between {s : St} {c x p i : Nat} (hc : c < 8) (h : s.Blk c x) (h1 : 64 * p + i * Sp.cw c < x) (h2 : x < 64 * p + (i + 1) * Sp.cw c) (hi : i < Sp.bk c) : False := by
  obtain ⟨q, j, hq, hj, rfl, _⟩ := h
  have a1 := Sp.cw_in c hc j hj
  have a2 := Sp.cw_in c hc i hi
  rw [Nat.add_mul, Nat.one_mul] at h2
  have hqp : q = p := by omega
  subst hqp
  by_cases hij : j ≤ i
  · have := Nat.mul_le_mul_right (Sp.cw c) hij
    omega
  · have := Nat.mul_le_mul_right (Sp.cw c) (show i + 1 ≤ j by omega)
    rw [Nat.add_mul, Nat.one_mul] at this
    omega
theorem St.Blk.behind {s : St} {c x p : Nat} (hc : c < 8) (h : s.Blk c x) (h1 : 64 * p + Sp.bk c * Sp.cw c ≤ x) (h2 : x < 64 * p + 64) : False := by
  obtain ⟨q, j, hq, hj, rfl, _⟩ := h
  have a1 := Sp.cw_in c hc j hj
  have hcw := (Sp.cw_le c hc).1
  have hqp : q = p := by omega
  subst hqp
  have := Nat.mul_le_mul_right (Sp.cw c) (show j + 1 ≤ Sp.bk c by omega)
  rw [Nat.add_mul, Nat.one_mul] at this
  omega
theorem St.Blk.page {s : St} {c x p : Nat} (hc : c < 8) (h : s.Blk c x) (h1 : 64 * p ≤ x) (h2 : x < 64 * p + 64) : s.P p = ⟨1, c, 0⟩ := by
  obtain ⟨q, j, hq, hj, rfl, e⟩ := h
  have a1 := Sp.cw_in c hc j hj
  have hcw := (Sp.cw_le c hc).1
  have hqp : q = p := by omega
  subst hqp
  exact e
end Go.Proofs.YtfbcdmhmpfijjaaGreatDoor
