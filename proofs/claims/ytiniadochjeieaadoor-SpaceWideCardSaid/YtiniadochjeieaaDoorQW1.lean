/-
  The walks of bitmap.part, math/bits.OnesCount64, math/bits.TrailingZeros64.
-/
import Derived.Test.YtiniadochjeieaaDoorRows
import Derived.Test.YtiniadochjeieaaDoorQA
import Derived.WalkKit
import Derived.Outline
import Derived.WalkSpells
import Derived.WalkLawsBesides
import Derived.Lib.Hide
import Derived.Shelf.Spec.TrailingZeros
namespace Go.Proofs.YtiniadochjeieaaDoor
open Go Go.RowKit

theorem ret_u64 {a b : Int} (h : a = b) : Ending.returned (.int .u64 a) = .returned (.int .u64 b) := by rw [h]
theorem ret_i64 {a b : Int} (h : a = b) : Ending.returned (.int .i64 a) = .returned (.int .i64 b) := by rw [h]

theorem part_form1 (k f t : Int) (hk : 0 ≤ k) (h1 : f < k * 64 + 64) (h2 : k * 64 < t) (h3 : k * 64 < f) (h4 : t < k * 64 + 64) :
    bits BinOp.and IntKind.u64 (IntKind.u64.wrap (18446744073709551615 * 2 ^ (f - k * 64).toNat)) (IntKind.u64.wrap (IntKind.u64.wrap (2 ^ (t - k * 64).toNat) - 1)) = ((Bm.partN k.toNat f.toNat t.toNat : Nat) : Int) := by
  rw [Bm.shl_all _ (by omega), Bm.shl_one _ (by omega), bits_and_u64_nat _ _ (Bm.mask_lt _ (Nat.le_refl _)) (Bm.mask_lt _ (by omega)), Bm.mask_and]
  unfold Bm.partN
  rw [show (f - k * 64).toNat = f.toNat - k.toNat * 64 by omega, show (t - k * 64).toNat = t.toNat - k.toNat * 64 by omega]

theorem part_form2 (k f t : Int) (hk : 0 ≤ k) (h1 : f < k * 64 + 64) (h3 : k * 64 < f) (h4 : k * 64 + 64 ≤ t) :
    IntKind.u64.wrap (18446744073709551615 * 2 ^ (f - k * 64).toNat) = ((Bm.partN k.toNat f.toNat t.toNat : Nat) : Int) := by
  rw [Bm.shl_all _ (by omega)]
  unfold Bm.partN
  rw [show (f - k * 64).toNat = f.toNat - k.toNat * 64 by omega, show min (t.toNat - k.toNat * 64) 64 = 64 by omega]

theorem part_form3 (k f t : Int) (hk : 0 ≤ k) (h2 : k * 64 < t) (h3 : f ≤ k * 64) (h4 : t < k * 64 + 64) :
    bits BinOp.and IntKind.u64 18446744073709551615 (IntKind.u64.wrap (IntKind.u64.wrap (2 ^ (t - k * 64).toNat) - 1)) = ((Bm.partN k.toNat f.toNat t.toNat : Nat) : Int) := by
  have e : (18446744073709551615 : Int) = ((Bm.mask 0 64 : Nat) : Int) := by decide
  rw [e, Bm.shl_one _ (by omega), bits_and_u64_nat _ _ (Bm.mask_lt _ (Nat.le_refl _)) (Bm.mask_lt _ (by omega)), Bm.mask_and]
  unfold Bm.partN
  rw [show (t - k * 64).toNat = t.toNat - k.toNat * 64 by omega, show f.toNat - k.toNat * 64 = 0 by omega]

theorem part_form4 (k f t : Int) (hk : 0 ≤ k) (h3 : f ≤ k * 64) (h4 : k * 64 + 64 ≤ t) :
    (18446744073709551615 : Int) = ((Bm.partN k.toNat f.toNat t.toNat : Nat) : Int) := by
  have e : (18446744073709551615 : Int) = ((Bm.mask 0 64 : Nat) : Int) := by decide
  rw [e]
  unfold Bm.partN
  rw [show f.toNat - k.toNat * 64 = 0 by omega, show min (t.toNat - k.toNat * 64) 64 = 64 by omega]

set_option maxHeartbeats 400000 in
theorem part_any (k f t : Int) (w : World) (hk : 0 ≤ k) (hk2 : k ≤ 4096) (_hf : 0 ≤ f) (_hf2 : f ≤ 262144) (_ht : 0 ≤ t) (_ht2 : t ≤ 262144) (h1 : f < k * 64 + 64) (h2 : k * 64 < t) :
    Calls Tryd.prog 74 #[.int .i64 k, .int .i64 f, .int .i64 t] w fun e w' => e = .returned (.int .u64 (Bm.partN k.toNat f.toNat t.toNat : Nat)) ∧ w = w' := by
  go_enter Tryd.func74, Tryd.ntmps74
  go_wp2
  · go_ret
    exact ⟨ret_u64 (part_form1 k f t hk h1 h2 ‹_› ‹_›), rfl⟩
  · go_ret
    exact ⟨ret_u64 (part_form2 k f t hk h1 ‹_› ‹_›), rfl⟩
  · go_ret
    exact ⟨ret_u64 (part_form3 k f t hk h2 ‹_› ‹_›), rfl⟩
  · go_ret
    exact ⟨ret_u64 (part_form4 k f t hk ‹_› ‹_›), rfl⟩

theorem ones_a (x : Nat) (hx : x < 18446744073709551616) :
    IntKind.u64.wrap (bits BinOp.and IntKind.u64 (↑x / 2) 6148914691236517205 + bits BinOp.and IntKind.u64 (↑x) 6148914691236517205) = ((Bm.s1 8 x : Nat) : Int) := by
  have h := Bm.s1_lt x
  have e1 := bits_and_u64_nat (x / 2) 6148914691236517205 (by omega) (by omega)
  have e2 := bits_and_u64_nat x 6148914691236517205 (by omega) (by omega)
  rw [show ((x / 2 : Nat) : Int) = (x : Int) / 2 by omega] at e1
  unfold Bm.s1 at h ⊢
  rw [Bm.M85] at h ⊢
  rw [show ((6148914691236517205 : Nat) : Int) = 6148914691236517205 by rfl] at e1 e2
  rw [e1, e2, IntKind.wrap_u64]
  generalize x / 2 &&& 6148914691236517205 = p at *
  generalize x &&& 6148914691236517205 = q at *
  omega
theorem ones_b (x : Nat) (hx : x < 18446744073709551616) :
    IntKind.u64.wrap (bits BinOp.and IntKind.u64 (↑x / 4) 3689348814741910323 + bits BinOp.and IntKind.u64 (↑x) 3689348814741910323) = ((Bm.s2 8 x : Nat) : Int) := by
  have h := Bm.s2_lt x
  have e1 := bits_and_u64_nat (x / 4) 3689348814741910323 (by omega) (by omega)
  have e2 := bits_and_u64_nat x 3689348814741910323 (by omega) (by omega)
  rw [show ((x / 4 : Nat) : Int) = (x : Int) / 4 by omega] at e1
  unfold Bm.s2 at h ⊢
  rw [Bm.M51] at h ⊢
  rw [show ((3689348814741910323 : Nat) : Int) = 3689348814741910323 by rfl] at e1 e2
  rw [e1, e2, IntKind.wrap_u64]
  generalize x / 4 &&& 3689348814741910323 = p at *
  generalize x &&& 3689348814741910323 = q at *
  omega
theorem ones_c (x : Nat) (hx : x ≤ 7378697629483820646) :
    bits BinOp.and IntKind.u64 (IntKind.u64.wrap (↑x / 16 + ↑x)) 1085102592571150095 = ((Bm.s3 8 x : Nat) : Int) := by
  have e0 : IntKind.u64.wrap (↑x / 16 + ↑x) = ((x / 16 + x : Nat) : Int) := by rw [IntKind.wrap_u64]; omega
  rw [e0]
  unfold Bm.s3
  rw [Bm.M15]
  exact bits_and_u64_nat (x / 16 + x) 1085102592571150095 (by omega) (by omega)
theorem ones_d (k y : Nat) (_hk : 0 < k) (hy : y < 4000000000000000000) : IntKind.u64.wrap (↑y + ↑y / (k : Int)) = ((y + y / k : Nat) : Int) := by
  rw [IntKind.wrap_u64]
  have e : ((y / k : Nat) : Int) = (y : Int) / (k : Int) := Int.natCast_ediv y k
  have h : y / k ≤ y := Nat.div_le_self y k
  rw [← e]
  generalize y / k = z at *
  omega
theorem ones_e (z : Nat) (hz : z < 9223372036854775808) : bits BinOp.and IntKind.i64 (z : Int) 127 = ((z % 128 : Nat) : Int) := by
  unfold bits
  have h : (BitVec.ofInt 64 (z : Int) &&& BitVec.ofInt 64 (127 : Int)).toNat = z % 128 := by
    rw [BitVec.toNat_and]
    have a : (BitVec.ofInt 64 (z : Int)).toNat = z := by simp; omega
    have b : (BitVec.ofInt 64 (127 : Int)).toNat = 2 ^ 7 - 1 := by decide
    rw [a, b, Nat.and_two_pow_sub_one_eq_mod]
  show IntKind.i64.wrap ((BitVec.ofInt 64 (z : Int) &&& BitVec.ofInt 64 (127 : Int)).toNat : Int) = _
  rw [h, IntKind.wrap_i64]
  omega

set_option maxHeartbeats 400000 in
theorem ones_core (x a b c d e g r : Nat) (w : World)
    (hA : IntKind.u64.wrap (bits BinOp.and IntKind.u64 (↑x / 2) 6148914691236517205 + bits BinOp.and IntKind.u64 (↑x) 6148914691236517205) = (a : Int))
    (hB : IntKind.u64.wrap (bits BinOp.and IntKind.u64 (↑a / 4) 3689348814741910323 + bits BinOp.and IntKind.u64 (↑a) 3689348814741910323) = (b : Int))
    (hC : bits BinOp.and IntKind.u64 (IntKind.u64.wrap (↑b / 16 + ↑b)) 1085102592571150095 = (c : Int))
    (hD : IntKind.u64.wrap (↑c + ↑c / 256) = (d : Int)) (hE : IntKind.u64.wrap (↑d + ↑d / 65536) = (e : Int)) (hF : IntKind.u64.wrap (↑e + ↑e / 4294967296) = (g : Int))
    (hg : (g : Int) < 9223372036854775807) (hG : bits BinOp.and IntKind.i64 (g : Int) 127 = (r : Int)) :
    Calls Tryd.prog 94 #[.int .u64 x] w fun e w' => e = .returned (.int .i64 (r : Nat)) ∧ w = w' := by
  have hg0 : (0 : Int) ≤ (g : Int) := by omega
  go_enter Tryd.func94, Tryd.ntmps94
  go_wp2
  go_ret
  exact ⟨rfl, rfl⟩
theorem ones_any (x : Nat) (w : World) (hx : x < 18446744073709551616) :
    Calls Tryd.prog 94 #[.int .u64 x] w fun e w' => e = .returned (.int .i64 (Bm.pc x : Nat)) ∧ w = w' := by
  have hc := Bm.comp_eq x hx
  have hr : Bm.fin (Bm.comp 8 x) = Bm.pc x := hc.1
  have hlt : Bm.comp 8 x < 1000000000000000000 := hc.2
  unfold Bm.comp at hr hlt
  simp only [Bm.fin] at hr
  have k1 : Bm.s3 8 (Bm.s2 8 (Bm.s1 8 x)) / 256 ≤ Bm.s3 8 (Bm.s2 8 (Bm.s1 8 x)) := Nat.div_le_self _ _
  generalize hcc : Bm.s3 8 (Bm.s2 8 (Bm.s1 8 x)) = c at *
  have k2 : (c + c / 256) / 65536 ≤ c := by omega
  generalize hd : c + c / 256 = d at *
  generalize he : d + d / 65536 = e at *
  have k3 : e / 4294967296 ≤ c := by omega
  refine ones_core x _ _ c d e (e + e / 4294967296) _ w (ones_a x hx) (ones_b _ (Bm.s1_lt x)) ?_ ?_ ?_ ?_ (by omega) ?_
  · rw [← hcc]; exact ones_c _ (Bm.s2_lt _)
  · rw [← hd]; exact ones_d 256 c (by omega) (by omega)
  · rw [← he]; exact ones_d 65536 d (by omega) (by omega)
  · exact ones_d 4294967296 e (by omega) (by omega)
  · rw [ones_e _ (by omega), hr]

/-- math/bits.deBruijn64tab, as its initialiser lays it, in its variable. -/
def Tab (w : World) : Prop := ∀ j, j < Lib.deBruijn64tab.length → w.cell? ⟨0, j, none⟩ = some (.int .u8 (Lib.deBruijn64tab.getD j 0))

set_option maxHeartbeats 400000 in
theorem tz_core (x k idx : Nat) (w : World) (hx0 : ((x : Int) == 0) = false)
    (key : IntKind.u64.wrap (bits BinOp.and IntKind.u64 (x : Int) (IntKind.u64.wrap (-(x : Int))) * 285870213051353865) / 288230376151711744 = (idx : Int))
    (hi : idx < 64) (hk : k < 64) (hcell : w.cell? ⟨0, idx, none⟩ = some (.int .u8 k)) :
    Calls Tryd.prog 75 #[.int .u64 x] w fun e w' => e = .returned (.int .i64 k) ∧ w = w' := by
  go_enter Tryd.func75, Tryd.ntmps75
  go_wp2_with (simp only [key])
  go_ret
  exact ⟨rfl, rfl⟩
theorem tz_any (x : Nat) (hx : x < 18446744073709551616) (hx0 : x ≠ 0) (w : World) (hT : Tab w) :
    Calls Tryd.prog 75 #[.int .u64 x] w fun e w' => e = .returned (.int .i64 (Lib.ctz 64 x : Nat)) ∧ w = w' := by
  obtain ⟨hlow, hk⟩ := Lib.lowest_bit 64 x hx0 hx
  obtain ⟨hi, htab⟩ := Lib.deBruijn64_at _ hk
  have hcell := hT _ hi
  rw [htab] at hcell
  exact tz_core x _ _ w (by simp; omega) (tz64_key x _ hx hx0 hlow) hi hk hcell
end Go.Proofs.YtiniadochjeieaaDoor
