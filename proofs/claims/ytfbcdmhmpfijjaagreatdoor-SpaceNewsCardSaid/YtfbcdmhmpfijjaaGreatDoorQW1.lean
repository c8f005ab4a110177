/-
  The walks of bitmap.part, math/bits.OnesCount64, math/bits.TrailingZeros64.
-/
import Derived.Test.YtfbcdmhmpfijjaaGreatDoorRows
import Derived.Test.YtfbcdmhmpfijjaaGreatDoorQA
import Derived.WalkKit
import Derived.Outline
import Derived.WalkSpells
import Derived.WalkLawsBesides
import Derived.Lib.Hide
import Derived.Shelf.Spec.TrailingZeros
namespace Go.Proofs.YtfbcdmhmpfijjaaGreatDoor
open Go Go.RowKit

theorem ret_u64 {a b : Int} (h : a = b) : Ending.returned (.int .u64 a) = .returned (.int .u64 b) := by rw [h]
theorem ret_i64 {a b : Int} (h : a = b) : Ending.returned (.int .i64 a) = .returned (.int .i64 b) := by rw [h]

theorem part_form1 (k f t : Int) (hk : 0 ≤ k) (h1 : f < k * 64 + 64) (h2 : k * 64 < t) (h3 : k * 64 < f) (h4 : t < k * 64 + 64) :
    bits BinOp.and IntKind.u64 (IntKind.u64.wrap (18446744073709551615 * 2 ^ (f - k * 64).toNat)) (IntKind.u64.wrap (IntKind.u64.wrap (2 ^ (t - k * 64).toNat) - 1)) = ((Bm.partN k.toNat f.toNat t.toNat : Nat) : Int) := by
  rw [Bm.shl_all _ (by omega), Bm.shl_one _ (by omega), bits_and_u64_nat _ _ (Bm.mask_lt _ (Nat.le_refl _)) (Bm.mask_lt _ (by omega)), Bm.mask_and]
  unfold Bm.partN
  rw [show (f - k * 64).toNat = f.toNat - k.toNat * 64 by omega, show (t - k * 64).toNat = t.toNat - k.toNat * 64 by omega]

theorem part_form2 (k f t : Int) (hk : 0 ≤ k) (h1 : f < k * 64 + 64) (h3 : k * 64 < f) (h4 : k * 64 + 64 ≤ t) :
    IntKind.u64.wrap (18446744073709551615 * 2 ^ (f - k * 64).toNat) = ((Bm.partN k.toNat f.toNat t.toNat : Nat) : Int) := by
  rw [Bm.shl_all _ (by omega)]
  unfold Bm.partN
  rw [show (f - k * 64).toNat = f.toNat - k.toNat * 64 by omega, show min (t.toNat - k.toNat * 64) 64 = 64 by omega]

theorem part_form3 (k f t : Int) (hk : 0 ≤ k) (h2 : k * 64 < t) (h3 : f ≤ k * 64) (h4 : t < k * 64 + 64) :
    bits BinOp.and IntKind.u64 18446744073709551615 (IntKind.u64.wrap (IntKind.u64.wrap (2 ^ (t - k * 64).toNat) - 1)) = ((Bm.partN k.toNat f.toNat t.toNat : Nat) : Int) := by
  have e : (18446744073709551615 : Int) = ((Bm.mask 0 64 : Nat) : Int) := by decide
  rw [e, Bm.shl_one _ (by omega), bits_and_u64_nat _ _ (Bm.mask_lt _ (Nat.le_refl _)) (Bm.mask_lt _ (by omega)), Bm.mask_and]
  unfold Bm.partN
  rw [show (t - k * 64).toNat = t.toNat - k.toNat * 64 by omega, show f.toNat - k.toNat * 64 = 0 by omega]

theorem part_form4 (k f t : Int) (hk : 0 ≤ k) (h3 : f ≤ k * 64) (h4 : k * 64 + 64 ≤ t) :
    (18446744073709551615 : Int) = ((Bm.partN k.toNat f.toNat t.toNat : Nat) : Int) := by
  have e : (18446744073709551615 : Int) = ((Bm.mask 0 64 : Nat) : Int) := by decide
  rw [e]
  unfold Bm.partN
  rw [show f.toNat - k.toNat * 64 = 0 by omega, show min (t.toNat - k.toNat * 64) 64 = 64 by omega]

set_option maxHeartbeats 400000 in
theorem part_any (k f t : Int) (w : World) (hk : 0 ≤ k) (hk2 : k ≤ 4096) (_hf : 0 ≤ f) (_hf2 : f ≤ 262144) (_ht : 0 ≤ t) (_ht2 : t ≤ 262144) (h1 : f < k * 64 + 64) (h2 : k * 64 < t) :
    Calls Tryz.prog 127 #[.int .i64 k, .int .i64 f, .int .i64 t] w fun e w' => e = .returned (.int .u64 (Bm.partN k.toNat f.toNat t.toNat : Nat)) ∧ w = w' := by
  go_enter Tryz.func127, Tryz.ntmps127
  go_wp2
  · go_ret
    exact ⟨ret_u64 (part_form1 k f t hk h1 h2 ‹_› ‹_›), rfl⟩
  · go_ret
    exact ⟨ret_u64 (part_form2 k f t hk h1 ‹_› ‹_›), rfl⟩
  · go_ret
    exact ⟨ret_u64 (part_form3 k f t hk h2 ‹_› ‹_›), rfl⟩
  · go_ret
    exact ⟨ret_u64 (part_form4 k f t hk ‹_› ‹_›), rfl⟩

/-- math/bits.deBruijn64tab, as its initialiser lays it, in its variable. -/
def Tab (w : World) : Prop := ∀ j, j < Lib.deBruijn64tab.length → w.cell? ⟨0, j, none⟩ = some (.int .u8 (Lib.deBruijn64tab.getD j 0))

set_option maxHeartbeats 400000 in
theorem tz_core (x k idx : Nat) (w : World) (hx0 : ((x : Int) == 0) = false)
    (key : IntKind.u64.wrap (bits BinOp.and IntKind.u64 (x : Int) (IntKind.u64.wrap (-(x : Int))) * 285870213051353865) / 288230376151711744 = (idx : Int))
    (hi : idx < 64) (hk : k < 64) (hcell : w.cell? ⟨0, idx, none⟩ = some (.int .u8 k)) :
    Calls Tryz.prog 128 #[.int .u64 x] w fun e w' => e = .returned (.int .i64 k) ∧ w = w' := by
  go_enter Tryz.func128, Tryz.ntmps128
  go_wp2_with (simp only [key])
  go_ret
  exact ⟨rfl, rfl⟩
theorem tz_any (x : Nat) (hx : x < 18446744073709551616) (hx0 : x ≠ 0) (w : World) (hT : Tab w) :
    Calls Tryz.prog 128 #[.int .u64 x] w fun e w' => e = .returned (.int .i64 (Lib.ctz 64 x : Nat)) ∧ w = w' := by
  obtain ⟨hlow, hk⟩ := Lib.lowest_bit 64 x hx0 hx
  obtain ⟨hi, htab⟩ := Lib.deBruijn64_at _ hk
  have hcell := hT _ hi
  rw [htab] at hcell
  exact tz_core x _ _ w (by simp; omega) (tz64_key x _ hx hx0 hlow) hi hk hcell
end Go.Proofs.YtfbcdmhmpfijjaaGreatDoor
