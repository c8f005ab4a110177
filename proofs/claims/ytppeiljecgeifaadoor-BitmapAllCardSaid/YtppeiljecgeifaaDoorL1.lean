/-
  The walks of hearthlaw3.alive, within, filled.
-/
import Derived.Test.YtppeiljecgeifaaDoorW5
namespace Go.Proofs.YtppeiljecgeifaaDoor
open Go Go.RowKit

theorem alive_next : Bm.next (rangeS (fun _ => false) 64 (64 + 1) true) 100 0 = 64 := by decide +kernel
theorem alive_count : Bm.cnt (rangeS (fun _ => false) 64 (64 + 1) true) 0 100 = 1 := by decide +kernel

set_option maxHeartbeats 800000 in
theorem alive_any (w : World) (hT : Tab w) (h0 : 0 < w.heap.size) :
    Calls Tryd.prog 13 #[] w fun e w' => e = .returned (.bool true) ∧ Still w w' := by
  have HT := Lib.hid hT; clear hT
  go_enter Tryd.func13, Tryd.ntmps13
  go_wp2_with fail
  refine (new_yes 100 _ (by decide)).mono ?_
  rintro e w1 ⟨p, rfl, hm, hs⟩
  have HM := Lib.hid hm; clear hm
  have HS := Lib.hid hs; clear hs
  go_wp2_with fail
  refine (set_yes _ _ 100 p _ 64 _ HM.out (by omega) (by omega)).mono ?_
  rintro e w2 ⟨rfl, hm2, ho2⟩
  have HM2 := Lib.hid hm2; clear hm2
  have hs2 : Still w w2 := HS.out.trans' ho2 (.inl (Nat.le_refl _)) (.inr (Nat.le_refl _))
  have HS2 := Lib.hid hs2; clear hs2 ho2
  go_wp2_with fail
  refine (get_any _ _ 100 p _ 64 _ HM2.out true (by decide)).mono ?_
  rintro e w3 ⟨rfl, rfl⟩
  go_wp2_with fail
  refine (next_any _ _ 100 p _ 0 _ HM2.out (HT.out.only HS2.out h0) (by omega)).mono ?_
  rintro e w3 ⟨rfl, m3, hw3⟩
  have HW3 := Lib.hid hw3; clear hw3
  rw [alive_next]
  go_wp2_with fail
  refine (count_any _ _ 100 p _ _ (by rw [HW3.out]; exact HM2.out.drewN m3)).mono ?_
  rintro e w4 ⟨rfl, m4, hw4⟩
  have HW4 := Lib.hid hw4; clear hw4
  rw [alive_count]
  go_wp2_with fail
  refine (len_any _ _ 100 p _ _ (by rw [HW4.out, HW3.out]; exact (HM2.out.drewN m3).drewN m4)).mono ?_
  rintro e w5 ⟨rfl, rfl⟩
  go_wp2
  go_ret
  exact ⟨rfl, by rw [HW4.out, HW3.out]; exact (HS2.out.drewN m3).drewN m4⟩
end Go.Proofs.YtppeiljecgeifaaDoor
