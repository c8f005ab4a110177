/-
  The walk of the document's layout: Fits, of every kind.
-/
import Derived.Laws.Rows
import Derived.Test.YtfbcdmhmpfijjaaGreatDoorQ36
set_option linter.unusedVariables false
set_option linter.unusedSimpArgs false
set_option linter.unusedSectionVars false
namespace Go.Proofs.YtfbcdmhmpfijjaaGreatDoor
open Go Go.RowKit
theorem fits_out (k z:Int) (h:k < 1 ∨ 13 < k):Sp.fits k z=false:=by
 have:Sp.base k=0:=by unfold Sp.base;repeat' split <;> try omega
 unfold Sp.fits
 rw [this]
 rfl
theorem fits_12 (z:Int):Sp.fits 12 z=Sp.heads (z - 1):=by
 have e:Sp.fits 12 z=(decide (1 ≤ z) && (decide (z - 1 ≤ 512) && Sp.heads (z - 1))):=by
  unfold Sp.fits Sp.base Sp.most
  simp
 rw [e,heads_list]
 by_cases h:Hd (z - 1)
 ·rw [decide_eq_true h]
  unfold Hd at h
  rw [decide_eq_true (by omega),decide_eq_true (by omega)]
  rfl
 ·rw [decide_eq_false h,Bool.and_false,Bool.and_false]
set_option maxHeartbeats 1600000 in
theorem rfits_any (k z:Int) (hz:(Lit.int .i64 z).wf=true) (w:World):Calls Tryz.prog 129 #[.int .i64 k,.int .i64 z] w fun e w' => e=.returned (.bool (Sp.fits k z)) ∧ Still w w':=by
 obtain ⟨z1,z2⟩:=wf_i64 hz
 by_cases hk:k < 1 ∨ 13 < k
 ·rw [fits_out k z hk]
  clear hz z1 z2
  rcases hk with hk | hk
  ·go_enter Tryz.func129,Tryz.ntmps129
   go_wp2_with fail
   go_ret
   exact ⟨rfl,Only.refl _ _ _⟩
  ·have hk1:¬(k < 1):=by omega
   go_enter Tryz.func129,Tryz.ntmps129
   go_wp2_with fail
   go_ret
   exact ⟨rfl,Only.refl _ _ _⟩
 ·have hkk:k=1 ∨ k=2 ∨ k=3 ∨ k=4 ∨ k=5 ∨ k=6 ∨ k=7 ∨ k=8 ∨ k=9 ∨ k=10 ∨ k=11 ∨ k=12 ∨ k=13:=by omega
  rcases hkk with rfl | rfl | rfl | rfl | rfl | rfl | rfl | rfl | rfl | rfl | rfl | rfl | rfl
  ·exact rfits_1 z w
  ·exact rfits_2 z w
  ·exact rfits_3 z w
  ·exact rfits_4 z w
  ·exact rfits_5 z w
  ·exact rfits_6 z w
  ·exact rfits_7 z w
  ·exact rfits_8 z w
  ·exact rfits_9 z w
  ·exact rfits_10 z w
  ·exact rfits_11 z w
  ·rw [fits_12]
   cases h3:Sp.heads (z - 1) with
   | true =>
    have h4:=h3
    rw [heads_list,decide_eq_true_eq] at h4
    unfold Hd at h4
    exact rfits_12 z (by omega) (by omega) h3 w
   | false =>
    by_cases hm:z=-9223372036854775808
    ·have hw:wrap64 (z - 1)=9223372036854775807:=by unfold wrap64;omega
     have hw2:IntKind.i64.wrap (z - 1)=9223372036854775807:=by rw [IntKind.wrap_i64];omega
     obtain ⟨q,hq⟩:∃ q:Int,9223372036854775807=q:=⟨_,rfl⟩
     have HH:=Lib.hid (fun W => rheads_any q (by omega) (by omega) W)
     rw [show Sp.heads q=false by rw [heads_list,← hq];decide] at HH
     rw [hq] at hw hw2
     clear hq hm h3 z1 z2 hz
     go_enter Tryz.func129,Tryz.ntmps129
     go_wp2_with fail
     refine (HH.out _).mono ?_
     rintro e w0 ⟨rfl,rfl⟩
     go_wp2_with fail
     go_ret
     exact ⟨rfl,Only.refl _ _ _⟩
    ·have HH:=Lib.hid (fun W => rheads_any (z - 1) (by omega) (by omega) W)
     rw [h3] at HH
     have hz1:-9223372036854775807 ≤ z:=by omega
     clear hz hm z1
     go_enter Tryz.func129,Tryz.ntmps129
     go_wp2_with fail
     refine (HH.out _).mono ?_
     rintro e w0 ⟨rfl,rfl⟩
     go_wp2_with fail
     go_ret
     exact ⟨rfl,Only.refl _ _ _⟩
  ·exact rfits_13 z w
end Go.Proofs.YtfbcdmhmpfijjaaGreatDoor
