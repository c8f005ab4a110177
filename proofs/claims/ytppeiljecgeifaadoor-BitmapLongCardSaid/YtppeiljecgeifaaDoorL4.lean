/-
  The walk of hearthlaw3.BitmapLong.
-/
import Derived.Test.YtppeiljecgeifaaDoorL3
namespace Go.Proofs.YtppeiljecgeifaaDoor
open Go Go.RowKit

theorem long_next (S : Nat → Bool) : Bm.next (rangeS S 262143 (262143 + 1) true) 262144 262143 = 262143 := by
  have := @Bm.next_eq (rangeS S 262143 (262143 + 1) true) 262144 262143 262143 (by decide) (by decide) (rangeS_in (by decide) (by decide)) (fun j h1 h2 => by omega)
  simpa using this
theorem long_next' (S : Nat → Bool) : Bm.next S 262144 262144 = -1 := Bm.next_none (fun j h1 h2 => by omega)
theorem long_gap : Bm.gap (fun _ => false) 262144 0 262144 = 0 := by
  have := @Bm.gap_eq (fun _ => false) 262144 262144 0 0 (by decide) (by decide) ((Bm.fits_iff _ _ _ _).2 ⟨by decide, fun _ _ _ => rfl⟩) (fun j h1 h2 => by omega)
  simpa using this

set_option maxHeartbeats 1600000 in
theorem long_walk (a : Option Addr) (len cap : Nat) (zs : List Int) (w : World) (hr : IsRow .i64 w a len cap zs) (hT : Tab w) (h0 : 0 < w.heap.size) :
    Calls Tryd.prog 7 #[.slice a len cap] w fun e w' => e = .returned (.bool true) ∧ Below w.heap.size w w' := by
  have HR := Lib.hid hr; clear hr
  have HT := Lib.hid hT; clear hT
  go_enter Tryd.func7, Tryd.ntmps7
  go_wp2_with fail
  refine (filled_any 262144 a len cap zs _ (by decide) (by decide) HR.out).mono ?_
  rintro e w1 ⟨p, rfl, hm⟩
  generalize fillS zs ((262144 : Nat) : Int) (min len 2000) = S at *
  obtain ⟨hi, hm, hs⟩ := hm
  have HM := Lib.hid hm; clear hm
  have HS := Lib.hid hs; clear hs
  go_wp2_with fail
  refine (new_no _ _ (by omega)).mono ?_
  rintro e w2 ⟨rfl, rfl⟩
  go_wp2_with fail
  refine (set_no _ hi 262144 p S _ _ HM.out (by omega) (by omega)).mono ?_
  rintro e w2 ⟨rfl, rfl⟩
  go_wp2_with fail
  refine (set_yes _ hi 262144 p S 262143 _ HM.out (by omega) (by omega)).mono ?_
  rintro e w2 ⟨rfl, hm2, ho2⟩
  have hs2 : Still w w2 := HS.out.trans' ho2 (.inl (Nat.le_refl _)) (.inr (Nat.le_refl _))
  have hg : rangeS S 262143 (262143 + 1) true (Int.toNat 262143) = true := rangeS_in (by decide) (by decide)
  have hnx := long_next S
  generalize rangeS S 262143 (262143 + 1) true = S1 at *
  have HG := Lib.hid hg; clear hg
  have HNX := Lib.hid hnx; clear hnx
  have HM2 := Lib.hid hm2; clear hm2
  have HS2 := Lib.hid hs2; clear hs2 ho2 HS HM
  go_wp2_with fail
  refine (get_any _ hi 262144 p S1 262143 _ HM2.out true (by rw [HG.out]; rfl)).mono ?_
  rintro e w3 ⟨rfl, rfl⟩
  go_wp2_with fail
  refine (next_any _ hi 262144 p S1 262143 _ HM2.out (HT.out.only HS2.out h0) (by omega)).mono ?_
  rintro e w3 ⟨rfl, m3, hw3⟩
  rw [HNX.out]
  have HM3 := Lib.hid (by rw [hw3]; exact HM2.out.drewN m3 : IsMap w3 w.heap.size hi p 262144 S1)
  have HS3 := Lib.hid (by rw [hw3]; exact HS2.out.drewN m3 : Still w w3)
  clear hw3 HM2 HS2
  go_wp2_with fail
  refine (next_any _ hi 262144 p S1 262144 _ HM3.out (HT.out.only HS3.out h0) (by omega)).mono ?_
  rintro e w4 ⟨rfl, m4, hw4⟩
  rw [long_next']
  have HM4 := Lib.hid (by rw [hw4]; exact HM3.out.drewN m4 : IsMap w4 w.heap.size hi p 262144 S1)
  have HS4 := Lib.hid (by rw [hw4]; exact HS3.out.drewN m4 : Still w w4)
  clear hw4 HM3 HS3
  go_wp2_with fail
  refine (copy_any _ hi 262144 p S1 _ HM4.out).mono ?_
  rintro e w5 ⟨p2, rfl, hc5, hs5⟩
  have hhi : hi ≤ w4.heap.size := by obtain ⟨pb, v, rows, _, hm, _⟩ := HM4.out; exact hm.top
  have HM5 := Lib.hid (HM4.out.still hs5)
  have HS5 := Lib.hid (HS4.out.trans' hs5 (.inr HS4.out.size) (.inr HS4.out.size) : Still w w5)
  have HC5 := Lib.hid hc5
  clear hc5 hs5 HM4 HS4
  go_wp2_with fail
  refine (count_any _ _ 262144 p2 S1 _ HC5.out).mono ?_
  rintro e w6 ⟨rfl, m6, hw6⟩
  have HM6 := Lib.hid (by rw [hw6]; exact HM5.out.drewN m6 : IsMap w6 w.heap.size hi p 262144 S1)
  have HC6 := Lib.hid (by rw [hw6]; exact HC5.out.drewN m6 : IsMap w6 w4.heap.size w5.heap.size p2 262144 S1)
  have HS6 := Lib.hid (by rw [hw6]; exact HS5.out.drewN m6 : Still w w6)
  clear hw6 HM5 HC5 HS5
  go_wp2_with fail
  refine (count_any _ _ 262144 p S1 _ HM6.out).mono ?_
  rintro e w7 ⟨rfl, m7, hw7⟩
  have HM7 := Lib.hid (by rw [hw7]; exact HM6.out.drewN m7 : IsMap w7 w.heap.size hi p 262144 S1)
  have HC7 := Lib.hid (by rw [hw7]; exact HC6.out.drewN m7 : IsMap w7 w4.heap.size w5.heap.size p2 262144 S1)
  have HS7 := Lib.hid (by rw [hw7]; exact HS6.out.drewN m7 : Still w w7)
  clear hw7 HM6 HC6 HS6
  go_wp2_with fail
  refine (reset_any _ hi 262144 p S1 _ HM7.out).mono ?_
  rintro e w8 ⟨rfl, hm8, ho8⟩
  have HM8 := Lib.hid hm8
  have HC8 := Lib.hid (HC7.out.kept ho8 (.inr hhi) : IsMap w8 w4.heap.size w5.heap.size p2 262144 S1)
  have HS8 := Lib.hid (HS7.out.trans' ho8 (.inl (Nat.le_refl _)) (.inr (Nat.le_refl _)) : Still w w8)
  clear hm8 ho8 HM7 HC7 HS7
  go_wp2_with fail
  refine (count_any _ _ 262144 p _ _ HM8.out).mono ?_
  rintro e w9 ⟨rfl, m9, hw9⟩
  rw [Bm.cnt_zero (fun _ _ _ => rfl)]
  have HM9 := Lib.hid (by rw [hw9]; exact HM8.out.drewN m9 : IsMap w9 w.heap.size hi p 262144 (fun _ => false))
  have HC9 := Lib.hid (by rw [hw9]; exact HC8.out.drewN m9 : IsMap w9 w4.heap.size w5.heap.size p2 262144 S1)
  have HS9 := Lib.hid (by rw [hw9]; exact HS8.out.drewN m9 : Still w w9)
  clear hw9 HM8 HC8 HS8
  go_wp2_with fail
  refine (gap_any _ _ 262144 p _ 0 262144 _ HM9.out (HT.out.only HS9.out h0) (by omega)).mono ?_
  rintro e w10 ⟨rfl, m10, hw10⟩
  rw [long_gap]
  have HC10 := Lib.hid (by rw [hw10]; exact HC9.out.drewN m10 : IsMap w10 w4.heap.size w5.heap.size p2 262144 S1)
  have HS10 := Lib.hid (by rw [hw10]; exact HS9.out.drewN m10 : Still w w10)
  clear hw10 HM9 HC9 HS9
  go_wp2_with fail
  refine (get_any _ _ 262144 p2 S1 262143 _ HC10.out true (by rw [HG.out]; rfl)).mono ?_
  rintro e w11 ⟨rfl, rfl⟩
  go_wp2_with fail
  refine (len_any _ _ 262144 p2 S1 _ HC10.out).mono ?_
  rintro e w11 ⟨rfl, rfl⟩
  go_wp2_with fail
  refine (alive_any _ (HT.out.only HS10.out h0) (by have := HS10.out.size; omega)).mono ?_
  rintro e w12 ⟨rfl, hs12⟩
  have HS12 := Lib.hid (HS10.out.trans' hs12 (.inr HS10.out.size) (.inr HS10.out.size) : Still w w12)
  clear hs12
  go_wp2
  go_ret
  exact ⟨rfl, Still.below HS12.out⟩
end Go.Proofs.YtppeiljecgeifaaDoor
