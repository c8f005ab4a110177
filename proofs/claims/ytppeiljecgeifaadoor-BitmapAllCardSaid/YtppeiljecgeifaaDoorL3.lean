/-
  The walk of hearthlaw3.BitmapParts.
-/
import Derived.Test.YtppeiljecgeifaaDoorL2
import Derived.Test.YtppeiljecgeifaaDoorP4
namespace Go.Proofs.YtppeiljecgeifaaDoor
open Go Go.RowKit

theorem NewMap.yields {w w' : World} {p : Addr} {n : Nat} {S : Nat → Bool} (h : NewMap w w' p n S) {w2 : World} (hs : Still w' w2) : NewMap w w2 p n S := by
  obtain ⟨hi, h1, h2⟩ := h
  exact ⟨hi, h1.still hs, h2.trans' hs (.inr h2.size) (.inr h2.size)⟩
theorem NewMap.drewN {w w' : World} {p : Addr} {n : Nat} {S : Nat → Bool} (h : NewMap w w' p n S) (m : Nat) : NewMap w (w'.drewN m) p n S := by
  obtain ⟨hi, h1, h2⟩ := h
  exact ⟨hi, h1.drewN m, h2.drewN m⟩
theorem NewMap.tab {w w' : World} {p : Addr} {n : Nat} {S : Nat → Bool} (h : NewMap w w' p n S) (hT : Tab w) (h0 : 0 < w.heap.size) : Tab w' := by
  obtain ⟨hi, h1, h2⟩ := h
  exact hT.only h2 h0

theorem new_countRange {w0 w : World} {p : Addr} {n : Nat} {S : Nat → Bool} (h : NewMap w0 w p n S) (f t : Int) (hf : f ≤ 9223372036854775807) (ht : -9223372036854775808 ≤ t) :
    Calls Tryd.prog 18 #[.pointer (some p), .int .i64 f, .int .i64 t] w fun e w' => e = .returned (.int .i64 (Bm.count S n f t : Nat)) ∧ NewMap w0 w' p n S := by
  have h' := h
  obtain ⟨hi, h1, h2⟩ := h'
  refine (countRange_any _ _ n p S f t w h1 hf ht).mono ?_
  rintro e w' ⟨rfl, m, rfl⟩
  exact ⟨rfl, h.drewN m⟩
theorem new_count {w0 w : World} {p : Addr} {n : Nat} {S : Nat → Bool} (h : NewMap w0 w p n S) :
    Calls Tryd.prog 21 #[.pointer (some p)] w fun e w' => e = .returned (.int .i64 (Bm.cnt S 0 n : Nat)) ∧ NewMap w0 w' p n S := by
  have h' := h
  obtain ⟨hi, h1, h2⟩ := h'
  refine (count_any _ _ n p S w h1).mono ?_
  rintro e w' ⟨rfl, m, rfl⟩
  exact ⟨rfl, h.drewN m⟩
theorem new_next {w0 w : World} {p : Addr} {n : Nat} {S : Nat → Bool} (h : NewMap w0 w p n S) (hT : Tab w0) (h0 : 0 < w0.heap.size) (f : Int) (hf : f ≤ 9223372036854775807) :
    Calls Tryd.prog 22 #[.pointer (some p), .int .i64 f] w fun e w' => e = .returned (.int .i64 (Bm.next S n f)) ∧ NewMap w0 w' p n S := by
  have h' := h
  obtain ⟨hi, h1, h2⟩ := h'
  refine (next_any _ _ n p S f w h1 (h.tab hT h0) hf).mono ?_
  rintro e w' ⟨rfl, m, rfl⟩
  exact ⟨rfl, h.drewN m⟩
theorem new_setRange {w0 w : World} {p : Addr} {n : Nat} {S : Nat → Bool} (h : NewMap w0 w p n S) (f t : Int) (hf : 0 ≤ f) (ht : t ≤ (n : Int)) (hft : f ≤ t) :
    Calls Tryd.prog 19 #[.pointer (some p), .int .i64 f, .int .i64 t] w fun e w' => e = .returned (.int .i64 0) ∧ NewMap w0 w' p n (rangeS S f t true) := by
  obtain ⟨hi, h1, h2⟩ := h
  refine (setRange_any _ _ n p S f t w h1 hf ht hft).mono ?_
  rintro e w' ⟨rfl, h3, h4⟩
  exact ⟨rfl, hi, h3, h2.trans' h4 (.inl (Nat.le_refl _)) (.inr (Nat.le_refl _))⟩
theorem new_clearRange {w0 w : World} {p : Addr} {n : Nat} {S : Nat → Bool} (h : NewMap w0 w p n S) (f t : Int) (hf : 0 ≤ f) (ht : t ≤ (n : Int)) (hft : f ≤ t) :
    Calls Tryd.prog 20 #[.pointer (some p), .int .i64 f, .int .i64 t] w fun e w' => e = .returned (.int .i64 0) ∧ NewMap w0 w' p n (rangeS S f t false) := by
  obtain ⟨hi, h1, h2⟩ := h
  refine (clearRange_any _ _ n p S f t w h1 hf ht hft).mono ?_
  rintro e w' ⟨rfl, h3, h4⟩
  exact ⟨rfl, hi, h3, h2.trans' h4 (.inl (Nat.le_refl _)) (.inr (Nat.le_refl _))⟩

set_option maxHeartbeats 1600000 in
theorem parts_walk (long : Int) (a : Option Addr) (len cap : Nat) (zs : List Int) (f t : Int) (w : World) (hl : (Lit.int .i64 long).wf = true) (hr : IsRow .i64 w a len cap zs) (hf : (Lit.int .i64 f).wf = true) (ht : (Lit.int .i64 t).wf = true)
    (hT : Tab w) (h0 : 0 < w.heap.size) :
    Calls Tryd.prog 4 #[.int .i64 long, .slice a len cap, .int .i64 f, .int .i64 t] w fun e w' => e = .returned (.bool true) ∧ Below w.heap.size w w' := by
  obtain ⟨hl1, hl2⟩ := wf_i64 hl
  obtain ⟨hf1, hf2⟩ := wf_i64 hf
  obtain ⟨ht1, ht2⟩ := wf_i64 ht
  clear hl hf ht
  have hn := wi_range long 20000 (by omega)
  obtain ⟨N, hN⟩ : ∃ N : Nat, 1 + wi long 20000 = N := ⟨(1 + wi long 20000).toNat, by omega⟩
  have hN1 : 1 ≤ N := by omega
  have hN2 : N ≤ 20000 := by omega
  have ha := wi_range f ((N : Int) + 1) (by omega)
  have hb := wi_range t ((N : Int) + 1) (by omega)
  obtain ⟨x, hx⟩ : ∃ k : Nat, wi f ((N : Int) + 1) = k := ⟨(wi f ((N : Int) + 1)).toNat, by omega⟩
  obtain ⟨y, hy⟩ : ∃ k : Nat, wi t ((N : Int) + 1) = k := ⟨(wi t ((N : Int) + 1)).toNat, by omega⟩
  have hx2 : x ≤ N := by omega
  have hy2 : y ≤ N := by omega
  clear ha hb
  have HX := Lib.hid hx; clear hx
  have HY := Lib.hid hy; clear hy
  have HR := Lib.hid hr; clear hr
  have HT := Lib.hid hT; clear hT
  go_enter Tryd.func4, Tryd.ntmps4
  go_wp2_with fail
  refine (within_any long 20000 _ hl1 hl2 (by omega) (by omega)).mono ?_
  rintro e w2 ⟨rfl, rfl⟩
  go_wp2_with fail
  clear hN hn
  refine (filled_any N a len cap zs _ hN1 (by omega) HR.out).mono ?_
  rintro e w1 ⟨p, rfl, hm⟩
  generalize fillS zs N (min len 2000) = S at *
  have HM := Lib.hid hm; clear hm
  go_wp2_with fail
  refine (alive_any _ (HM.out.tab HT.out h0) (by obtain ⟨hi, h1, h2⟩ := HM.out; have := h2.size; omega)).mono ?_
  rintro e w2 ⟨rfl, hs2⟩
  have HM2 := Lib.hid (HM.out.yields hs2); clear hs2 HM
  go_wp2_with fail
  refine (within_any f ((N : Int) + 1) _ hf1 hf2 (by omega) (by omega)).mono ?_
  rintro e w3 ⟨rfl, rfl⟩
  rw [HX.out]
  go_wp2_with fail
  refine (within_any t ((N : Int) + 1) _ ht1 ht2 (by omega) (by omega)).mono ?_
  rintro e w3 ⟨rfl, rfl⟩
  rw [HY.out]
  by_cases hxy : y < x
  · have hxy' : (y : Int) < (x : Int) := by omega
    go_wp2_with fail
    refine (new_countRange HM2.out x y (by omega) (by omega)).mono ?_
    rintro e w3 ⟨rfl, hm3⟩
    have HM3 := Lib.hid hm3; clear hm3
    rw [count_empty S N x y (by omega)]
    go_wp2_with fail
    obtain ⟨hi3, h31, h32⟩ := HM3.out
    have H31 := Lib.hid h31; clear h31
    have H32 := Lib.hid h32; clear h32
    refine (setRange_no _ _ N p S x y _ H31.out (by omega)).mono ?_
    rintro e w4 ⟨rfl, rfl⟩
    go_wp2_with fail
    refine (clearRange_no _ _ N p S x y _ H31.out (by omega)).mono ?_
    rintro e w4 ⟨rfl, rfl⟩
    go_wp2
    go_ret
    exact ⟨rfl, H32.out.below⟩
  · have hxy' : (x : Int) ≤ (y : Int) := by omega
    have h12 : x ≤ y := by omega
    obtain ⟨low, hlow⟩ : ∃ k, Bm.count S N 0 x = k := ⟨_, rfl⟩
    obtain ⟨mid, hmid⟩ : ∃ k, Bm.count S N x y = k := ⟨_, rfl⟩
    obtain ⟨high, hhigh⟩ : ∃ k, Bm.count S N y N = k := ⟨_, rfl⟩
    have hl3 : low ≤ 20000 := by have := count_le S N 0 x; omega
    have hm3 : mid ≤ 20000 := by have := count_le S N x y; omega
    have hh3 : high ≤ 20000 := by have := count_le S N y N; omega
    have hsum := parts_sum S N x y h12 hy2
    rw [hlow, hmid, hhigh] at hsum
    have hsumI : ((Bm.cnt S 0 N : Nat) : Int) = (low : Int) + (mid : Int) + (high : Int) := by omega
    have HSUM := Lib.hid hsumI; clear hsumI hsum
    have HLOW := Lib.hid hlow; clear hlow
    have HMID := Lib.hid hmid; clear hmid
    have HHIGH := Lib.hid hhigh; clear hhigh
    go_wp2_with fail
    refine (new_countRange HM2.out 0 x (by omega) (by omega)).mono ?_
    rintro e w3 ⟨rfl, hm3⟩
    have HM3 := Lib.hid hm3; clear hm3
    rw [HLOW.out]
    go_wp2_with fail
    refine (new_countRange HM3.out x y (by omega) (by omega)).mono ?_
    rintro e w4 ⟨rfl, hm4⟩
    have HM4 := Lib.hid hm4; clear hm4
    rw [HMID.out]
    go_wp2_with fail
    refine (new_countRange HM4.out y N (by omega) (by omega)).mono ?_
    rintro e w5 ⟨rfl, hm5⟩
    have HM5 := Lib.hid hm5; clear hm5
    rw [HHIGH.out]
    go_wp2_with fail
    refine (new_count HM5.out).mono ?_
    rintro e w6 ⟨rfl, hm6⟩
    have HM6 := Lib.hid hm6; clear hm6
    rw [HSUM.out]
    go_wp2_with fail
    refine (new_setRange HM6.out x y (by omega) (by omega) (by omega)).mono ?_
    rintro e w7 ⟨rfl, hm7⟩
    have HM7 := Lib.hid hm7; clear hm7
    go_wp2_with fail
    refine (new_countRange HM7.out x y (by omega) (by omega)).mono ?_
    rintro e w8 ⟨rfl, hm8⟩
    have HM8 := Lib.hid hm8; clear hm8
    rw [count_set S N x y h12 hy2, show ((y - x : Nat) : Int) = (y : Int) - (x : Int) by omega]
    go_wp2_with fail
    refine (new_countRange HM8.out 0 x (by omega) (by omega)).mono ?_
    rintro e w9 ⟨rfl, hm9⟩
    have HM9 := Lib.hid hm9; clear hm9
    rw [count_low S N x y true h12 hy2, HLOW.out]
    go_wp2_with fail
    refine (new_countRange HM9.out y N (by omega) (by omega)).mono ?_
    rintro e w10 ⟨rfl, hm10⟩
    have HM10 := Lib.hid hm10; clear hm10
    rw [count_high S N x y true hy2, HHIGH.out]
    go_wp2_with fail
    refine (new_clearRange HM10.out x y (by omega) (by omega) (by omega)).mono ?_
    rintro e w11 ⟨rfl, hm11⟩
    rw [rangeS_twice] at hm11
    have HM11 := Lib.hid hm11; clear hm11
    go_wp2_with fail
    refine (new_countRange HM11.out x y (by omega) (by omega)).mono ?_
    rintro e w12 ⟨rfl, hm12⟩
    have HM12 := Lib.hid hm12; clear hm12
    rw [count_cut S N x y h12 hy2]
    go_wp2_with fail
    refine (new_count HM12.out).mono ?_
    rintro e w13 ⟨rfl, hm13⟩
    have HM13 := Lib.hid hm13; clear hm13
    have hc13 : ((Bm.cnt (rangeS S x y false) 0 N : Nat) : Int) = (low : Int) + (high : Int) := by
      have := parts_sum (rangeS S x y false) N x y h12 hy2
      rw [count_cut S N x y h12 hy2, count_low S N x y false h12 hy2, count_high S N x y false hy2, HLOW.out, HHIGH.out] at this
      omega
    rw [hc13]
    clear hc13
    go_wp2_with fail
    refine (new_next HM13.out HT.out h0 x (by omega)).mono ?_
    rintro e w14 ⟨rfl, hm14⟩
    have HM14 := Lib.hid hm14; clear hm14
    rw [next_cut S N x y h12]
    go_wp2_with fail
    refine (new_next HM14.out HT.out h0 y (by omega)).mono ?_
    rintro e w15 ⟨rfl, hm15⟩
    have HM15 := Lib.hid hm15; clear hm15
    go_wp2
    go_ret
    obtain ⟨hi, _, h2⟩ := HM15.out
    exact ⟨rfl, h2.below⟩
end Go.Proofs.YtppeiljecgeifaaDoor
