/-
  The walk of hearthlaw3.BitmapGaps.
-/
import Derived.Test.YtppeiljecgeifaaDoorL3
namespace Go.Proofs.YtppeiljecgeifaaDoor
open Go Go.RowKit

theorem new_gap {w0 w : World} {p : Addr} {n : Nat} {S : Nat → Bool} (h : NewMap w0 w p n S) (hT : Tab w0) (h0 : 0 < w0.heap.size) (f k : Int) (hf : f ≤ 9223372036854775807) :
    Calls Tryd.prog 26 #[.pointer (some p), .int .i64 f, .int .i64 k] w fun e w' => e = .returned (.int .i64 (Bm.gap S n f k)) ∧ NewMap w0 w' p n S := by
  have h' := h
  obtain ⟨hi, h1, h2⟩ := h'
  refine (gap_any _ _ n p S f k w h1 (h.tab hT h0) hf).mono ?_
  rintro e w' ⟨rfl, m, rfl⟩
  exact ⟨rfl, h.drewN m⟩

theorem gap_spec (S : Nat → Bool) (n K a : Nat) (hK : 1 ≤ K) : (Bm.gap S n a K = -1 ∧ ∀ j : Nat, a ≤ j → Bm.fits S n K j = false) ∨
    ∃ i : Nat, Bm.gap S n a K = (i : Int) ∧ a ≤ i ∧ Bm.fits S n K i = true ∧ ∀ j : Nat, a ≤ j → j < i → Bm.fits S n K j = false := by
  unfold Bm.gap
  rw [if_neg (by omega)]
  rcases Bm.first_spec (fun i => decide ((a : Int) ≤ (i : Int)) && Bm.fits S n K i) 0 n with ⟨h1, h2⟩ | ⟨i, h1, _, h3, h4, h5⟩
  · refine .inl ⟨h1, fun j hj => ?_⟩
    by_cases hjn : j < n
    · have := h2 j (Nat.zero_le _) (by omega)
      rw [decide_eq_true (by omega : (a : Int) ≤ (j : Int))] at this
      simpa using this
    · cases hf : Bm.fits S n K j with
      | false => rfl
      | true => have := ((Bm.fits_iff S n K j).1 hf).1; omega
  · simp only [Bool.and_eq_true, decide_eq_true_eq] at h4
    refine .inr ⟨i, h1, by omega, h4.2, fun j hj hj2 => ?_⟩
    have := h5 j (Nat.zero_le _) hj2
    rw [decide_eq_true (by omega : (a : Int) ≤ (j : Int))] at this
    simpa using this
theorem count_fits (S : Nat → Bool) (n K i : Nat) (h : i + K ≤ n) (hf : Bm.fits S n K i = true) : Bm.count S n i ((i : Int) + (K : Int)) = 0 := by
  have e := count_range S n i (i + K) (by omega) h
  rw [show ((i + K : Nat) : Int) = (i : Int) + (K : Int) by omega] at e
  rw [e, show i + K - i = K by omega]
  exact Bm.cnt_zero ((Bm.fits_iff S n K i).1 hf).2
theorem count_unfit (S : Nat → Bool) (n K i : Nat) (h : i + K ≤ n) (hf : Bm.fits S n K i = false) : ((Bm.count S n i ((i : Int) + (K : Int)) : Nat) : Int) ≠ 0 := by
  intro hc
  have e := count_range S n i (i + K) (by omega) h
  rw [show ((i + K : Nat) : Int) = (i : Int) + (K : Int) by omega] at e
  rw [e, show i + K - i = K by omega] at hc
  have : Bm.fits S n K i = true := (Bm.fits_iff S n K i).2 ⟨h, Bm.cnt_eq_zero (by omega)⟩
  rw [hf] at this; cases this

/-- The loop over the places ahead of the gap, and what stands behind it, from where the end is known. -/
theorem end_cases (S : Nat → Bool) (N K x : Nat) (hK : 1 ≤ K) : ∃ (g : Int) (E : Int), Bm.gap S N x K = g ∧ (g = -1 ∧ E = (N : Int) - (K : Int) + 1 ∨ (∃ i : Nat, g = (i : Int) ∧ E = (i : Int) ∧ x ≤ i ∧ i + K ≤ N ∧ Bm.fits S N K i = true)) ∧
    ∀ j : Nat, x ≤ j → (j : Int) < E → j + K ≤ N ∧ Bm.fits S N K j = false := by
  rcases gap_spec S N K x hK with ⟨h1, h2⟩ | ⟨i, h1, h2, h3, h4⟩
  · exact ⟨-1, _, h1, .inl ⟨rfl, rfl⟩, fun j hj hj2 => ⟨by omega, h2 j hj⟩⟩
  · have := ((Bm.fits_iff S N K i).1 h3).1
    exact ⟨i, i, h1, .inr ⟨i, rfl, rfl, h2, this, h3⟩, fun j hj hj2 => ⟨by omega, h4 j hj (by omega)⟩⟩

set_option maxHeartbeats 1600000 in
theorem gaps_walk (long : Int) (a : Option Addr) (len cap : Nat) (zs : List Int) (f t : Int) (w : World) (hl : (Lit.int .i64 long).wf = true) (hr : IsRow .i64 w a len cap zs) (hf : (Lit.int .i64 f).wf = true) (ht : (Lit.int .i64 t).wf = true)
    (hT : Tab w) (h0 : 0 < w.heap.size) :
    Calls Tryd.prog 6 #[.int .i64 long, .slice a len cap, .int .i64 f, .int .i64 t] w fun e w' => e = .returned (.bool true) ∧ Below w.heap.size w w' := by
  obtain ⟨hl1, hl2⟩ := wf_i64 hl
  obtain ⟨hf1, hf2⟩ := wf_i64 hf
  obtain ⟨ht1, ht2⟩ := wf_i64 ht
  clear hl hf ht
  have hn := wi_range long 3000 (by omega)
  obtain ⟨N, hN⟩ : ∃ N : Nat, 1 + wi long 3000 = N := ⟨(1 + wi long 3000).toNat, by omega⟩
  have hN1 : 1 ≤ N := by omega
  have hN2 : N ≤ 3000 := by omega
  have ha := wi_range f (N : Int) (by omega)
  obtain ⟨x, hx⟩ : ∃ k : Nat, wi f (N : Int) = k := ⟨(wi f (N : Int)).toNat, by omega⟩
  have hb := wi_range t 70 (by omega)
  obtain ⟨K, hK⟩ : ∃ k : Nat, 1 + wi t 70 = k := ⟨(1 + wi t 70).toNat, by omega⟩
  have hx2 : x < N := by omega
  have hK1 : 1 ≤ K := by omega
  have hK2 : K ≤ 70 := by omega
  clear ha
  have HX := Lib.hid hx; clear hx
  have HR := Lib.hid hr; clear hr
  have HT := Lib.hid hT; clear hT
  go_enter Tryd.func6, Tryd.ntmps6
  go_wp2_with fail
  refine (within_any long 3000 _ hl1 hl2 (by omega) (by omega)).mono ?_
  rintro e w2 ⟨rfl, rfl⟩
  go_wp2_with fail
  clear hN hn
  refine (filled_any N a len cap zs _ hN1 (by omega) HR.out).mono ?_
  rintro e w1 ⟨p, rfl, hm⟩
  generalize fillS zs N (min len 2000) = S at *
  have HM := Lib.hid hm; clear hm
  go_wp2_with fail
  refine (alive_any _ (HM.out.tab HT.out h0) (by obtain ⟨hi, h1, h2⟩ := HM.out; have := h2.size; omega)).mono ?_
  rintro e w2 ⟨rfl, hs2⟩
  have HM2 := Lib.hid (HM.out.yields hs2); clear hs2 HM
  go_wp2_with fail
  refine (within_any f (N : Int) _ hf1 hf2 (by omega) (by omega)).mono ?_
  rintro e w3 ⟨rfl, rfl⟩
  rw [HX.out]
  go_wp2_with fail
  refine (within_any t 70 _ ht1 ht2 (by omega) (by omega)).mono ?_
  rintro e w3 ⟨rfl, rfl⟩
  go_wp2_with fail
  clear hK hb
  refine (new_gap HM2.out HT.out h0 x K (by omega)).mono ?_
  rintro e w3 ⟨rfl, hm3⟩
  have HM3 := Lib.hid hm3; clear hm3
  obtain ⟨g, E, hg, hcase, hall⟩ := end_cases S N K x hK1
  rw [hg]
  clear hg
  have HALL := Lib.hid hall; clear hall
  rcases hcase with ⟨rfl, hE⟩ | ⟨i, rfl, hE, hxi, hiK, hfit⟩
  · have HE := Lib.hid hE; clear hE
    rw [HE.out] at HALL
    clear HE
    have HMX := HM3
    go_wp2_with fail
    go_loopw [15] (fun v wr => ∃ j : Nat, x ≤ j ∧ (j : Int) ≤ 6000 ∧ v = .int .i64 j ∧ NewMap w wr p N S) (fun v _ => 6001 - (intOf v).toNat)
    case atStart => exact ⟨x, Nat.le_refl _, by omega, rfl, HMX.out⟩
    case round =>
      obtain ⟨j, hj1, hj2, rfl, hmj⟩ := hrel
      have HMJ := Lib.hid hmj; clear hmj
      have hj0 : (0 : Int) ≤ (j : Int) := by omega
      by_cases hje : (j : Int) < (N : Int) - (K : Int) + 1
      · obtain ⟨hjK, hnf⟩ := HALL.out j hj1 (by omega)
        have hne := count_unfit S N K j hjK hnf
        clear hnf
        go_wp2_with fail
        refine (new_countRange HMJ.out j ((j : Int) + (K : Int)) (by omega) (by omega)).mono ?_
        rintro e w5 ⟨rfl, hm5⟩
        have HM5 := Lib.hid hm5; clear hm5
        generalize Bm.count S N j ((j : Int) + (K : Int)) = c at *
        have hc0 : ((c : Int) == 0) = false := by simpa using hne
        clear hne
        go_wp2
        go_roundw
        case rel => first | exact ⟨j + 1, by omega, by omega, by go_num, HM5.out⟩ | ((repeat apply Exists.intro); exact ⟨⟨j + 1, by omega, by omega, by go_num, HM5.out⟩, rfl⟩)
        case measure => simp [intOf]; omega
      · go_wp2_with fail
        refine (new_gap HMJ.out HT.out h0 x 0 (by omega)).mono ?_
        rintro e w5 ⟨rfl, hm5⟩
        have HM5 := Lib.hid hm5; clear hm5
        rw [Bm.gap_low S N x 0 (by omega)]
        go_wp2_with fail
        refine (new_gap HM5.out HT.out h0 x ((N : Int) + 1) (by omega)).mono ?_
        rintro e w6 ⟨rfl, hm6⟩
        have HM6 := Lib.hid hm6; clear hm6
        rw [Bm.gap_high S N x ((N : Int) + 1) (by omega)]
        go_wp2
        go_ret
        obtain ⟨hi, _, h2⟩ := HM6.out
        exact ⟨rfl, h2.below⟩
  · have HE := Lib.hid hE; clear hE
    rw [HE.out] at HALL
    clear HE
    have hi0 : (0 : Int) ≤ (i : Int) := by omega
    have hxi' : (x : Int) ≤ (i : Int) := by omega
    have hiK' : (i : Int) + (K : Int) ≤ (N : Int) := by omega
    have HC := Lib.hid (count_fits S N K i hiK hfit)
    clear hfit
    have hd1 : decide (i < x) = false := decide_eq_false (by omega)
    have hd2 : decide ((i : Int) < -1) = false := decide_eq_false (by omega)
    have hd3 : decide ((N : Int) < (i : Int) + (K : Int)) = false := decide_eq_false (by omega)
    go_wp2_with fail
    refine (new_countRange HM3.out i ((i : Int) + (K : Int)) (by omega) (by omega)).mono ?_
    rintro e w4 ⟨rfl, hm4⟩
    have HMX := Lib.hid hm4; clear hm4
    rw [HC.out]
    go_wp2_with fail
    go_loopw [15] (fun v wr => ∃ j : Nat, x ≤ j ∧ (j : Int) ≤ 6000 ∧ v = .int .i64 j ∧ NewMap w wr p N S) (fun v _ => 6001 - (intOf v).toNat)
    case atStart => exact ⟨x, Nat.le_refl _, by omega, rfl, HMX.out⟩
    case round =>
      obtain ⟨j, hj1, hj2, rfl, hmj⟩ := hrel
      have HMJ := Lib.hid hmj; clear hmj
      have hj0 : (0 : Int) ≤ (j : Int) := by omega
      by_cases hje : (j : Int) < (i : Int)
      · obtain ⟨hjK, hnf⟩ := HALL.out j hj1 (by omega)
        have hne := count_unfit S N K j hjK hnf
        clear hnf
        go_wp2_with fail
        refine (new_countRange HMJ.out j ((j : Int) + (K : Int)) (by omega) (by omega)).mono ?_
        rintro e w5 ⟨rfl, hm5⟩
        have HM5 := Lib.hid hm5; clear hm5
        generalize Bm.count S N j ((j : Int) + (K : Int)) = c at *
        have hc0 : ((c : Int) == 0) = false := by simpa using hne
        clear hne
        go_wp2
        go_roundw
        case rel => first | exact ⟨j + 1, by omega, by omega, by go_num, HM5.out⟩ | ((repeat apply Exists.intro); exact ⟨⟨j + 1, by omega, by omega, by go_num, HM5.out⟩, rfl⟩)
        case measure => simp [intOf]; omega
      · go_wp2_with fail
        refine (new_gap HMJ.out HT.out h0 x 0 (by omega)).mono ?_
        rintro e w5 ⟨rfl, hm5⟩
        have HM5 := Lib.hid hm5; clear hm5
        rw [Bm.gap_low S N x 0 (by omega)]
        go_wp2_with fail
        refine (new_gap HM5.out HT.out h0 x ((N : Int) + 1) (by omega)).mono ?_
        rintro e w6 ⟨rfl, hm6⟩
        have HM6 := Lib.hid hm6; clear hm6
        rw [Bm.gap_high S N x ((N : Int) + 1) (by omega)]
        go_wp2
        go_ret
        obtain ⟨hi, _, h2⟩ := HM6.out
        exact ⟨rfl, h2.below⟩
end Go.Proofs.YtppeiljecgeifaaDoor
