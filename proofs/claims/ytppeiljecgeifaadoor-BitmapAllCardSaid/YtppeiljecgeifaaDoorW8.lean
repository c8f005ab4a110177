/-
  The walks of the reference's map (hearthref3): Gap, List.
-/
import Derived.Test.YtppeiljecgeifaaDoorW7
namespace Go.Proofs.YtppeiljecgeifaaDoor
open Go Go.RowKit

set_option maxHeartbeats 800000 in
theorem rgap_core (lo hi n pb K : Nat) (ao : Option Addr) (cap : Nat) (S : Nat → Bool) (f : Int) (w : World) (hm : RefAt w lo hi pb n ao cap S) (hK : 1 ≤ K) :
    Calls Tryd.prog 50 #[.pointer (some ⟨pb, 0, none⟩), .int .i64 f, .int .i64 (K : Int)] w fun e w' => e = .returned (.int .i64 (Bm.gap S n f K)) ∧ w = w' := by
  have hn := hm.nle
  have hc0 := hm.cell0
  have HM := Lib.hid hm; clear hm
  have hK1 : (1 : Int) ≤ (K : Int) := by omega
  go_enter Tryd.func50, Tryd.ntmps50
  go_wp2_with fail
  go_loop [7, 8] (fun c x => ∃ i k : Nat, i ≤ n ∧ k ≤ i ∧ k < K ∧ x = .int .i64 i ∧ c = .int .i64 k ∧ (∀ j, i ≤ j + k → j < i → f ≤ (j : Int) ∧ S j = false) ∧ (∀ j, j + k + 1 = i → (j : Int) < f ∨ S j = true) ∧
      ∀ j : Nat, f ≤ (j : Int) → j + K ≤ i → Bm.fits S n K j = false) (fun _ x => n + 1 - (intOf x).toNat)
  case atStart => exact ⟨0, 0, Nat.zero_le _, Nat.le_refl _, by omega, rfl, rfl, fun j _ h => by omega, fun j h => by omega, fun j _ h => by omega⟩
  case round =>
    obtain ⟨i, k, hin, hki, hkK, rfl, rfl, h1, h2, h3⟩ := hrel
    have hi0 : (0 : Int) ≤ (i : Int) := by omega
    have hk0 : (0 : Int) ≤ (k : Int) := by omega
    have H1 := Lib.hid h1; clear h1
    have H2 := Lib.hid h2; clear h2
    have H3 := Lib.hid h3; clear h3
    by_cases hlt : (i : Int) < (n : Int)
    · by_cases hf : (i : Int) < f
      · go_wp2
        go_round
        case rel =>
          refine ⟨i + 1, 0, by omega, by omega, by omega, by go_num, rfl, fun j h h' => by omega, fun j h => .inl (by omega), fun j h h' => ?_⟩
          exact H3.out j h (by omega)
        case measure => simp [intOf]; omega
      · obtain ⟨g, rfl, hg1, hg2, hg3, hcell, hfr⟩ := HM.out.row (by omega)
        have hck := hcell i (by omega)
        clear hcell hfr
        cases hSi : S i with
        | true =>
          rw [hSi] at hck
          have HS := Lib.hid hSi; clear hSi
          go_wp2
          go_round
          case rel =>
            refine ⟨i + 1, 0, by omega, by omega, by omega, by go_num, rfl, fun j h h' => by omega, fun j h => .inr ?_, fun j h h' => ?_⟩
            · obtain rfl : j = i := by omega
              exact HS.out
            · by_cases e : j + K ≤ i
              · exact H3.out j h e
              · exact Bm.fits_blocked HS.out (by omega) (by omega)
          case measure => simp [intOf]; omega
        | false =>
          rw [hSi] at hck
          have HS := Lib.hid hSi; clear hSi
          by_cases hkk : k + 1 = K
          · have hkb : ((k : Int) + 1 == (K : Int)) = true := by rw [beq_iff_eq]; omega
            have hKi0 : K ≤ i + 1 := by omega
            have HE : Hid (Bm.gap S n f K = (i : Int) - (K : Int) + 1) := by
              have hx : f ≤ ((i + 1 - K : Nat) : Int) := by
                by_cases e : k = 0
                · omega
                · have := (H1.out (i + 1 - K) (by omega) (by omega)).1; exact this
              have hg := Bm.gap_eq (S := S) (n := n) (f := f) (i := i + 1 - K) hK hx ((Bm.fits_iff S n K _).2 ⟨by omega, fun j hj hj2 => by
                by_cases e : j = i
                · subst e; exact HS.out
                · exact (H1.out j (by omega) (by omega)).2⟩) (fun j hj hj2 => H3.out j hj (by omega))
              rw [show (i : Int) - (K : Int) + 1 = ((i + 1 - K : Nat) : Int) by omega]; exact hg
            have hKi : (K : Int) ≤ (i : Int) + 1 := by omega
            clear hkk
            go_wp2
            go_ret
            exact ⟨ret_i64 (by rw [HE.out]), rfl⟩
          · have hkb : ((k : Int) + 1 == (K : Int)) = false := beq_eq_false_iff_ne.2 (by omega)
            go_wp2
            go_round
            case rel =>
              refine ⟨i + 1, k + 1, by omega, by omega, by omega, by go_num, by go_num, fun j h h' => ?_, fun j h => ?_, fun j h h' => ?_⟩
              · by_cases e : j = i
                · subst e; exact ⟨by omega, HS.out⟩
                · exact H1.out j (by omega) (by omega)
              · exact H2.out j (by omega)
              · by_cases e : j + K ≤ i
                · exact H3.out j h e
                · have hki2 : k < i := by omega
                  rcases H2.out (i - k - 1) (by omega) with h4 | h4
                  · omega
                  · exact Bm.fits_blocked h4 (by omega) (by omega)
            case measure => simp [intOf]; omega
    · have HE : Hid (Bm.gap S n f K = -1) := Bm.gap_none hK (fun j hj => by
        by_cases e : j + K ≤ i
        · exact H3.out j hj e
        · cases hf : Bm.fits S n K j with
          | false => rfl
          | true => have := ((Bm.fits_iff S n K j).1 hf).1; omega)
      go_wp2
      go_ret
      exact ⟨ret_i64 (by rw [HE.out]), rfl⟩
set_option maxHeartbeats 400000 in
theorem rgap_any (lo hi n : Nat) (p : Addr) (S : Nat → Bool) (f k : Int) (w : World) (hm : IsRef w lo hi p n S) :
    Calls Tryd.prog 50 #[.pointer (some p), .int .i64 f, .int .i64 k] w fun e w' => e = .returned (.int .i64 (Bm.gap S n f k)) ∧ w = w' := by
  obtain ⟨pb, ao, cap, rfl, hm⟩ := hm
  by_cases hk : k < 1
  · rw [Bm.gap_low S n f k hk]
    have hc0 := hm.cell0
    have hn := hm.nle
    clear hm
    have hd : decide (1 ≤ k) = false := decide_eq_false (by omega)
    go_enter Tryd.func50, Tryd.ntmps50
    go_wp2_with fail
    refine wp_loop_rounds 1 ?_
    rw [rounds_succ]
    by_cases h0 : (0 : Int) < (n : Int)
    · go_wp2
      go_ret
      exact ⟨rfl, rfl⟩
    · go_wp2
      go_ret
      exact ⟨rfl, rfl⟩
  · obtain ⟨K, rfl⟩ : ∃ K : Nat, k = K := ⟨k.toNat, by omega⟩
    exact rgap_core lo hi n pb K ao cap S f w hm (by omega)

set_option maxHeartbeats 800000 in
/-- The list of all that are in, in new memory. -/
theorem rlist_any (lo hi n : Nat) (p : Addr) (S : Nat → Bool) (w : World) (hm : IsRef w lo hi p n S) :
    Calls Tryd.prog 34 #[.pointer (some p)] w fun e w' => ∃ ao cp, e = .returned (.slice ao (pre S n).length cp) ∧
      w'.ownsRow w.heap.size 3 1 (.slice ao (pre S n).length cp) (pre S n).length ((pre S n).map I) ∧ Still w w' := by
  obtain ⟨pb, ao, cap, rfl, hm⟩ := hm
  have hn := hm.nle
  have hpl : pb < w.heap.size := by have := hm.phi; have := hm.top; omega
  have HM := Lib.hid hm; clear hm
  obtain ⟨i0, hinf, hz0, hz1, hz2⟩ := info_parts Tryd.infoI
  go_enter Tryd.func34, Tryd.ntmps34
  go_wp2_with fail
  go_loopw [3, 4] (fun l x wr => ∃ k : Nat, k ≤ n ∧ x = .int .i64 k ∧ Still w wr ∧ ∃ lo cp, l = .slice lo (pre S k).length cp ∧ wr.ownsRow w.heap.size 3 1 (.slice lo (pre S k).length cp) (pre S k).length ((pre S k).map I)) (fun _ x _ => n + 1 - (intOf x).toNat)
  case atStart => exact ⟨0, Nat.zero_le _, rfl, Only.refl _ _ _, none, 0, rfl, World.ownsRow_nil _ _ _ _⟩
  case round =>
    obtain ⟨k, hk2, rfl, hs, lo', cp, rfl, hown⟩ := hrel
    have hk0 : (0 : Int) ≤ (k : Int) := by omega
    have HS := Lib.hid hs; clear hs
    have HO := Lib.hid hown; clear hown
    have hc0 : wr.cell? ⟨pb, 0, none⟩ = some (.slice ao n cap) := (HS.out.below.cell (p := ⟨pb, 0, none⟩) hpl).trans HM.out.cell0
    have HP := Lib.hid (pre_succ S k)
    have hTl := pre_le S k
    by_cases hlt : (k : Int) < (n : Int)
    · obtain ⟨g, rfl, hg1, hg2, hg3, hcell, hfr⟩ := HM.out.row (by omega)
      have hgs : g < w.heap.size := by have := HM.out.top; omega
      have hck : wr.cell? ⟨g, k, none⟩ = some (.bool (S k)) := (HS.out.below.cell (p := ⟨g, k, none⟩) hgs).trans (hcell k (by omega))
      clear hcell hfr
      cases hSk : S k with
      | false =>
        rw [hSk] at hck HP
        clear hSk
        go_wp2
        go_roundw
        case rel => exact ⟨k + 1, by omega, by go_num, HS.out, lo', cp, by rw [HP.out]; rfl, by rw [HP.out]; exact HO.out⟩
        case measure => simp [intOf]; omega
      | true =>
        rw [hSk] at hck HP
        clear hSk
        generalize pre S k = T at *
        generalize hLL : T.length = L at *
        have HLL := Lib.hid hLL; clear hLL
        go_wp2_with (at_builtin; refine wpList_append_own _ rfl _ _ 27 rfl w.heap.size 3 i0 (.int .i64 0) 1 8 Tryd.underlying27 hinf hz0 hz1 hz2 rfl (by decide) _ L (T.map I) rfl (HO.out.alloc _) ⟨wr.heap.size, 0, none⟩ 1 1 [I k] rfl rfl ?c1 ?c2 ?c3 ?c4 ?c5 ?_)
        case c2 => rfl
        case c3 => unfold maxLen; omega
        case c4 => omega
        case c5 => have := HS.out.size; omega
        intro v' w6 hown' hgrow _
        have hsh : ∃ ao' cap', v' = .slice ao' (L + 1) cap' := by
          rcases hown'.2 with ⟨_, h0⟩ | ⟨g', cap', cur', rfl, _⟩
          · omega
          · exact ⟨_, _, rfl⟩
        obtain ⟨ao', cp', hv'⟩ := hsh
        rw [hv'] at hown' ⊢
        have HS6 : Hid (Still w w6) := (HS.out.alloc _).grown hgrow (fun g hg => .inr (HO.out.lt g hg).1)
        have HO6 := Lib.hid hown'; clear hown' hgrow hv'
        have HPL : Hid ((pre S (k + 1)).length = L + 1) := by rw [HP.out, if_pos trivial, List.length_append, HLL.out]; rfl
        have HPM : Hid ((pre S (k + 1)).map I = T.map I ++ [I k]) := by rw [HP.out, if_pos trivial, List.map_append]; rfl
        go_wp2
        go_roundw
        case rel => exact ⟨k + 1, by omega, by go_num, HS6.out, ao', cp', by rw [HPL.out], by rw [HPL.out, HPM.out]; exact HO6.out⟩
        case measure => simp [intOf]; omega
    · have HK : Hid (n = k) := (by omega : n = k)
      go_wp2
      go_ret
      refine ⟨lo', cp, by rw [HK.out]; rfl, ?_, HS.out⟩
      rw [HK.out]; exact HO.out
end Go.Proofs.YtppeiljecgeifaaDoor
