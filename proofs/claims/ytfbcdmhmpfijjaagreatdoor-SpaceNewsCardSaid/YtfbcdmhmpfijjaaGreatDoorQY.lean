/-
  Floats: a quotient of two whole numbers is no NaN; the walk of space.Use.
-/
import Derived.Test.YtfbcdmhmpfijjaaGreatDoorQW
import Derived.Laws.FloatArith
namespace Go.Proofs.YtfbcdmhmpfijjaaGreatDoor
open Go Go.RowKit

theorem order_self (d : Ieee.Datum) (h : d.isNaN = false) : d.order d = some .eq := by
  cases d with
  | nan s t => cases h
  | infinity s => simp [Ieee.Datum.order, compare, compareOfLessAndEq]
  | number s m i => simp [Ieee.Datum.order, compare, compareOfLessAndEq]
theorem read_not_nan (f : Ieee.Format) {w : Nat} (h : w % f.signWeight ≤ f.infRung) : (f.read w).isNaN = false := by
  unfold Ieee.Format.read
  dsimp only
  split
  · rfl
  · split
    · rfl
    · split
      · rfl
      · omega
theorem word_mod (f : Ieee.Format) (s : Bool) {r : Nat} (h : r ≤ f.infRung) : f.word s r % f.signWeight = r := by
  have := f.infRung_lt
  unfold Ieee.Format.word
  split
  · rw [Nat.add_mod_left, Nat.mod_eq_of_lt (by omega)]
  · exact Nat.mod_eq_of_lt (by omega)
theorem write_not_nan (f : Ieee.Format) (s : Bool) (m : Nat) (p : Int) : (f.read (f.write (.number s m p))).isNaN = false := by
  refine read_not_nan f ?_
  show f.nearest s m p % _ ≤ _
  unfold Ieee.Format.nearest
  dsimp only
  split
  · rw [word_mod f s (Nat.zero_le _)]; exact Nat.zero_le _
  · rw [word_mod f s (Nat.min_le_right _ _)]; exact Nat.min_le_right _ _
/-- A whole number that is not too great reads as a number that is not 0. -/
theorem read_nat {n : Nat} (h1 : 1 ≤ n) (h2 : n < 2 ^ 53) : ∃ m e, Ieee.double.read (Ieee.double.write (.number false n 0)) = .number false m e ∧ m ≠ 0 := by
  have hlog : n.log2 < 53 := (Nat.log2_lt (by omega)).2 h2
  have hlt : n < 2 ^ (n.log2 + 1) := Nat.lt_log2_self
  obtain ⟨l, hl⟩ : ∃ l, n.log2 = l := ⟨_, rfl⟩
  rw [hl] at hlog hlt
  have hlp : Ieee.double.leastPlace = -1074 := by decide
  have hbn : Ieee.double.binade = 2 ^ 52 := rfl
  have hin : Ieee.double.infRung = 2047 * 2 ^ 52 := by decide
  have hsw : Ieee.double.signWeight = 2 ^ 63 := rfl
  have hlast : max ((0 : Int) + (l : Int) - (Ieee.double.fractionBits : Int)) Ieee.double.leastPlace = (l : Int) - 52 := by
    rw [hlp]
    show max ((0 : Int) + (l : Int) - ((52 : Nat) : Int)) (-1074) = _
    omega
  have hcut : ∀ x, Ieee.Toward.even.cut false x 0 = x := fun x => by
    unfold Ieee.Toward.cut
    simp [Nat.mod_one]
  have hk : ∃ r, 1 ≤ r ∧ r < 2047 * 2 ^ 52 ∧ Ieee.double.write (.number false n 0) = r := by
    refine ⟨(l + 1022) * 2 ^ 52 + n * 2 ^ (52 - l), ?_, ?_, ?_⟩
    · have : 1 ≤ n * 2 ^ (52 - l) := Nat.mul_pos h1 (Nat.two_pow_pos _)
      omega
    · have h3 : n * 2 ^ (52 - l) < 2 ^ (l + 1) * 2 ^ (52 - l) := (Nat.mul_lt_mul_right (Nat.two_pow_pos _)).2 hlt
      rw [← Nat.pow_add, show l + 1 + (52 - l) = 53 by omega] at h3
      have h4 : (l + 1022) * 2 ^ 52 ≤ 1074 * 2 ^ 52 := Nat.mul_le_mul_right _ (by omega)
      omega
    · show Ieee.double.nearest false n 0 = _
      unfold Ieee.Format.nearest
      rw [if_neg (by omega), hl]
      dsimp only
      rw [hlast, hlp, show ((l : Int) - 52 - 0).toNat = 0 by omega, hcut, show ((0 : Int) - ((l : Int) - 52)).toNat = 52 - l by omega, Nat.shiftLeft_eq, show ((l : Int) - 52 - -1074).toNat = l + 1022 by omega, hbn, hin]
      have h3 : n * 2 ^ (52 - l) < 2 ^ (l + 1) * 2 ^ (52 - l) := (Nat.mul_lt_mul_right (Nat.two_pow_pos _)).2 hlt
      rw [← Nat.pow_add, show l + 1 + (52 - l) = 53 by omega] at h3
      have h4 : (l + 1022) * 2 ^ 52 ≤ 1074 * 2 ^ 52 := Nat.mul_le_mul_right _ (by omega)
      have h5 : (l + 1022) * 2 ^ 52 + n * 2 ^ (52 - l) ≤ 2047 * 2 ^ 52 := Nat.le_trans (Nat.add_le_add h4 (Nat.le_of_lt h3)) (by decide)
      rw [Nat.min_eq_left h5]
      unfold Ieee.Format.word
      rw [if_neg (by decide)]
  obtain ⟨r, r1, r2, hr⟩ := hk
  rw [hr]
  unfold Ieee.Format.read
  dsimp only
  have h63 : r < Ieee.double.signWeight := by rw [hsw]; omega
  rw [Nat.mod_eq_of_lt h63, Nat.div_eq_of_lt h63, hbn, hin]
  have hz : ((0 : Nat) % 2 == 1) = false := rfl
  rw [hz]
  by_cases hb : r < 2 ^ 52
  · rw [if_pos hb]
    exact ⟨_, _, rfl, by omega⟩
  · rw [if_neg hb, if_pos r2]
    exact ⟨_, _, rfl, by omega⟩
/-- The quotient of two whole numbers. -/
theorem quo_nat {r d : Nat} (h1 : 1 ≤ d) (h2 : d < 2 ^ 53) : ∃ q, floatBits .quo .f64 (floatOfInt .f64 (r : Int)) (floatOfInt .f64 (d : Int)) = some q ∧ Ieee.double.order q q = some .eq ∧ (r = 0 → q = 0) := by
  obtain ⟨m, e, hd, hm⟩ := read_nat h1 h2
  have hfd : floatOfInt .f64 (d : Int) = Ieee.double.write (.number false d 0) := by
    show Ieee.double.write (.number (decide ((d : Int) < 0)) (d : Int).natAbs 0) = _
    rw [decide_eq_false (by omega)]; rfl
  have hfr : floatOfInt .f64 (r : Int) = Ieee.double.write (.number false r 0) := by
    show Ieee.double.write (.number (decide ((r : Int) < 0)) (r : Int).natAbs 0) = _
    rw [decide_eq_false (by omega)]; rfl
  have hrn := write_not_nan Ieee.double false r 0
  show ∃ q, Ieee.double.div (floatOfInt .f64 (r : Int)) (floatOfInt .f64 (d : Int)) = some q ∧ _
  unfold Ieee.Format.div
  rw [hfd, hfr, hd]
  cases hx : Ieee.double.read (Ieee.double.write (.number false r 0)) with
  | nan s t => rw [hx] at hrn; cases hrn
  | infinity s =>
    refine ⟨_, rfl, order_self _ (read_not_nan _ ?_), fun h0 => ?_⟩
    · show Ieee.double.word _ _ % _ ≤ _
      rw [word_mod _ _ (Nat.le_refl _)]; exact Nat.le_refl _
    · subst h0
      have h0 : Ieee.double.read (Ieee.double.write (.number false 0 0)) = .number false 0 (-1074) := by decide
      rw [h0] at hx
      cases hx
  | number s mr er =>
    refine ⟨Ieee.double.write (.number (s ^^ false) (2 * (mr <<< (Ieee.double.fractionBits + 2 + m.log2 - mr.log2) / m) + (mr <<< (Ieee.double.fractionBits + 2 + m.log2 - mr.log2) % m != 0).toNat) (er - e - (Ieee.double.fractionBits + 2 + m.log2 - mr.log2 : Nat) - 1)), ?_, order_self _ (write_not_nan _ _ _ _), fun h0 => ?_⟩
    · unfold Ieee.Datum.quotient
      dsimp only
      rw [if_neg hm]
      rfl
    · subst h0
      have h0 : Ieee.double.read (Ieee.double.write (.number false 0 0)) = .number false 0 (-1074) := by decide
      rw [h0] at hx
      injection hx with h3 h4 h5
      subst h3
      subst h4
      rw [Nat.zero_shiftLeft, Nat.zero_div, Nat.zero_mod]
      rfl
set_option maxHeartbeats 1600000 in
theorem suse_any (w : World) (L : Lay) (s : St) (h : SpaceAt w L s) {r q : Nat} (hr : s.room = (r : Int)) (hq : floatBits .quo .f64 (floatOfInt .f64 (r : Int)) (floatOfInt .f64 ((64 * s.n : Nat) : Int)) = some q) :
    Calls Tryz.prog 36 #[.pointer (some ⟨L.sb, 0, none⟩)] w fun e w' => e = .returned (.float .f64 q) ∧ ∃ m, w' = w.drewN m := by
  have c0 := h.c0
  have c14 := h.c14
  have cl := h.sblt
  rw [hr] at c14
  have hc : ∀ (n : Int) (W : World), (convert 3 67 (.int .i64 n)).run Tryz.prog W = .ok (.float .f64 (floatOfInt .f64 n)) W := fun n W => run_convert_int_float W _ _ _ _ n (by rw [Tryz.underlying3]; rfl) Tryz.underlying67
  have hqq := fun (W : World) => run_float_arith (P := Tryz.prog) W .quo 67 .f64 _ _ q hq
  generalize 64 * s.n = N at *
  clear h hr hq
  go_enter Tryz.func36, Tryz.ntmps36
  go_wp2_with fail
  go_quiet (fail)
  go_wp2_with fail
  go_ret
  exact ⟨rfl, _, rfl⟩
end Go.Proofs.YtfbcdmhmpfijjaaGreatDoor
