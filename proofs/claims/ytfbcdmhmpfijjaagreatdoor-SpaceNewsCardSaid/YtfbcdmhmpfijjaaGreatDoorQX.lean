/-
  The walks of sameInts, samePages, sameBlocks: of lists that are the same.
-/
import Derived.Test.YtfbcdmhmpfijjaaGreatDoorQW
namespace Go.Proofs.YtfbcdmhmpfijjaaGreatDoor
open Go Go.RowKit

/-- A list in memory whose elements have W numbers each. -/
def RowAt (w : World) (v : Value) (n W : Nat) (f : Nat → Nat → Int) : Prop :=
  ∃ a c, v = .slice a n c ∧ ∀ i, i < n → ∃ g, a = some ⟨g, 0, none⟩ ∧ g < w.heap.size ∧ ∀ d, d < W → w.cell? ⟨g, i * W + d, none⟩ = some (.int .i64 (f i d))
theorem row_at {w : World} {base : Nat} {e : TypeId} {n W : Nat} {v : Value} {xs : List Value} (h : w.ownsRow base e W v n xs) {f : Nat → Nat → Int} (hx : ∀ i, i < n → ∀ d, d < W → xs[i * W + d]? = some (.int .i64 (f i d))) : RowAt w v n W f := by
  rcases h.2 with ⟨h1, h2⟩ | ⟨g, cap', cur, hv, hb, hg, hnc, hcm, hs, ht⟩
  · exact ⟨_, _, by rw [h1, h2], fun i hi => by omega⟩
  · refine ⟨_, _, hv, fun i hi => ⟨g, rfl, (Array.getElem?_eq_some_iff.1 hg).1, fun d hd => ?_⟩⟩
    have := h.cells (g := g) (by rw [hv]; rfl) (i * W + d) _ (hx i hi d hd)
    rwa [add_at] at this
theorem RowAt.still {w w' : World} {v : Value} {n W : Nat} {f : Nat → Nat → Int} (h : RowAt w v n W f) (hs : Still w w') : RowAt w' v n W f := by
  obtain ⟨a, c, h1, h2⟩ := h
  refine ⟨a, c, h1, fun i hi => ?_⟩
  obtain ⟨g, e1, e2, e3⟩ := h2 i hi
  exact ⟨g, e1, Nat.lt_of_lt_of_le e2 hs.size, fun d hd => (hs.cell (p := ⟨g, i * W + d, none⟩) e2 (.inl e2)).trans (e3 d hd)⟩
set_option maxHeartbeats 1600000 in
theorem sameInts_eq (w : World) (v1 v2 : Value) (n : Nat) (f : Nat → Nat → Int) (h1 : RowAt w v1 n 1 f) (h2 : RowAt w v2 n 1 f) (hn : n ≤ 1000000) :
    Calls Tryz.prog 84 #[v1, v2] w fun e w' => e = .returned (.bool true) ∧ Still w w' := by
  have H1 := Lib.hid h1
  have H2 := Lib.hid h2
  obtain ⟨a1, c1, rfl, _⟩ := h1
  obtain ⟨a2, c2, rfl, _⟩ := h2
  have hnI : (n : Int) ≤ 1000000 := by omega
  go_enter Tryz.func84, Tryz.ntmps84
  go_wp2_with fail
  go_loopw [5] (fun y W => ∃ i : Nat, y = .int .i64 (i : Int) ∧ i ≤ n ∧ Still w W) (fun y _ => n + 1 - (intOf y).toNat)
  case atStart => exact ⟨0, rfl, Nat.zero_le _, Only.refl _ _ _⟩
  case round =>
    obtain ⟨i, rfl, hi, hst⟩ := hrel
    have HST := Lib.hid hst
    have hi0 : (0 : Int) ≤ (i : Int) := by omega
    by_cases hin : i < n
    · have hiI : (i : Int) < (n : Int) := by omega
      obtain ⟨b1, d1, e1, k1⟩ := H1.out.still hst
      obtain ⟨b2, d2, e2, k2⟩ := H2.out.still hst
      injection e1 with e1 _ q1
      injection e2 with e2 _ q2
      subst e1
      subst e2
      subst q1
      subst q2
      obtain ⟨g1, rfl, l1, x1⟩ := k1 i hin
      obtain ⟨g2, rfl, l2, x2⟩ := k2 i hin
      have x10 : wr.cell? ⟨g1, i, none⟩ = some (.int .i64 (f i 0)) := by have := x1 0 (by omega); rwa [Nat.mul_one, Nat.add_zero] at this
      have x20 : wr.cell? ⟨g2, i, none⟩ = some (.int .i64 (f i 0)) := by have := x2 0 (by omega); rwa [Nat.mul_one, Nat.add_zero] at this
      generalize f i 0 = y at *
      clear k1 k2 x1 x2 hst
      go_wp2_with fail
      go_quiet (fail)
      go_wp2_with fail
      exact ⟨⟨i + 1, by go_num, hin, HST.out.drewN _⟩, by simp [intOf]; omega⟩
    · obtain rfl : i = n := by omega
      go_wp2_with fail
      go_ret
      exact ⟨rfl, HST.out⟩
set_option maxHeartbeats 1600000 in
theorem samePages_eq (w : World) (v1 v2 : Value) (n : Nat) (f : Nat → Nat → Int) (h1 : RowAt w v1 n 3 f) (h2 : RowAt w v2 n 3 f) (hn : n ≤ 1000000) :
    Calls Tryz.prog 85 #[v1, v2] w fun e w' => e = .returned (.bool true) ∧ Still w w' := by
  have H1 := Lib.hid h1
  have H2 := Lib.hid h2
  obtain ⟨a1, c1, rfl, _⟩ := h1
  obtain ⟨a2, c2, rfl, _⟩ := h2
  have hnI : (n : Int) ≤ 1000000 := by omega
  go_enter Tryz.func85, Tryz.ntmps85
  go_wp2_with fail
  go_loopw [5] (fun y W => ∃ i : Nat, y = .int .i64 (i : Int) ∧ i ≤ n ∧ Still w W) (fun y _ => n + 1 - (intOf y).toNat)
  case atStart => exact ⟨0, rfl, Nat.zero_le _, Only.refl _ _ _⟩
  case round =>
    obtain ⟨i, rfl, hi, hst⟩ := hrel
    have HST := Lib.hid hst
    have hi0 : (0 : Int) ≤ (i : Int) := by omega
    by_cases hin : i < n
    · have hiI : (i : Int) < (n : Int) := by omega
      obtain ⟨b1, d1, e1, k1⟩ := H1.out.still hst
      obtain ⟨b2, d2, e2, k2⟩ := H2.out.still hst
      injection e1 with e1 _ q1
      injection e2 with e2 _ q2
      subst e1
      subst e2
      subst q1
      subst q2
      obtain ⟨g1, rfl, l1, x1⟩ := k1 i hin
      obtain ⟨g2, rfl, l2, x2⟩ := k2 i hin
      have x10 : wr.cell? ⟨g1, i * 3, none⟩ = _ := x1 0 (by omega)
      have x11 := x1 1 (by omega)
      have x12 := x1 2 (by omega)
      have x20 : wr.cell? ⟨g2, i * 3, none⟩ = _ := x2 0 (by omega)
      have x21 := x2 1 (by omega)
      have x22 := x2 2 (by omega)
      generalize f i 0 = y0 at *
      generalize f i 1 = y1 at *
      generalize f i 2 = y2 at *
      clear k1 k2 x1 x2 hst
      go_wp2_with fail
      go_quiet (fail)
      go_wp2_with fail
      exact ⟨⟨i + 1, by go_num, hin, HST.out.drewN _⟩, by simp [intOf]; omega⟩
    · obtain rfl : i = n := by omega
      go_wp2_with fail
      go_ret
      exact ⟨rfl, HST.out⟩
set_option maxHeartbeats 1600000 in
theorem sameBlocks_eq (w : World) (v1 v2 : Value) (n : Nat) (f : Nat → Nat → Int) (h1 : RowAt w v1 n 5 f) (h2 : RowAt w v2 n 5 f) (hn : n ≤ 1000000) :
    Calls Tryz.prog 72 #[v1, v2] w fun e w' => e = .returned (.bool true) ∧ Still w w' := by
  have H1 := Lib.hid h1
  have H2 := Lib.hid h2
  obtain ⟨a1, c1, rfl, _⟩ := h1
  obtain ⟨a2, c2, rfl, _⟩ := h2
  have hnI : (n : Int) ≤ 1000000 := by omega
  go_enter Tryz.func72, Tryz.ntmps72
  go_wp2_with fail
  go_loopw [5] (fun y W => ∃ i : Nat, y = .int .i64 (i : Int) ∧ i ≤ n ∧ Still w W) (fun y _ => n + 1 - (intOf y).toNat)
  case atStart => exact ⟨0, rfl, Nat.zero_le _, Only.refl _ _ _⟩
  case round =>
    obtain ⟨i, rfl, hi, hst⟩ := hrel
    have HST := Lib.hid hst
    have hi0 : (0 : Int) ≤ (i : Int) := by omega
    by_cases hin : i < n
    · have hiI : (i : Int) < (n : Int) := by omega
      obtain ⟨b1, d1, e1, k1⟩ := H1.out.still hst
      obtain ⟨b2, d2, e2, k2⟩ := H2.out.still hst
      injection e1 with e1 _ q1
      injection e2 with e2 _ q2
      subst e1
      subst e2
      subst q1
      subst q2
      obtain ⟨g1, rfl, l1, x1⟩ := k1 i hin
      obtain ⟨g2, rfl, l2, x2⟩ := k2 i hin
      have x10 : wr.cell? ⟨g1, i * 5, none⟩ = _ := x1 0 (by omega)
      have x11 := x1 1 (by omega)
      have x12 := x1 2 (by omega)
      have x13 := x1 3 (by omega)
      have x14 := x1 4 (by omega)
      have x20 : wr.cell? ⟨g2, i * 5, none⟩ = _ := x2 0 (by omega)
      have x21 := x2 1 (by omega)
      have x22 := x2 2 (by omega)
      have x23 := x2 3 (by omega)
      have x24 := x2 4 (by omega)
      generalize f i 0 = y0 at *
      generalize f i 1 = y1 at *
      generalize f i 2 = y2 at *
      generalize f i 3 = y3 at *
      generalize f i 4 = y4 at *
      clear k1 k2 x1 x2 hst
      go_wp2_with fail
      go_quiet (fail)
      go_wp2_with fail
      exact ⟨⟨i + 1, by go_num, hin, HST.out.drewN _⟩, by simp [intOf]; omega⟩
    · obtain rfl : i = n := by omega
      go_wp2_with fail
      go_ret
      exact ⟨rfl, HST.out⟩
end Go.Proofs.YtfbcdmhmpfijjaaGreatDoor
