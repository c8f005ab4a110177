/-
  The walk of classOf.
-/
import Derived.Test.YtiniadochjeieaaDoorQN8
import Derived.OwnWalk
namespace Go.Proofs.YtiniadochjeieaaDoor
open Go Go.RowKit

theorem Sp.wide_of {z : Int} (h1 : 1 ≤ z) (h2 : z ≤ 1024) :
    (32 < z ∧ Sp.cls z = 8 ∧ Sp.wide z = (z + 63) / 64 * 64 ∧ Sp.bks (Sp.cls z) = 0) ∨ ∃ c : Nat, c < 8 ∧ z ≤ 32 ∧ Sp.cls z = (c : Int) ∧ Sp.wide z = (Sp.cw c : Int) ∧ Sp.bks (Sp.cls z) = ((64 / Sp.cw c : Nat) : Int) ∧ z ≤ (Sp.cw c : Int) ∧ ∀ j, j < c → (Sp.cw j : Int) < z := by
  have hsm : ∀ c : Nat, c < 8 → Sp.cls z = (c : Int) → z ≤ (Sp.cw c : Int) → (∀ j, j < c → (Sp.cw j : Int) < z) → ∃ c : Nat, c < 8 ∧ z ≤ 32 ∧ Sp.cls z = (c : Int) ∧ Sp.wide z = (Sp.cw c : Int) ∧ Sp.bks (Sp.cls z) = ((64 / Sp.cw c : Nat) : Int) ∧ z ≤ (Sp.cw c : Int) ∧ ∀ j, j < c → (Sp.cw j : Int) < z := by
    intro c hc h3 h4 h5
    have hp : Sp.pgs z = 0 := by unfold Sp.pgs; rw [if_neg (by omega)]
    have hcc : Sp.cww (c : Int) = (Sp.cw c : Int) := by unfold Sp.cww; rw [if_pos (by omega)]; rfl
    have h32 := Sp.cww_8 (c : Int) (by omega)
    refine ⟨c, hc, by omega, h3, ?_, ?_, h4, h5⟩
    · unfold Sp.wide
      rw [hp, if_neg (by omega), h3, hcc]
    · rw [h3]; unfold Sp.bks; rw [if_pos (by omega)]; rfl
  have hcl : Sp.cls z = if z ≤ 2 then 0 else if z ≤ 4 then 1 else if z ≤ 6 then 2 else if z ≤ 8 then 3 else if z ≤ 12 then 4 else if z ≤ 16 then 5 else if z ≤ 20 then 6 else if z ≤ 32 then 7 else 8 := by unfold Sp.cls; rw [if_neg (by omega)]
  by_cases hb : 32 < z
  · left
    have h8 : Sp.cls z = 8 := by rw [hcl]; repeat' rw [if_neg (by omega)]
    have hp : Sp.pgs z = (z + 63) / 64 := by unfold Sp.pgs; rw [if_pos h8]
    refine ⟨hb, h8, ?_, by rw [h8]; rfl⟩
    unfold Sp.wide
    rw [hp, if_pos (by omega)]
  · right
    by_cases g0 : z ≤ 2
    · exact hsm 0 (by omega) (by rw [hcl]; rw [if_pos g0]; rfl) (by simp only [Sp.cw]; omega) (fun j hj => by omega)
    by_cases g1 : z ≤ 4
    · exact hsm 1 (by omega) (by rw [hcl]; rw [if_neg (by omega), if_pos g1]; rfl) (by simp only [Sp.cw]; omega) (fun j hj => by
        have hj : j = 0 := by omega
        rcases hj with rfl <;> simp only [Sp.cw] <;> omega)
    by_cases g2 : z ≤ 6
    · exact hsm 2 (by omega) (by rw [hcl]; rw [if_neg (by omega), if_neg (by omega), if_pos g2]; rfl) (by simp only [Sp.cw]; omega) (fun j hj => by
        have hj : j = 0 ∨ j = 1 := by omega
        rcases hj with rfl | rfl <;> simp only [Sp.cw] <;> omega)
    by_cases g3 : z ≤ 8
    · exact hsm 3 (by omega) (by rw [hcl]; rw [if_neg (by omega), if_neg (by omega), if_neg (by omega), if_pos g3]; rfl) (by simp only [Sp.cw]; omega) (fun j hj => by
        have hj : j = 0 ∨ j = 1 ∨ j = 2 := by omega
        rcases hj with rfl | rfl | rfl <;> simp only [Sp.cw] <;> omega)
    by_cases g4 : z ≤ 12
    · exact hsm 4 (by omega) (by rw [hcl]; rw [if_neg (by omega), if_neg (by omega), if_neg (by omega), if_neg (by omega), if_pos g4]; rfl) (by simp only [Sp.cw]; omega) (fun j hj => by
        have hj : j = 0 ∨ j = 1 ∨ j = 2 ∨ j = 3 := by omega
        rcases hj with rfl | rfl | rfl | rfl <;> simp only [Sp.cw] <;> omega)
    by_cases g5 : z ≤ 16
    · exact hsm 5 (by omega) (by rw [hcl]; rw [if_neg (by omega), if_neg (by omega), if_neg (by omega), if_neg (by omega), if_neg (by omega), if_pos g5]; rfl) (by simp only [Sp.cw]; omega) (fun j hj => by
        have hj : j = 0 ∨ j = 1 ∨ j = 2 ∨ j = 3 ∨ j = 4 := by omega
        rcases hj with rfl | rfl | rfl | rfl | rfl <;> simp only [Sp.cw] <;> omega)
    by_cases g6 : z ≤ 20
    · exact hsm 6 (by omega) (by rw [hcl]; rw [if_neg (by omega), if_neg (by omega), if_neg (by omega), if_neg (by omega), if_neg (by omega), if_neg (by omega), if_pos g6]; rfl) (by simp only [Sp.cw]; omega) (fun j hj => by
        have hj : j = 0 ∨ j = 1 ∨ j = 2 ∨ j = 3 ∨ j = 4 ∨ j = 5 := by omega
        rcases hj with rfl | rfl | rfl | rfl | rfl | rfl <;> simp only [Sp.cw] <;> omega)
    by_cases g7 : z ≤ 32
    · exact hsm 7 (by omega) (by rw [hcl]; rw [if_neg (by omega), if_neg (by omega), if_neg (by omega), if_neg (by omega), if_neg (by omega), if_neg (by omega), if_neg (by omega), if_pos g7]; rfl) (by simp only [Sp.cw]; omega) (fun j hj => by
        have hj : j = 0 ∨ j = 1 ∨ j = 2 ∨ j = 3 ∨ j = 4 ∨ j = 5 ∨ j = 6 := by omega
        rcases hj with rfl | rfl | rfl | rfl | rfl | rfl | rfl <;> simp only [Sp.cw] <;> omega)
    omega

set_option maxRecDepth 8000 in
set_option maxHeartbeats 1600000 in
theorem classOf_any (z : Int) (h1 : 1 ≤ z) (h2 : z ≤ 1024) (w : World) :
    Calls Tryd.prog 21 #[.int .i64 z] w fun e w' => e = .returned (.tuple #[.int .i64 (Sp.cls z), .int .i64 (Sp.wide z), .int .i64 (Sp.bks (Sp.cls z))]) ∧ Still w w' := by
  have HW := Lib.hid (Sp.wide_of h1 h2)
  obtain ⟨B, hB⟩ : ∃ B, w.heap.size = B := ⟨_, rfl⟩
  generalize hv1 : Sp.cls z = v1 at *
  generalize hv2 : Sp.wide z = v2 at *
  generalize hv3 : Sp.bks v1 = v3 at *
  clear hv1 hv2 hv3
  have ha : z + 63 ≤ 9223372036854775807 := by omega
  go_enter Tryd.func21, Tryd.ntmps21
  go_wp2_with fail
  have hb := heap_alloc_new w (.cells #[.int .i64 2, .int .i64 4, .int .i64 6, .int .i64 8, .int .i64 12, .int .i64 16, .int .i64 20, .int .i64 32] 3)
  have hs : Still w (w.alloc (.cells #[.int .i64 2, .int .i64 4, .int .i64 6, .int .i64 8, .int .i64 12, .int .i64 16, .int .i64 20, .int .i64 32] 3)) := (Only.refl _ _ w).alloc _
  rw [hB] at *
  generalize w.alloc (.cells #[.int .i64 2, .int .i64 4, .int .i64 6, .int .i64 8, .int .i64 12, .int .i64 16, .int .i64 20, .int .i64 32] 3) = w1 at *
  have HS := Lib.hid hs
  have HB := Lib.hid hb
  have c0 := cell_of (v := .int .i64 2) hb 0 rfl
  have c1 := cell_of (v := .int .i64 4) hb 1 rfl
  have c2 := cell_of (v := .int .i64 6) hb 2 rfl
  have c3 := cell_of (v := .int .i64 8) hb 3 rfl
  have c4 := cell_of (v := .int .i64 12) hb 4 rfl
  have c5 := cell_of (v := .int .i64 16) hb 5 rfl
  have c6 := cell_of (v := .int .i64 20) hb 6 rfl
  have c7 := cell_of (v := .int .i64 32) hb 7 rfl
  have lb := (Array.getElem?_eq_some_iff.1 hb).1
  clear hs hb
  go_loopw [6] (fun y wr => ∃ i : Nat, y = .int .i64 (i : Int) ∧ i ≤ 8 ∧ (∀ j, j < i → (Sp.cw j : Int) < z) ∧ wr = w1) (fun y _ => 9 - (intOf y).toNat)
  case atStart => exact ⟨0, rfl, by omega, fun j hj => by omega, rfl⟩
  case round =>
    obtain ⟨i, rfl, hi, hb, rfl⟩ := hrel
    have HB := Lib.hid hb; clear hb
    have hc : i = 0 ∨ i = 1 ∨ i = 2 ∨ i = 3 ∨ i = 4 ∨ i = 5 ∨ i = 6 ∨ i = 7 ∨ i = 8 := by omega
    rcases hc with rfl | rfl | rfl | rfl | rfl | rfl | rfl | rfl | rfl
    · by_cases h : z ≤ 2
      · have hr : v1 = 0 ∧ v2 = 2 ∧ v3 = 32 := by
          rcases HW.out with ⟨g, _⟩ | ⟨c, gc, _, g1, g2, g3, g4, g5⟩
          · omega
          · have hcc : c = 0 := by
              rcases Nat.lt_trichotomy c 0 with hlt | he | hgt
              · have := HB.out c hlt; omega
              · exact he
              · have := g5 0 hgt; simp only [Sp.cw] at this; omega
            subst hcc
            exact ⟨g1, g2, g3⟩
        obtain ⟨rfl, rfl, rfl⟩ := hr
        go_wp2_with fail
        go_quiet (fail)
        go_wp2_with fail
        go_ret3
        exact ⟨rfl, HS.out.drewN _⟩
      · have HN := Lib.hid h
        go_wp2_with fail
        go_roundw
        case rel => exact ⟨1, rfl, by omega, fun j hj => by
          by_cases hj2 : j < 0
          · exact HB.out j hj2
          · obtain rfl : j = 0 := by omega
            show (2 : Int) < z
            have := HN.out
            omega, by first | rfl | trivial⟩
        case measure => simp [intOf]
    · by_cases h : z ≤ 4
      · have hr : v1 = 1 ∧ v2 = 4 ∧ v3 = 16 := by
          rcases HW.out with ⟨g, _⟩ | ⟨c, gc, _, g1, g2, g3, g4, g5⟩
          · omega
          · have hcc : c = 1 := by
              rcases Nat.lt_trichotomy c 1 with hlt | he | hgt
              · have := HB.out c hlt; omega
              · exact he
              · have := g5 1 hgt; simp only [Sp.cw] at this; omega
            subst hcc
            exact ⟨g1, g2, g3⟩
        obtain ⟨rfl, rfl, rfl⟩ := hr
        go_wp2_with fail
        go_quiet (fail)
        go_wp2_with fail
        go_ret3
        exact ⟨rfl, HS.out.drewN _⟩
      · have HN := Lib.hid h
        go_wp2_with fail
        go_roundw
        case rel => exact ⟨2, rfl, by omega, fun j hj => by
          by_cases hj2 : j < 1
          · exact HB.out j hj2
          · obtain rfl : j = 1 := by omega
            show (4 : Int) < z
            have := HN.out
            omega, by first | rfl | trivial⟩
        case measure => simp [intOf]
    · by_cases h : z ≤ 6
      · have hr : v1 = 2 ∧ v2 = 6 ∧ v3 = 10 := by
          rcases HW.out with ⟨g, _⟩ | ⟨c, gc, _, g1, g2, g3, g4, g5⟩
          · omega
          · have hcc : c = 2 := by
              rcases Nat.lt_trichotomy c 2 with hlt | he | hgt
              · have := HB.out c hlt; omega
              · exact he
              · have := g5 2 hgt; simp only [Sp.cw] at this; omega
            subst hcc
            exact ⟨g1, g2, g3⟩
        obtain ⟨rfl, rfl, rfl⟩ := hr
        go_wp2_with fail
        go_quiet (fail)
        go_wp2_with fail
        go_ret3
        exact ⟨rfl, HS.out.drewN _⟩
      · have HN := Lib.hid h
        go_wp2_with fail
        go_roundw
        case rel => exact ⟨3, rfl, by omega, fun j hj => by
          by_cases hj2 : j < 2
          · exact HB.out j hj2
          · obtain rfl : j = 2 := by omega
            show (6 : Int) < z
            have := HN.out
            omega, by first | rfl | trivial⟩
        case measure => simp [intOf]
    · by_cases h : z ≤ 8
      · have hr : v1 = 3 ∧ v2 = 8 ∧ v3 = 8 := by
          rcases HW.out with ⟨g, _⟩ | ⟨c, gc, _, g1, g2, g3, g4, g5⟩
          · omega
          · have hcc : c = 3 := by
              rcases Nat.lt_trichotomy c 3 with hlt | he | hgt
              · have := HB.out c hlt; omega
              · exact he
              · have := g5 3 hgt; simp only [Sp.cw] at this; omega
            subst hcc
            exact ⟨g1, g2, g3⟩
        obtain ⟨rfl, rfl, rfl⟩ := hr
        go_wp2_with fail
        go_quiet (fail)
        go_wp2_with fail
        go_ret3
        exact ⟨rfl, HS.out.drewN _⟩
      · have HN := Lib.hid h
        go_wp2_with fail
        go_roundw
        case rel => exact ⟨4, rfl, by omega, fun j hj => by
          by_cases hj2 : j < 3
          · exact HB.out j hj2
          · obtain rfl : j = 3 := by omega
            show (8 : Int) < z
            have := HN.out
            omega, by first | rfl | trivial⟩
        case measure => simp [intOf]
    · by_cases h : z ≤ 12
      · have hr : v1 = 4 ∧ v2 = 12 ∧ v3 = 5 := by
          rcases HW.out with ⟨g, _⟩ | ⟨c, gc, _, g1, g2, g3, g4, g5⟩
          · omega
          · have hcc : c = 4 := by
              rcases Nat.lt_trichotomy c 4 with hlt | he | hgt
              · have := HB.out c hlt; omega
              · exact he
              · have := g5 4 hgt; simp only [Sp.cw] at this; omega
            subst hcc
            exact ⟨g1, g2, g3⟩
        obtain ⟨rfl, rfl, rfl⟩ := hr
        go_wp2_with fail
        go_quiet (fail)
        go_wp2_with fail
        go_ret3
        exact ⟨rfl, HS.out.drewN _⟩
      · have HN := Lib.hid h
        go_wp2_with fail
        go_roundw
        case rel => exact ⟨5, rfl, by omega, fun j hj => by
          by_cases hj2 : j < 4
          · exact HB.out j hj2
          · obtain rfl : j = 4 := by omega
            show (12 : Int) < z
            have := HN.out
            omega, by first | rfl | trivial⟩
        case measure => simp [intOf]
    · by_cases h : z ≤ 16
      · have hr : v1 = 5 ∧ v2 = 16 ∧ v3 = 4 := by
          rcases HW.out with ⟨g, _⟩ | ⟨c, gc, _, g1, g2, g3, g4, g5⟩
          · omega
          · have hcc : c = 5 := by
              rcases Nat.lt_trichotomy c 5 with hlt | he | hgt
              · have := HB.out c hlt; omega
              · exact he
              · have := g5 5 hgt; simp only [Sp.cw] at this; omega
            subst hcc
            exact ⟨g1, g2, g3⟩
        obtain ⟨rfl, rfl, rfl⟩ := hr
        go_wp2_with fail
        go_quiet (fail)
        go_wp2_with fail
        go_ret3
        exact ⟨rfl, HS.out.drewN _⟩
      · have HN := Lib.hid h
        go_wp2_with fail
        go_roundw
        case rel => exact ⟨6, rfl, by omega, fun j hj => by
          by_cases hj2 : j < 5
          · exact HB.out j hj2
          · obtain rfl : j = 5 := by omega
            show (16 : Int) < z
            have := HN.out
            omega, by first | rfl | trivial⟩
        case measure => simp [intOf]
    · by_cases h : z ≤ 20
      · have hr : v1 = 6 ∧ v2 = 20 ∧ v3 = 3 := by
          rcases HW.out with ⟨g, _⟩ | ⟨c, gc, _, g1, g2, g3, g4, g5⟩
          · omega
          · have hcc : c = 6 := by
              rcases Nat.lt_trichotomy c 6 with hlt | he | hgt
              · have := HB.out c hlt; omega
              · exact he
              · have := g5 6 hgt; simp only [Sp.cw] at this; omega
            subst hcc
            exact ⟨g1, g2, g3⟩
        obtain ⟨rfl, rfl, rfl⟩ := hr
        go_wp2_with fail
        go_quiet (fail)
        go_wp2_with fail
        go_ret3
        exact ⟨rfl, HS.out.drewN _⟩
      · have HN := Lib.hid h
        go_wp2_with fail
        go_roundw
        case rel => exact ⟨7, rfl, by omega, fun j hj => by
          by_cases hj2 : j < 6
          · exact HB.out j hj2
          · obtain rfl : j = 6 := by omega
            show (20 : Int) < z
            have := HN.out
            omega, by first | rfl | trivial⟩
        case measure => simp [intOf]
    · by_cases h : z ≤ 32
      · have hr : v1 = 7 ∧ v2 = 32 ∧ v3 = 2 := by
          rcases HW.out with ⟨g, _⟩ | ⟨c, gc, _, g1, g2, g3, g4, g5⟩
          · omega
          · have hcc : c = 7 := by
              rcases Nat.lt_trichotomy c 7 with hlt | he | hgt
              · have := HB.out c hlt; omega
              · exact he
              · have := g5 7 hgt; simp only [Sp.cw] at this; omega
            subst hcc
            exact ⟨g1, g2, g3⟩
        obtain ⟨rfl, rfl, rfl⟩ := hr
        go_wp2_with fail
        go_quiet (fail)
        go_wp2_with fail
        go_ret3
        exact ⟨rfl, HS.out.drewN _⟩
      · have HN := Lib.hid h
        go_wp2_with fail
        go_roundw
        case rel => exact ⟨8, rfl, by omega, fun j hj => by
          by_cases hj2 : j < 7
          · exact HB.out j hj2
          · obtain rfl : j = 7 := by omega
            show (32 : Int) < z
            have := HN.out
            omega, by first | rfl | trivial⟩
        case measure => simp [intOf]
    · have hr : v1 = 8 ∧ v2 = (z + 63) / 64 * 64 ∧ v3 = 0 := by
        rcases HW.out with ⟨g, g1, g2, g3⟩ | ⟨c, gc, g0, g1, g2, g3, g4, g5⟩
        · exact ⟨g1, g2, g3⟩
        · have := HB.out 7 (by omega); simp only [Sp.cw] at this; omega
      obtain ⟨rfl, rfl, rfl⟩ := hr
      go_wp2_with fail
      go_ret3
      exact ⟨rfl, HS.out⟩
end Go.Proofs.YtiniadochjeieaaDoor

namespace Go.Proofs.YtiniadochjeieaaDoor
open Go Go.RowKit

/-- Of each word the number of the first k objects in whose room it lies; -1: none. -/
def ownTo (os : List Ob) : Nat → Nat → Int
  | 0, _ => -1
  | k + 1, x => if (os.getD k ob0).at' ≤ x ∧ x < (os.getD k ob0).at' + (Sp.wide (os.getD k ob0).sh.z).toNat then (k : Int) else ownTo os k x
/-- And j words of the next one. -/
def ownIn (os : List Ob) (k j x : Nat) : Int := if (os.getD k ob0).at' ≤ x ∧ x < (os.getD k ob0).at' + j then (k : Int) else ownTo os k x
theorem ownIn_zero (os : List Ob) (k : Nat) : ownIn os k 0 = ownTo os k := by funext x; unfold ownIn; rw [if_neg (by omega)]
theorem ownIn_succ (os : List Ob) (k j : Nat) : setW (ownIn os k j) ((os.getD k ob0).at' + j) (k : Int) = ownIn os k (j + 1) := by
  funext x
  unfold setW ownIn
  by_cases h : x = (os.getD k ob0).at' + j
  · rw [if_pos h, if_pos (by omega)]
  · rw [if_neg h]
    by_cases h2 : (os.getD k ob0).at' ≤ x ∧ x < (os.getD k ob0).at' + j
    · rw [if_pos h2, if_pos (by omega)]
    · rw [if_neg h2, if_neg (by omega)]
theorem Agree.ob {s : St} {os : List Ob} (h : Agree s os) {k : Nat} (hk : k < os.length) : s.B 0 (os.getD k ob0).at' = true ∧ s.sh (os.getD k ob0).at' = (os.getD k ob0).sh := by
  exact h.here _ (getD_mem os k hk)
theorem Agree.ne {s : St} {os : List Ob} (h : Agree s os) {i k : Nat} (hi : i < os.length) (hk : k < os.length) (hik : i ≠ k) : (os.getD i ob0).at' ≠ (os.getD k ob0).at' := by
  have hn := h.once
  have e1 : (os.map Ob.at')[i]? = some (os.getD i ob0).at' := by simp [hi]
  have e2 : (os.map Ob.at')[k]? = some (os.getD k ob0).at' := by simp [hk]
  intro e
  exact hik ((List.getElem?_inj (by simpa using hi) hn).1 (by rw [e1, e2, e]))
/-- Rooms of two objects do not meet. -/
theorem St.InvX.apart {s : St} (h : s.Inv) {a b : Nat} (ha : s.B 0 a = true) (hb : s.B 0 b = true) (hab : a ≠ b) : b + (Sp.wide (s.sh b).z).toNat ≤ a ∨ a + (Sp.wide (s.sh a).z).toNat ≤ b := by
  have h1 := (h.obj a ha).2
  have h2 := (h.obj b hb).2
  have g1 := h1.apart h2.beg (fun e => hab e.symm)
  have g2 := h2.apart h1.beg hab
  omega
theorem ownTo_neg {s : St} {os : List Ob} (hi : s.Inv) (ha : Agree s os) {k x : Nat} (hk : k < os.length) (h1 : (os.getD k ob0).at' ≤ x) (h2 : x < (os.getD k ob0).at' + (Sp.wide (os.getD k ob0).sh.z).toNat) : ∀ i, i ≤ k → ownTo os i x = -1
  | 0, _ => rfl
  | i + 1, h => by
    have o1 := ha.ob hk
    have o2 := ha.ob (k := i) (by omega)
    have hne := ha.ne (i := i) (k := k) (by omega) hk (by omega)
    have := hi.apart o2.1 o1.1 hne
    rw [o1.2, o2.2] at this
    show (if _ then _ else _) = _
    rw [if_neg (by omega)]
    exact ownTo_neg hi ha hk h1 h2 i (by omega)
theorem ownIn_neg {s : St} {os : List Ob} (hi : s.Inv) (ha : Agree s os) {k j : Nat} (hk : k < os.length) (hj : j < (Sp.wide (os.getD k ob0).sh.z).toNat) : ownIn os k j ((os.getD k ob0).at' + j) = -1 := by
  unfold ownIn
  rw [if_neg (by omega)]
  exact ownTo_neg hi ha hk (by omega) (by omega) k (Nat.le_refl _)
theorem make_words (N : Nat) (hN : N ≤ 1000000) (w : World) : (Instr.makeSlice 41 (.int .i64 (N : Int)) (.int .i64 (N : Int))).run Tryd.prog w = .ok (.slice (some ⟨w.heap.size, 0, none⟩) N N) (w.alloc (.cells (wdCells (fun _ => 0) N) 3)) := by
  obtain ⟨i0, hi, hz0, hz1, hz2⟩ := info_parts Tryd.infoI2
  have hmk := run_make (P := Tryd.prog) w 41 3 i0 (.int .i64 0) Tryd.underlying41 hi hz0 .i64 .i64 (N : Int) (N : Int) (by omega) (Int.le_refl _) (by rw [hz2]; omega) (by omega)
  rw [hz1, show ((N : Int)).toNat = N by omega, show (Value.int IntKind.i64 0).cells = #[Value.int IntKind.i64 0] from rfl, Nat.mul_one, made_words] at hmk
  exact hmk
/-- Words while they are filled with -1. -/
def negTo (i : Nat) (x : Nat) : Int := if x < i then -1 else 0
theorem negTo_zero : negTo 0 = fun _ => 0 := by funext x; unfold negTo; rw [if_neg (by omega)]
theorem negTo_succ (i : Nat) : setW (negTo i) i (-1) = negTo (i + 1) := by
  funext x
  unfold setW negTo
  by_cases h : x = i
  · rw [if_pos h, if_pos (by omega)]
  · rw [if_neg h]
    by_cases h2 : x < i
    · rw [if_pos h2, if_pos (by omega)]
    · rw [if_neg h2, if_neg (by omega)]
theorem wd_congr {f g : Nat → Int} {N : Nat} (h : ∀ x, x < N → f x = g x) : wdCells f N = wdCells g N := by
  apply Array.ext_getElem?
  intro j
  by_cases hj : j < N
  · rw [wd_at _ N j hj, wd_at _ N j hj, h j hj]
  · rw [Array.getElem?_eq_none (by simp [wd_size]; omega), Array.getElem?_eq_none (by simp [wd_size]; omega)]
set_option maxRecDepth 100000 in
set_option maxHeartbeats 3200000 in
theorem owner_any (w : World) (L : Lay) (s : St) (wb : Nat) (os : List Ob) (v : Value) (hW : Wld w L s wb os v) (hl : os.length ≤ 1000000) (Q : Ending → World → Prop)
    (hQ : ∀ w', Still w w' → w.heap.size < w'.heap.size → WordsAt w' w.heap.size (64 * s.n) (ownTo os os.length) → Q (.returned (.slice (some ⟨w.heap.size, 0, none⟩) (64 * s.n) (64 * s.n))) w') :
    Calls Tryd.prog 20 #[.pointer (some ⟨wb, 0, none⟩)] w Q := by
  have HQ := Lib.hid hQ
  have HW := Lib.hid hW
  have c0 := hW.c0
  have hwl := hW.lt
  have hn2 := hW.sp.n2
  obtain ⟨ao, cp, hv⟩ : ∃ ao cp, v = .slice ao os.length cp := by
    rcases hW.row.2 with ⟨h1, h2⟩ | ⟨g, cap, cur, h1, _⟩
    · rw [h2]; exact ⟨_, _, h1⟩
    · exact ⟨_, _, h1⟩
  subst hv
  obtain ⟨n, hn⟩ : ∃ n, os.length = n := ⟨_, rfl⟩
  have HN := Lib.hid hn
  obtain ⟨N, hNN⟩ : ∃ N, 64 * s.n = N := ⟨_, rfl⟩
  have HNN := Lib.hid hNN
  obtain ⟨B, hB⟩ : ∃ B, w.heap.size = B := ⟨_, rfl⟩
  have HB := Lib.hid hB
  have hmul : IntKind.i64.wrap (64 * (s.n : Int)) = (N : Int) := by rw [IntKind.wrap_i64]; omega
  have hN0 : N ≤ 262144 := by omega
  have hNI : (N : Int) ≤ 262144 := by omega
  have hnI : (n : Int) ≤ 1000000 := by omega
  have HMK := Lib.hid (make_words N (by omega))
  have hmk := HMK.out w
  rw [hn, hNN, hB] at HQ
  rw [hB] at hmk
  clear hQ hW hn hNN
  go_enter Tryd.func20, Tryd.ntmps20
  go_wp2_with fail
  have hb := heap_alloc_new w (.cells (wdCells (fun _ => 0) N) 3)
  have hs1 : Still w (w.alloc (.cells (wdCells (fun _ => 0) N) 3)) := (Only.refl _ _ w).alloc _
  rw [← negTo_zero] at *
  rw [hB] at hb
  generalize w.alloc (.cells (wdCells (negTo 0) N) 3) = w1 at *
  have HS1 := Lib.hid hs1
  have HB1 : Hid (WordsAt w1 B N (negTo 0)) := Lib.hid hb
  clear hb hs1 hmk HMK
  go_loopw [4] (fun y wr => ∃ i : Nat, y = .int .i64 (i : Int) ∧ i ≤ N ∧ Still w wr ∧ WordsAt wr B N (negTo i)) (fun y _ => N + 1 - (intOf y).toNat)
  case atStart => exact ⟨0, rfl, Nat.zero_le _, HS1.out, HB1.out⟩
  case round =>
    obtain ⟨i, rfl, hi, hst, hwd⟩ := hrel
    have HST := Lib.hid hst
    have HWD := Lib.hid hwd
    have hf := hwd.frozen i
    have hlt := hwd.lt
    have hi0 : (0 : Int) ≤ (i : Int) := by omega
    by_cases hiN : i < N
    · have hiI : (i : Int) < (N : Int) := by omega
      have hc := hwd.cell i hiN
      clear hst hwd
      go_wp2_with fail
      go_roundw
      case rel => exact ⟨i + 1, by go_num, hiN, HST.out.setCell (p := ⟨B, i, none⟩) (.inr (by show w.heap.size ≤ B; omega)) _, by rw [← negTo_succ]; exact HWD.out.set i (-1)⟩
      case measure => simp [intOf]; omega
    · obtain rfl : i = N := by omega
      have HW0 : Hid (WordsAt wr B i (ownTo os 0)) := Lib.hid (by
        have e := wd_congr (f := negTo i) (g := ownTo os 0) (N := i) (fun x hx => by unfold negTo; rw [if_pos hx]; rfl)
        unfold WordsAt
        rw [← e]
        exact HWD.out)
      have e0 := (HW.out.still hst).c2
      have el := (HW.out.still hst).lt
      clear hst hwd hf hlt HWD HS1 HB1
      generalize i = N at *
      go_wp2_with fail
      go_loopw [5] (fun y wx => ∃ k : Nat, y = .int .i64 (k : Int) ∧ k ≤ n ∧ Still w wx ∧ WordsAt wx B N (ownTo os k)) (fun y _ => n + 1 - (intOf y).toNat)
      case atStart => exact ⟨0, rfl, Nat.zero_le _, HST.out, HW0.out⟩
      case round =>
        obtain ⟨k, rfl, hk, hst, hwd⟩ := hrel
        have HST2 := Lib.hid hst
        have HWD2 := Lib.hid hwd
        have hk0 : (0 : Int) ≤ (k : Int) := by omega
        have hW3 := HW.out.still hst
        have d2 := hW3.c2
        have dl := hW3.lt
        rw [HN.out] at d2
        by_cases hkn : k < n
        · have hkI : (k : Int) < (n : Int) := by omega
          obtain ⟨g, rfl, hgh, hgl, hgc⟩ := HW.out.at (by rw [HN.out]; omega)
          have hcell : ∀ wz, Still w wz → ∀ c, c < 5 → wz.cell? ⟨g, k * 5 + c, none⟩ = (os.getD k ob0).cells[c]? := fun wz hz c hc => by
            rw [hz.cell (p := ⟨g, k * 5 + c, none⟩) hgl (.inl hgl)]
            exact hgc k c (by rw [HN.out]; exact hkn) hc
          have hgl2 : ∀ wz, Still w wz → g < wz.heap.size := fun wz hz => Nat.lt_of_lt_of_le hgl hz.size
          have hob := HW.out.agree.ob (k := k) (by rw [HN.out]; exact hkn)
          have hfine := HW.out.inv.obj _ hob.1
          rw [hob.2] at hfine
          have hneg : ∀ j, j < (Sp.wide (os.getD k ob0).sh.z).toNat → ownIn os k j ((os.getD k ob0).at' + j) = -1 := fun j hj => ownIn_neg HW.out.inv HW.out.agree (by rw [HN.out]; exact hkn) hj
          obtain ⟨o, ho⟩ : ∃ o, os.getD k ob0 = o := ⟨_, rfl⟩
          have hfa := hfine.1
          unfold St.FineAt at hfa
          rw [hob.2] at hfa
          have hroom := hfine.2.lt.1
          rw [ho] at hcell hfa hroom hneg
          have HO := Lib.hid ho
          obtain ⟨z, hz⟩ : ∃ z, o.sh.z = z := ⟨_, rfl⟩
          rw [hz] at hfa hroom hneg
          have a2 : wr.cell? ⟨g, k * 5 + 2, none⟩ = some (.int .i64 z) := by rw [← hz]; exact hcell _ hst 2 (by omega)
          have hz1 : 1 ≤ z := by omega
          have hz2 : z ≤ 1024 := by omega
          have hgl3 := hgl2 _ hst
          have hwl := Sp.wide_le z
          obtain ⟨R, hR⟩ : ∃ R : Nat, Sp.wide z = (R : Int) := ⟨(Sp.wide z).toNat, by omega⟩
          have HR := Lib.hid hR
          have HZ := Lib.hid hz
          have HCO := Lib.hid (classOf_any z hz1 hz2 wr)
          rw [hR] at hneg hroom HCO
          rw [Int.toNat_natCast] at hneg hroom
          have hR2 : (R : Int) ≤ 1024 := by omega
          obtain ⟨at0, hat⟩ : ∃ at0, o.at' = at0 := ⟨_, rfl⟩
          rw [hat] at hneg hroom
          have HAT := Lib.hid hat
          rw [HNN.out] at hroom
          have HNEG := Lib.hid hneg
          have HCELL := Lib.hid hcell
          have HGL := Lib.hid hgl2
          have HROOM := Lib.hid hroom
          clear hst hwd hneg hcell hgc hgh hgl hgl2 hob hfine hfa hroom hz hR hwl ho hat e0 el HW0 hW3 hz1 hz2
          obtain ⟨v1, hv1⟩ : ∃ v1, Sp.cls z = v1 := ⟨_, rfl⟩
          obtain ⟨v3, hv3⟩ : ∃ v3, Sp.bks v1 = v3 := ⟨_, rfl⟩
          rw [hv1, hv3] at HCO
          clear hv1 hv3
          go_wp2_with fail
          refine HCO.out.mono ?_
          rintro e w5 ⟨rfl, hs5⟩
          have HST5 := Lib.hid (Still.trans HST2.out hs5)
          have HWD5 : Hid (WordsAt w5 B N (ownIn os k 0)) := Lib.hid (by rw [ownIn_zero]; exact HWD2.out.kept hs5 (.inl HWD2.out.lt))
          clear hs5 HCO a2 hgl3 d2 dl
          go_wp2_with fail
          go_loopw [9] (fun y wx => ∃ j : Nat, y = .int .i64 (j : Int) ∧ j ≤ R ∧ Still w wx ∧ WordsAt wx B N (ownIn os k j)) (fun y _ => R + 1 - (intOf y).toNat)
          case atStart => exact ⟨0, rfl, Nat.zero_le _, HST5.out, HWD5.out⟩
          case round =>
            obtain ⟨j, rfl, hj, hst6, hwd6⟩ := hrel
            have HST6 := Lib.hid hst6
            have HWD6 := Lib.hid hwd6
            have hj0 : (0 : Int) ≤ (j : Int) := by omega
            by_cases hjR : j < R
            · have hjI : (j : Int) < (R : Int) := by omega
              have hW6 := HW.out.still hst6
              have d2 := hW6.c2
              have dl := hW6.lt
              rw [HN.out] at d2
              have a0 : wr.cell? ⟨g, k * 5, none⟩ = some (.int .i64 (at0 : Int)) := by rw [← HAT.out]; exact HCELL.out _ hst6 0 (by omega)
              have gl := HGL.out _ hst6
              have hwc := hwd6.cell (at0 + j) (by have := HROOM.out; omega)
              rw [HNEG.out j hjR] at hwc
              have hwf := hwd6.frozen (at0 + j)
              have hwl := hwd6.lt
              have hadd : IntKind.i64.wrap ((at0 : Int) + (j : Int)) = ((at0 + j : Nat) : Int) := by rw [IntKind.wrap_i64]; have := HROOM.out; omega
              have hle1 : at0 + j < N := by have := HROOM.out; omega
              clear hst6 hwd6 hW6
              obtain ⟨x, hx⟩ : ∃ x, at0 + j = x := ⟨_, rfl⟩
              have HX := Lib.hid hx
              rw [hx] at hwc hwf hadd hle1
              have hx0 : (0 : Int) ≤ (x : Int) := by omega
              have hxN : (x : Int) < (N : Int) := by omega
              have hd1 : decide ((x : Int) < 0) = false := decide_eq_false (by omega)
              have hd2 : decide ((N : Int) ≤ (x : Int)) = false := decide_eq_false (by omega)
              have hd3 : decide (N ≤ x) = false := decide_eq_false (by omega)
              clear hx
              go_wp2_with fail
              go_roundw
              case rel => exact ⟨j + 1, by go_num, hjR, HST6.out.setCell (p := ⟨B, x, none⟩) (.inr (by show w.heap.size ≤ B; omega)) _, by rw [← ownIn_succ, HO.out, HAT.out, HX.out]; exact HWD6.out.set x (k : Int)⟩
              case measure => simp [intOf]; omega
            · obtain rfl : j = R := by omega
              clear hst6 hwd6
              go_wp2_with fail
              refine ⟨⟨k + 1, by go_num, hkn, HST6.out, ?_⟩, by simp [intOf]; omega⟩
              have e : ownTo os (k + 1) = ownIn os k j := by
                funext x
                show (if _ then _ else _) = _
                rw [HO.out, HZ.out, HR.out, Int.toNat_natCast]
                unfold ownIn
                rw [HO.out]
              rw [e]
              exact HWD6.out
        · obtain rfl : k = n := by omega
          clear hst hwd hW3 e0 el
          go_wp2_with fail
          exact HQ.out _ HST2.out (Nat.lt_of_le_of_lt (by omega) HWD2.out.lt) HWD2.out
end Go.Proofs.YtiniadochjeieaaDoor

namespace Go.Proofs.YtiniadochjeieaaDoor
open Go Go.RowKit

theorem getD_el (l : List Ob) (i : Nat) (h : i < l.length) : l.getD i ob0 = l[i] := by simp [h]
/-- Nothing is wrong. -/
theorem St.InvX.good {s : St} (h : s.Inv) (i : Nat) : ¬s.badTo 8 i := by
  rintro (⟨h1, h2⟩ | ⟨c, hc, h1, h2⟩)
  · exact h2 (h.hdr i h1)
  · exact h2 (h.lnk c hc i h1)
theorem St.InvX.least {s : St} (h : s.Inv) {m : Nat} (hm : Least (s.badTo 8) (64 * s.n) m) : m = 64 * s.n := by
  rcases Nat.lt_or_ge m (64 * s.n) with h1 | h1
  · exact absurd (hm.2.2 h1) (h.good m)
  · have := hm.1; omega
theorem St.mem_blk (s : St) (o : Ob) : ∀ a, o ∈ s.blk a ↔ o.at' < a ∧ s.B 0 o.at' = true ∧ o.sh = s.sh o.at'
  | 0 => by
    constructor
    · intro h; cases h
    · intro h; omega
  | a + 1 => by
    have ih := s.mem_blk o a
    show o ∈ (if s.B 0 a then _ else _) ↔ _
    by_cases hb : s.B 0 a = true
    · rw [if_pos hb, List.mem_append, ih]
      constructor
      · rintro (⟨h1, h2, h3⟩ | h1)
        · exact ⟨by omega, h2, h3⟩
        · rw [List.mem_singleton.1 h1]
          exact ⟨by show a < a + 1; omega, hb, rfl⟩
      · rintro ⟨h1, h2, h3⟩
        by_cases e : o.at' = a
        · refine .inr (List.mem_singleton.2 ?_)
          show o = (⟨a, s.sh a⟩ : Ob)
          rw [← e, ← h3]
        · exact .inl ⟨by omega, h2, h3⟩
    · rw [if_neg hb, ih]
      constructor
      · rintro ⟨h1, h2, h3⟩
        exact ⟨by omega, h2, h3⟩
      · rintro ⟨h1, h2, h3⟩
        refine ⟨?_, h2, h3⟩
        by_cases e : o.at' = a
        · rw [e] at h2; exact absurd h2 hb
        · omega
theorem St.blk_up (s : St) : ∀ a, (s.blk a).Pairwise (fun x y => x.at' < y.at')
  | 0 => List.Pairwise.nil
  | a + 1 => by
    have ih := s.blk_up a
    show (if s.B 0 a then _ else _ : List Ob).Pairwise _
    by_cases hb : s.B 0 a = true
    · rw [if_pos hb]
      refine List.pairwise_append.2 ⟨ih, List.pairwise_singleton _ _, fun x hx y hy => ?_⟩
      rw [List.mem_singleton.1 hy]
      exact ((s.mem_blk x a).1 hx).1
    · rw [if_neg hb]; exact ih
/-- Blocks tells by rising places. -/
theorem St.blks_up (s : St) (i : Nat) (h : i + 1 < s.blks.length) : (s.blks.getD i ob0).at' < (s.blks.getD (i + 1) ob0).at' := by
  have := List.pairwise_iff_getElem.1 (s.blk_up (64 * s.n)) i (i + 1) (by unfold St.blks at h; omega) (by unfold St.blks at h; omega) (by omega)
  unfold St.blks at h ⊢
  rw [getD_el _ _ h, getD_el _ _ (by omega)]
  exact this
theorem Agree.inj {s : St} {os : List Ob} (h : Agree s os) {o p : Ob} (ho : o ∈ os) (hp : p ∈ os) (e : o.at' = p.at') : o = p := by
  have h1 := (h.here o ho).2
  have h2 := (h.here p hp).2
  obtain ⟨x, y⟩ := o
  obtain ⟨x', y'⟩ := p
  cases e
  dsimp only at h1 h2
  rw [h1] at h2
  cases h2
  rfl
/-- There are just as many as the law knows. -/
theorem blks_len {s : St} {os : List Ob} (hi : s.Inv) (ha : Agree s os) : s.blks.length = os.length := by
  have h1 : s.blks.Nodup := by
    unfold St.blks
    refine (s.blk_up _).imp fun h e => ?_
    rw [e] at h; omega
  have h2 : os.Nodup := by
    have := ha.once
    rw [List.nodup_iff_pairwise_ne] at this ⊢
    exact (List.pairwise_map.1 this).imp fun h e => h (by rw [e])
  refine ((List.perm_ext_iff_of_nodup h1 h2).2 fun o => ?_).length_eq
  unfold St.blks
  rw [s.mem_blk]
  constructor
  · rintro ⟨_, h4, h5⟩
    obtain ⟨p, hp, e⟩ := ha.all _ h4
    have h6 := (ha.here p hp).2
    obtain ⟨x, y⟩ := o
    obtain ⟨x', y'⟩ := p
    cases e
    dsimp only at h5 h6
    rw [h6] at h5
    cases h5
    exact hp
  · intro ho
    have h3 := ha.here o ho
    exact ⟨(hi.obj _ h3.1).2.lt.2, h3.1, h3.2.symm⟩
/-- Where an object lies within its page. -/
theorem St.InvX.place {s : St} (h : s.Inv) {a : Nat} (ha : s.B 0 a = true) :
    (Sp.cls (s.sh a).z < 8 ∧ 0 < Sp.wide (s.sh a).z ∧ ((a : Int) % 64) % Sp.wide (s.sh a).z = 0 ∧ (a : Int) % 64 + Sp.wide (s.sh a).z ≤ 64) ∨ (Sp.cls (s.sh a).z = 8 ∧ (a : Int) % 64 = 0) := by
  rcases (h.obj a ha).2 with ⟨c, hc, e, p, i, hp, hi, ea, hP⟩ | ⟨e, p, ea, hr⟩
  · left
    rw [Sp.wide_blk hc e, e]
    have hpg := blk_page hc hi ea
    have hw : 0 < Sp.cw c := by
      have h8 : c = 0 ∨ c = 1 ∨ c = 2 ∨ c = 3 ∨ c = 4 ∨ c = 5 ∨ c = 6 ∨ c = 7 := by omega
      rcases h8 with rfl | rfl | rfl | rfl | rfl | rfl | rfl | rfl <;> decide
    have hm : a % 64 = i * Sp.cw c := by omega
    have hm2 : (a : Int) % 64 = ((i * Sp.cw c : Nat) : Int) := by omega
    refine ⟨by omega, by omega, ?_, ?_⟩
    · rw [hm2]
      have : (i * Sp.cw c) % Sp.cw c = 0 := Nat.mul_mod_left _ _
      omega
    · omega
  · right
    exact ⟨e, by omega⟩
/-- The serials of the first k objects that have one. -/
def srsTo (os : List Ob) : Nat → List Nat
  | 0 => []
  | k + 1 => if 0 < (os.getD k ob0).sh.s then srsTo os k ++ [(os.getD k ob0).sh.s.toNat] else srsTo os k
theorem mem_srs (os : List Ob) (x : Nat) : ∀ k, x ∈ srsTo os k ↔ ∃ j, j < k ∧ 0 < (os.getD j ob0).sh.s ∧ (os.getD j ob0).sh.s = (x : Int)
  | 0 => by
    constructor
    · intro h; cases h
    · rintro ⟨j, hj, _⟩; omega
  | k + 1 => by
    have ih := mem_srs os x k
    show x ∈ (if _ then _ else _) ↔ _
    by_cases hp : 0 < (os.getD k ob0).sh.s
    · rw [if_pos hp, List.mem_append, ih]
      constructor
      · rintro (⟨j, h1, h2⟩ | h1)
        · exact ⟨j, by omega, h2⟩
        · have := List.mem_singleton.1 h1
          exact ⟨k, by omega, hp, by omega⟩
      · rintro ⟨j, h1, h2, h3⟩
        by_cases e : j = k
        · subst e; exact .inr (List.mem_singleton.2 (by omega))
        · exact .inl ⟨j, by omega, h2, h3⟩
    · rw [if_neg hp, ih]
      constructor
      · rintro ⟨j, h1, h2⟩
        exact ⟨j, by omega, h2⟩
      · rintro ⟨j, h1, h2, h3⟩
        refine ⟨j, ?_, h2, h3⟩
        by_cases e : j = k
        · subst e; exact absurd h2 hp
        · omega
/-- Find tells just the serials that the law knows. -/
theorem find_srs {s : St} {os : List Ob} (hi : s.Inv) (ha : Agree s os) (x : Nat) : (s.Q (x : Int)).isSome = decide (x ∈ srsTo os os.length) := by
  by_cases hx : x ∈ srsTo os os.length
  · rw [decide_eq_true hx]
    obtain ⟨j, h1, h2, h3⟩ := (mem_srs os x _).1 hx
    have h4 := ha.ob h1
    have := (hi.idx (x : Int) ((os.getD j ob0).at' : Int)).2 ⟨_, rfl, h4.1, by rw [h4.2, h3], by omega⟩
    rw [this]; rfl
  · rw [decide_eq_false hx]
    cases hq : s.Q (x : Int) with
    | none => rfl
    | some a =>
      obtain ⟨n, h1, h2, h3, h4⟩ := (hi.idx (x : Int) a).1 hq
      obtain ⟨o, ho, e⟩ := ha.all n h2
      obtain ⟨j, hj, ej⟩ := List.getElem_of_mem ho
      have h5 := (ha.here o ho).2
      rw [e, ] at h5
      refine absurd ((mem_srs os x _).2 ⟨j, hj, ?_⟩) hx
      rw [getD_el _ _ hj, ej, ← h5, h3]
      omega
theorem find_at {s : St} {os : List Ob} (hi : s.Inv) (ha : Agree s os) {k : Nat} (hk : k < os.length) (hs : 0 < (os.getD k ob0).sh.s) : s.Q (os.getD k ob0).sh.s = some ((os.getD k ob0).at' : Int) := by
  have h4 := ha.ob hk
  exact (hi.idx _ _).2 ⟨_, rfl, h4.1, by rw [h4.2], by omega⟩
end Go.Proofs.YtiniadochjeieaaDoor
