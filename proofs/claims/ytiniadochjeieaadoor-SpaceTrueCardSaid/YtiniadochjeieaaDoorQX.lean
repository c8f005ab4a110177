/-
  The walks of sameInts, samePages, sameBlocks: of lists that are the same.
-/
import Derived.Test.YtiniadochjeieaaDoorQW
import Derived.Test.YtiniadochjeieaaDoorQY
import Derived.Test.YtiniadochjeieaaDoorQN30
import Derived.Deep.Upon
namespace Go.Proofs.YtiniadochjeieaaDoor
open Go Go.RowKit

/-- A list in memory whose elements have W numbers each. -/
def RowAt (w : World) (v : Value) (n W : Nat) (f : Nat → Nat → Int) : Prop :=
  ∃ a c, v = .slice a n c ∧ ∀ i, i < n → ∃ g, a = some ⟨g, 0, none⟩ ∧ g < w.heap.size ∧ ∀ d, d < W → w.cell? ⟨g, i * W + d, none⟩ = some (.int .i64 (f i d))
theorem row_at {w : World} {base : Nat} {e : TypeId} {n W : Nat} {v : Value} {xs : List Value} (h : w.ownsRow base e W v n xs) {f : Nat → Nat → Int} (hx : ∀ i, i < n → ∀ d, d < W → xs[i * W + d]? = some (.int .i64 (f i d))) : RowAt w v n W f := by
  rcases h.2 with ⟨h1, h2⟩ | ⟨g, cap', cur, hv, hb, hg, hnc, hcm, hs, ht⟩
  · exact ⟨_, _, by rw [h1, h2], fun i hi => by omega⟩
  · refine ⟨_, _, hv, fun i hi => ⟨g, rfl, (Array.getElem?_eq_some_iff.1 hg).1, fun d hd => ?_⟩⟩
    have := h.cells (g := g) (by rw [hv]; rfl) (i * W + d) _ (hx i hi d hd)
    rwa [add_at] at this
theorem RowAt.still {w w' : World} {v : Value} {n W : Nat} {f : Nat → Nat → Int} (h : RowAt w v n W f) (hs : Still w w') : RowAt w' v n W f := by
  obtain ⟨a, c, h1, h2⟩ := h
  refine ⟨a, c, h1, fun i hi => ?_⟩
  obtain ⟨g, e1, e2, e3⟩ := h2 i hi
  exact ⟨g, e1, Nat.lt_of_lt_of_le e2 hs.size, fun d hd => (hs.cell (p := ⟨g, i * W + d, none⟩) e2 (.inl e2)).trans (e3 d hd)⟩
set_option maxHeartbeats 1600000 in
theorem sameInts_eq (w : World) (v1 v2 : Value) (n : Nat) (f : Nat → Nat → Int) (h1 : RowAt w v1 n 1 f) (h2 : RowAt w v2 n 1 f) (hn : n ≤ 1000000) :
    Calls Tryd.prog 38 #[v1, v2] w fun e w' => e = .returned (.bool true) ∧ Still w w' := by
  have H1 := Lib.hid h1
  have H2 := Lib.hid h2
  obtain ⟨a1, c1, rfl, _⟩ := h1
  obtain ⟨a2, c2, rfl, _⟩ := h2
  have hnI : (n : Int) ≤ 1000000 := by omega
  go_enter Tryd.func38, Tryd.ntmps38
  go_wp2_with fail
  go_loopw [5] (fun y W => ∃ i : Nat, y = .int .i64 (i : Int) ∧ i ≤ n ∧ Still w W) (fun y _ => n + 1 - (intOf y).toNat)
  case atStart => exact ⟨0, rfl, Nat.zero_le _, Only.refl _ _ _⟩
  case round =>
    obtain ⟨i, rfl, hi, hst⟩ := hrel
    have HST := Lib.hid hst
    have hi0 : (0 : Int) ≤ (i : Int) := by omega
    by_cases hin : i < n
    · have hiI : (i : Int) < (n : Int) := by omega
      obtain ⟨b1, d1, e1, k1⟩ := H1.out.still hst
      obtain ⟨b2, d2, e2, k2⟩ := H2.out.still hst
      injection e1 with e1 _ q1
      injection e2 with e2 _ q2
      subst e1
      subst e2
      subst q1
      subst q2
      obtain ⟨g1, rfl, l1, x1⟩ := k1 i hin
      obtain ⟨g2, rfl, l2, x2⟩ := k2 i hin
      have x10 : wr.cell? ⟨g1, i, none⟩ = some (.int .i64 (f i 0)) := by have := x1 0 (by omega); rwa [Nat.mul_one, Nat.add_zero] at this
      have x20 : wr.cell? ⟨g2, i, none⟩ = some (.int .i64 (f i 0)) := by have := x2 0 (by omega); rwa [Nat.mul_one, Nat.add_zero] at this
      generalize f i 0 = y at *
      clear k1 k2 x1 x2 hst
      go_wp2_with fail
      go_quiet (fail)
      go_wp2_with fail
      exact ⟨⟨i + 1, by go_num, hin, HST.out.drewN _⟩, by simp [intOf]; omega⟩
    · obtain rfl : i = n := by omega
      go_wp2_with fail
      go_ret
      exact ⟨rfl, HST.out⟩
set_option maxHeartbeats 1600000 in
theorem samePages_eq (w : World) (v1 v2 : Value) (n : Nat) (f : Nat → Nat → Int) (h1 : RowAt w v1 n 3 f) (h2 : RowAt w v2 n 3 f) (hn : n ≤ 1000000) :
    Calls Tryd.prog 39 #[v1, v2] w fun e w' => e = .returned (.bool true) ∧ Still w w' := by
  have H1 := Lib.hid h1
  have H2 := Lib.hid h2
  obtain ⟨a1, c1, rfl, _⟩ := h1
  obtain ⟨a2, c2, rfl, _⟩ := h2
  have hnI : (n : Int) ≤ 1000000 := by omega
  go_enter Tryd.func39, Tryd.ntmps39
  go_wp2_with fail
  go_loopw [5] (fun y W => ∃ i : Nat, y = .int .i64 (i : Int) ∧ i ≤ n ∧ Still w W) (fun y _ => n + 1 - (intOf y).toNat)
  case atStart => exact ⟨0, rfl, Nat.zero_le _, Only.refl _ _ _⟩
  case round =>
    obtain ⟨i, rfl, hi, hst⟩ := hrel
    have HST := Lib.hid hst
    have hi0 : (0 : Int) ≤ (i : Int) := by omega
    by_cases hin : i < n
    · have hiI : (i : Int) < (n : Int) := by omega
      obtain ⟨b1, d1, e1, k1⟩ := H1.out.still hst
      obtain ⟨b2, d2, e2, k2⟩ := H2.out.still hst
      injection e1 with e1 _ q1
      injection e2 with e2 _ q2
      subst e1
      subst e2
      subst q1
      subst q2
      obtain ⟨g1, rfl, l1, x1⟩ := k1 i hin
      obtain ⟨g2, rfl, l2, x2⟩ := k2 i hin
      have x10 : wr.cell? ⟨g1, i * 3, none⟩ = _ := x1 0 (by omega)
      have x11 := x1 1 (by omega)
      have x12 := x1 2 (by omega)
      have x20 : wr.cell? ⟨g2, i * 3, none⟩ = _ := x2 0 (by omega)
      have x21 := x2 1 (by omega)
      have x22 := x2 2 (by omega)
      generalize f i 0 = y0 at *
      generalize f i 1 = y1 at *
      generalize f i 2 = y2 at *
      clear k1 k2 x1 x2 hst
      go_wp2_with fail
      go_quiet (fail)
      go_wp2_with fail
      exact ⟨⟨i + 1, by go_num, hin, HST.out.drewN _⟩, by simp [intOf]; omega⟩
    · obtain rfl : i = n := by omega
      go_wp2_with fail
      go_ret
      exact ⟨rfl, HST.out⟩
set_option maxHeartbeats 1600000 in
theorem sameBlocks_eq (w : World) (v1 v2 : Value) (n : Nat) (f : Nat → Nat → Int) (h1 : RowAt w v1 n 5 f) (h2 : RowAt w v2 n 5 f) (hn : n ≤ 1000000) :
    Calls Tryd.prog 40 #[v1, v2] w fun e w' => e = .returned (.bool true) ∧ Still w w' := by
  have H1 := Lib.hid h1
  have H2 := Lib.hid h2
  obtain ⟨a1, c1, rfl, _⟩ := h1
  obtain ⟨a2, c2, rfl, _⟩ := h2
  have hnI : (n : Int) ≤ 1000000 := by omega
  go_enter Tryd.func40, Tryd.ntmps40
  go_wp2_with fail
  go_loopw [5] (fun y W => ∃ i : Nat, y = .int .i64 (i : Int) ∧ i ≤ n ∧ Still w W) (fun y _ => n + 1 - (intOf y).toNat)
  case atStart => exact ⟨0, rfl, Nat.zero_le _, Only.refl _ _ _⟩
  case round =>
    obtain ⟨i, rfl, hi, hst⟩ := hrel
    have HST := Lib.hid hst
    have hi0 : (0 : Int) ≤ (i : Int) := by omega
    by_cases hin : i < n
    · have hiI : (i : Int) < (n : Int) := by omega
      obtain ⟨b1, d1, e1, k1⟩ := H1.out.still hst
      obtain ⟨b2, d2, e2, k2⟩ := H2.out.still hst
      injection e1 with e1 _ q1
      injection e2 with e2 _ q2
      subst e1
      subst e2
      subst q1
      subst q2
      obtain ⟨g1, rfl, l1, x1⟩ := k1 i hin
      obtain ⟨g2, rfl, l2, x2⟩ := k2 i hin
      have x10 : wr.cell? ⟨g1, i * 5, none⟩ = _ := x1 0 (by omega)
      have x11 := x1 1 (by omega)
      have x12 := x1 2 (by omega)
      have x13 := x1 3 (by omega)
      have x14 := x1 4 (by omega)
      have x20 : wr.cell? ⟨g2, i * 5, none⟩ = _ := x2 0 (by omega)
      have x21 := x2 1 (by omega)
      have x22 := x2 2 (by omega)
      have x23 := x2 3 (by omega)
      have x24 := x2 4 (by omega)
      generalize f i 0 = y0 at *
      generalize f i 1 = y1 at *
      generalize f i 2 = y2 at *
      generalize f i 3 = y3 at *
      generalize f i 4 = y4 at *
      clear k1 k2 x1 x2 hst
      go_wp2_with fail
      go_quiet (fail)
      go_wp2_with fail
      exact ⟨⟨i + 1, by go_num, hin, HST.out.drewN _⟩, by simp [intOf]; omega⟩
    · obtain rfl : i = n := by omega
      go_wp2_with fail
      go_ret
      exact ⟨rfl, HST.out⟩
end Go.Proofs.YtiniadochjeieaaDoor

namespace Go.Proofs.YtiniadochjeieaaDoor
open Go Go.RowKit

/-- What lies apart from a law's world does not touch it. -/
theorem Wld.aside {w w' : World} {L : Lay} {s : St} {wb : Nat} {os : List Ob} {v : Value} (h : Wld w L s wb os v) {lo hi : Nat} (ho : Only lo hi w w') (h0 : 0 < lo) (h1 : wb < lo ∨ hi ≤ wb) (h2 : L.hi ≤ lo ∨ hi ≤ L.lo) (h3 : ∀ g, v.ownBlock = some g → g < lo ∨ hi ≤ g) : Wld w' L s wb os v :=
  ⟨h.pos, h.lo, (ho.block _ h.lt h1).trans h.head, ownsRow_of_block h.row fun g hg => ho.block g (h.row.lt g hg).2 (h3 g hg), h.sp.kept ho h2 h0, h.inv, h.agree⟩
/-- A step of a law that began with an empty list has turned old blocks of its own world alone. -/
theorem Frm.only {wb : Nat} {L : Lay} {w w' : World} {v' : Value} (h : Frm wb L w (.slice none 0 0) w' v') (hl : wb < L.lo) (hlh : L.lo ≤ L.hi) : Only wb L.hi w w' :=
  ⟨h.b.os, h.b.tape, h.b.output, h.b.size, fun k hk ho => (h.k k hk (by omega) (by omega) (fun e => by cases e)).1⟩
theorem Frm.fresh {wb : Nat} {L : Lay} {w w' : World} {v' : Value} (h : Frm wb L w (.slice none 0 0) w' v') {k : Nat} (hk : k < w.heap.size) (h1 : k ≠ wb) (h2 : k < L.lo ∨ L.hi ≤ k) : v'.ownBlock ≠ some k := (h.k k hk h1 h2 (fun e => by cases e)).2
set_option maxRecDepth 100000 in
/-- A copy of a list of sizes. -/
theorem sizes_copy (w : World) (la : Option Addr) (ll lc : Nat) (zs : Nat → Int) (h : IsRowI w la ll lc zs) (hl : ll ≤ 1000) :
    ∃ v' w', (Builtin.append_ #[41, 41] 41 #[.slice none 0 0, .slice la ll lc]).run Tryd.prog w = .ok v' w' ∧ (∃ a c, v' = .slice a ll c ∧ IsRowI w' a ll c zs) ∧ Still w w' := by
  obtain ⟨i0, hi, hz0, hz1, hz2⟩ := info_parts Tryd.infoI5
  by_cases h0 : ll = 0
  · subst h0
    have hsrc : Src Tryd.prog i0.size 41 (.slice la 0 lc) 0 [] w := by
      cases la with
      | none => exact Src.ofNil w Tryd.underlying41 lc
      | some ad => exact Src.ofSlice w Tryd.underlying41 ad 0 lc [] (by simp) (fun j u hu => (by cases hu)) (fun u hu => (by cases hu))
    exact ⟨_, _, run_append_nothing (P := Tryd.prog) w 41 41 41 3 i0 Tryd.underlying41 hi none 0 0 (Nat.le_refl _) _ hsrc, ⟨none, 0, rfl, by omega, fun i hi => by omega⟩, Only.refl _ _ _⟩
  · obtain ⟨ad, rfl, _⟩ := h.2 0 (by omega)
    have hat : ∀ j, j < ll → w.cell? (ad.add j) = some (.int .i64 (zs j)) := fun j hj => by
      obtain ⟨x, e, h1, _⟩ := h.2 j hj
      injection e with e
      subst e
      exact h1
    obtain ⟨v', w', a1, a2, a3, _⟩ := run_append_own (P := Tryd.prog) w w.heap.size 41 41 3 i0 _ 1 8 Tryd.underlying41 hi hz0 hz1 hz2 rfl (by decide) (.slice none 0 0) 0 [] (World.ownsRow_nil _ _ _ _)
      ad ll lc ((List.range ll).map fun j => .int .i64 (zs j)) (by simp) (fun j u hu => by
        have hj : j < ll := by have := (List.getElem?_eq_some_iff.1 hu).1; simpa using this
        rw [hat j hj, ← hu, List.getElem?_map, List.getElem?_range hj]; rfl) (fun u hu => by
        obtain ⟨z, _, rfl⟩ := List.mem_map.1 hu
        rfl) (by unfold maxLen; omega) (by omega) (Nat.le_refl _)
    have a2' : w'.ownsRow w.heap.size 3 1 v' ll (((List.range ll).map zs).map (Value.int .i64)) := by
      have e : ((List.range ll).map zs).map (Value.int .i64) = (List.range ll).map fun j => .int .i64 (zs j) := by rw [List.map_map]; rfl
      rw [e]
      simpa using a2
    obtain ⟨a, c, e1, e2⟩ := ints_at a2'
    refine ⟨v', w', a1, ⟨a, c, e1, by omega, fun i hi => ?_⟩, (Only.refl _ _ w).grown a3 (fun k hk => by cases hk)⟩
    obtain ⟨g, f1, _, _, f2⟩ := e2 i hi (by simpa using hi)
    refine ⟨_, f1, ?_, ?_⟩
    · rw [add_at, f2]
      simp [hi]
    · obtain ⟨x, _, _, h3⟩ := h.2 i hi
      exact h3
/-- Alloc, beside what Fits has come to. -/
theorem alloc_sim (W : World) (L : Lay) (s t : St) (y : Sim) (hy : y.Ok s t) (hs : SpaceAt W L t) (hi : t.Inv) (z : Int) (hz : (Lit.int .i64 z).wf = true) (ha : t.acts + 2 ≤ 1000000000000) :
    Calls Tryd.prog 24 #[.pointer (some ⟨L.sb, 0, none⟩), .int .i64 3, .int .i64 z, .int .i64 0] W fun e w' =>
      ∃ (a r : Int), e = .returned (.tuple #[.int .i64 a, faultV r 0]) ∧ Only L.lo L.hi W w' ∧ ∃ t' : St, SpaceAt w' L t' ∧ t'.Inv ∧ t'.acts ≤ t.acts + 2 ∧ ((r = 0 ∧ ∃ y', y.step s z = some y' ∧ y'.Ok s t') ∨ (r ≠ 0 ∧ y.step s z = none)) := by
  refine alloc_inv W L t hs hi 3 z 0 hz ha _ (fun hf w' h1 h2 => ?_) (fun l w' hf e h1 h2 h3 => ?_) (fun s1 a w' hf e ht h1 h2 h3 => ?_)
  · refine ⟨0, 24, rfl, h2, t, h1, hi, by omega, .inr ⟨by decide, y.step_bad s fun hr => ?_⟩⟩
    rw [fits3 hr] at hf; cases hf
  · exact ⟨0, 20, rfl, h3, _, h1, h2, Nat.le_add_right _ _, .inr ⟨by decide, (hy.step hi hs.lowle (Sp.fits_size hf)).1 _ e⟩⟩
  · obtain ⟨y', e1, e2⟩ := (hy.step hi hs.lowle (Sp.fits_size hf)).2 _ _ e
    exact ⟨a, 0, rfl, h3, _, h1, h2, by show s1.acts + 2 ≤ _; rw [ht.acts]; exact Nat.le_refl _, .inl ⟨rfl, y', e1, e2.put a 3 z 0⟩⟩
/-- One behind the other, till one falls. -/
structure TruAt (W0 : World) (L : Lay) (s : St) (zs : Nat → Int) (i : Nat) (b : Bool) (W : World) : Prop where
  on : Only L.lo L.hi W0 W
  sp : ∃ t : St, SpaceAt W L t ∧ t.Inv ∧ t.acts ≤ s.acts + 2 * i ∧ (b = true → ∃ y, s.simTo zs i = some y ∧ y.Ok s t)
  bad : b = false → s.simTo zs i = none
end Go.Proofs.YtiniadochjeieaaDoor
