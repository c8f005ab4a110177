/-
  The walk of keep.hold.
-/
import Derived.Test.YtfbcdmhmpfijjaaGreatDoorQG8
namespace Go.Proofs.YtfbcdmhmpfijjaaGreatDoor
open Go Go.RowKit

/-- An element of one of a pair's rows. -/
theorem KHead.elem {W : World} {pb : Nat} {h0 h1 : Value} {own : Nat → Lb} {v : Nat → Value} {ls : Nat → List Value} (h : KHead W pb h0 h1 own v ls) {j : Nat} (hj : j < 12) {i : Nat} (hi : i < (ls j).length) {u : Value} (hu : (ls j)[i]? = some u) :
    ∃ g c, v j = .slice (some ⟨g, 0, none⟩) (ls j).length c ∧ g < W.heap.size ∧ W.cell? ⟨g, i, none⟩ = some u := by
  have hr := h.rows j hj
  rcases hr.2 with ⟨_, e⟩ | ⟨g, cap, cur, hv, _, hg, _⟩
  · omega
  · refine ⟨g, cap, hv, (Array.getElem?_eq_some_iff.1 hg).1, ?_⟩
    have := hr.cells (g := g) (by rw [hv]; rfl) i u hu
    rwa [add_at] at this
theorem getD_some {α : Type} {l : List α} {i : Nat} {d : α} (h : i < l.length) : l[i]? = some (l.getD i d) := by
  rw [List.getD_eq_getElem?_getD, List.getElem?_eq_getElem h]; rfl
/-- What hold looks at. -/
structure HoldF (W : World) (k n : Nat) (a : Option Addr) (m : Int) : Prop where
  nle : n ≤ 9223372036854775807
  at' : ∀ j, j < n → ∃ g, a = some ⟨g, 0, none⟩ ∧ g < W.heap.size ∧ W.cell? ⟨g, j * ek k + ed k, none⟩ = some (.int .i64 m)
theorem HoldF.still {W W' : World} {k n : Nat} {a : Option Addr} {m : Int} (h : HoldF W k n a m) (hs : Still W W') : HoldF W' k n a m :=
  ⟨h.nle, fun j hj => by
    obtain ⟨g, h1, h2, h3⟩ := h.at' j hj
    exact ⟨g, h1, Nat.lt_of_lt_of_le h2 hs.size, (hs.cell (p := ⟨g, j * ek k + ed k, none⟩) h2 (.inl h2)).trans h3⟩⟩
structure HoldI (W : World) (k i N : Nat) (v6 v9 : Value) (n : Nat) (a : Option Addr) (c : Nat) (m : Int) (g6 c6 g9 c9 : Nat) : Prop where
  e6 : v6 = .slice (some ⟨g6, 0, none⟩) N c6
  e9 : v9 = .slice (some ⟨g9, 0, none⟩) N c9
  l6 : g6 < W.heap.size
  l9 : g9 < W.heap.size
  z6 : W.cell? ⟨g6, i, none⟩ = some (.slice a n c)
  z9 : W.cell? ⟨g9, i, none⟩ = some (.int .i64 m)
  hf : HoldF W k n a m
theorem HoldI.still {W W' : World} {k i N : Nat} {v6 v9 : Value} {n : Nat} {a : Option Addr} {c : Nat} {m : Int} {g6 c6 g9 c9 : Nat} (h : HoldI W k i N v6 v9 n a c m g6 c6 g9 c9) (hs : Still W W') : HoldI W' k i N v6 v9 n a c m g6 c6 g9 c9 :=
  ⟨h.e6, h.e9, Nat.lt_of_lt_of_le h.l6 hs.size, Nat.lt_of_lt_of_le h.l9 hs.size, (hs.cell (p := ⟨g6, i, none⟩) h.l6 (.inl h.l6)).trans h.z6, (hs.cell (p := ⟨g9, i, none⟩) h.l9 (.inl h.l9)).trans h.z9, h.hf.still hs⟩
theorem hold_facts {W : World} {pb : Nat} {h0 h1 : Value} {own : Nat → Lb} {v : Nat → Value} {ls : Nat → List Value} {qf : Nat → Nat} {C : Nat} (h : KHead W pb h0 h1 own v ls) (f : KFacts W own ls qf C) {k : Nat} (hk : k < 3) {i : Nat} (hi : i < (ls (6 + k)).length) :
    ∃ n a c m g6 c6 g9 c9, HoldI W k i (ls (6 + k)).length (v (6 + k)) (v (9 + k)) n a c m g6 c6 g9 c9 := by
  obtain ⟨m, q1, q2, _⟩ := f.full k hk i hi
  obtain ⟨⟨n, xs, x1, x2⟩, _⟩ := q2
  obtain ⟨a, c, e⟩ := own_form x1
  obtain ⟨g6, c6, a1, a2, a3⟩ := h.elem (j := 6 + k) (by omega) hi (getD_some hi)
  obtain ⟨g9, c9, b1, b2, b3⟩ := h.elem (j := 9 + k) (by omega) (i := i) (by rw [f.sg k hk]; exact hi) q1
  rw [e] at a3
  rw [f.sg k hk] at b1
  refine ⟨n, a, c, m, g6, c6, g9, c9, a1, b1, a2, b2, a3, b3, ?_, fun j hj => ?_⟩
  · rcases x1.2 with ⟨_, rfl⟩ | ⟨_, cap, _, _, _, _, hnc, hcm, _⟩
    · omega
    · unfold maxLen at hcm; omega
  · rcases x1.2 with ⟨_, e2⟩ | ⟨g, cap, cur, hv, _, hg, _⟩
    · omega
    · rw [e] at hv
      injection hv with hv _ _
      refine ⟨g, hv, (Array.getElem?_eq_some_iff.1 hg).1, ?_⟩
      have := x1.cells (g := g) (by rw [e, hv]; rfl) _ _ (x2 j hj)
      rwa [add_at] at this
set_option maxRecDepth 100000 in
set_option maxHeartbeats 6400000 in
theorem khold_any (W : World) (pb : Nat) (h0 h1 : Value) (own : Nat → Lb) (C : Nat) (v : Nat → Value) (ls : Nat → List Value) (qf : Nat → Nat) (h : KHead W pb h0 h1 own v ls) (f : KFacts W own ls qf C) (hC : C ≤ 900000) :
    Calls Tryz.prog 90 #[.pointer (some ⟨pb, 2, none⟩)] W fun e w' => e = .returned (.bool true) ∧ Still W w' := by
  have HPL : Hid (∀ w, Still W w → pb < w.heap.size) := Lib.hid fun w hs => Nat.lt_of_lt_of_le h.lt hs.size

  obtain ⟨N0, hN0⟩ : ∃ N, (ls 6).length = N := ⟨_, rfl⟩
  have hl0 : N0 ≤ C := by rw [← hN0]; exact f.cap 0 (by decide)
  have hM0 : (N0 : Int) ≤ 900000 := by omega
  have HF0 : Hid (∀ w, Still W w → ∀ i, i < N0 → ∃ n a c m g6 c6 g9 c9, HoldI w 0 i N0 (v 6) (v 9) n a c m g6 c6 g9 c9) := Lib.hid fun w hs i hi => by
    obtain ⟨n, a, c, m, g6, c6, g9, c9, hh⟩ := hold_facts h f (k := 0) (by decide) (i := i) (by rw [show (ls (6 + 0)).length = N0 from hN0]; exact hi)
    rw [show (ls (6 + 0)).length = N0 from hN0] at hh
    exact ⟨n, a, c, m, g6, c6, g9, c9, hh.still hs⟩
  have HV0 : Hid (∀ w, Still W w → ∃ a c, v 6 = .slice a N0 c ∧ w.cell? ⟨pb, 8, none⟩ = some (v 6) ∧ w.cell? ⟨pb, 11, none⟩ = some (v 9)) := Lib.hid fun w hs => by
    obtain ⟨a, c, e⟩ := own_form (h.rows 6 (by decide))
    rw [hN0] at e
    exact ⟨a, c, e, (h.still hs).cell 6 (by decide), (h.still hs).cell 9 (by decide)⟩
  clear hN0 hl0
  obtain ⟨N1, hN1⟩ : ∃ N, (ls 7).length = N := ⟨_, rfl⟩
  have hl1 : N1 ≤ C := by rw [← hN1]; exact f.cap 1 (by decide)
  have hM1 : (N1 : Int) ≤ 900000 := by omega
  have HF1 : Hid (∀ w, Still W w → ∀ i, i < N1 → ∃ n a c m g6 c6 g9 c9, HoldI w 1 i N1 (v 7) (v 10) n a c m g6 c6 g9 c9) := Lib.hid fun w hs i hi => by
    obtain ⟨n, a, c, m, g6, c6, g9, c9, hh⟩ := hold_facts h f (k := 1) (by decide) (i := i) (by rw [show (ls (6 + 1)).length = N1 from hN1]; exact hi)
    rw [show (ls (6 + 1)).length = N1 from hN1] at hh
    exact ⟨n, a, c, m, g6, c6, g9, c9, hh.still hs⟩
  have HV1 : Hid (∀ w, Still W w → ∃ a c, v 7 = .slice a N1 c ∧ w.cell? ⟨pb, 9, none⟩ = some (v 7) ∧ w.cell? ⟨pb, 12, none⟩ = some (v 10)) := Lib.hid fun w hs => by
    obtain ⟨a, c, e⟩ := own_form (h.rows 7 (by decide))
    rw [hN1] at e
    exact ⟨a, c, e, (h.still hs).cell 7 (by decide), (h.still hs).cell 10 (by decide)⟩
  clear hN1 hl1
  obtain ⟨N2, hN2⟩ : ∃ N, (ls 8).length = N := ⟨_, rfl⟩
  have hl2 : N2 ≤ C := by rw [← hN2]; exact f.cap 2 (by decide)
  have hM2 : (N2 : Int) ≤ 900000 := by omega
  have HF2 : Hid (∀ w, Still W w → ∀ i, i < N2 → ∃ n a c m g6 c6 g9 c9, HoldI w 2 i N2 (v 8) (v 11) n a c m g6 c6 g9 c9) := Lib.hid fun w hs i hi => by
    obtain ⟨n, a, c, m, g6, c6, g9, c9, hh⟩ := hold_facts h f (k := 2) (by decide) (i := i) (by rw [show (ls (6 + 2)).length = N2 from hN2]; exact hi)
    rw [show (ls (6 + 2)).length = N2 from hN2] at hh
    exact ⟨n, a, c, m, g6, c6, g9, c9, hh.still hs⟩
  have HV2 : Hid (∀ w, Still W w → ∃ a c, v 8 = .slice a N2 c ∧ w.cell? ⟨pb, 10, none⟩ = some (v 8) ∧ w.cell? ⟨pb, 13, none⟩ = some (v 11)) := Lib.hid fun w hs => by
    obtain ⟨a, c, e⟩ := own_form (h.rows 8 (by decide))
    rw [hN2] at e
    exact ⟨a, c, e, (h.still hs).cell 8 (by decide), (h.still hs).cell 11 (by decide)⟩
  clear hN2 hl2
  clear h f hC
  have HS := Lib.hid (show Still W W from Only.refl _ _ _)
  go_enter Tryz.func90, Tryz.ntmps90
  go_wp2_with fail
  go_loopw [3] (fun y w => ∃ i : Nat, y = .int .i64 (i : Int) ∧ i ≤ N0 ∧ Still W w) (fun y _ => N0 + 1 - (intOf y).toNat)
  case atStart => exact ⟨0, rfl, Nat.zero_le _, HS.out⟩
  case round =>
    obtain ⟨i, rfl, hi, hst⟩ := hrel
    have HST := Lib.hid hst
    have hi0 : (0 : Int) ≤ (i : Int) := by omega
    obtain ⟨av, cv, hav, z1, z2⟩ := HV0.out _ hst
    have hpl := HPL.out _ hst
    by_cases hin : i < N0
    · have hiI : (i : Int) < (N0 : Int) := by omega
      obtain ⟨n, a, c, m, g6, c6, g9, c9, hh⟩ := HF0.out _ hst i hin
      have HH := Lib.hid hh
      have e6 := hh.e6
      have e9 := hh.e9
      have hnl := hh.hf.nle
      have hn0 : (0 : Int) ≤ (n : Int) := by omega
      have hnM : (n : Int) ≤ 9223372036854775807 := by omega
      rw [e6] at z1
      clear hst z2 hav hh e6 e9
      go_wp2_with fail
      go_loopw [4] (fun y w => ∃ j : Nat, y = .int .i64 (j : Int) ∧ j ≤ n ∧ Still wr w) (fun y _ => n + 1 - (intOf y).toNat)
      case atStart => exact ⟨0, rfl, Nat.zero_le _, Only.refl _ _ _⟩
      case round =>
        obtain ⟨j, rfl, hj, hs2⟩ := hrel
        have HS2 := Lib.hid hs2
        have hj0 : (0 : Int) ≤ (j : Int) := by omega
        have hh := HH.out.still hs2
        have hst2 := Still.trans HST.out hs2
        obtain ⟨av, cv, hav, z1, z2⟩ := HV0.out _ hst2
        have hpl := HPL.out _ hst2
        obtain ⟨e6, e9, l6, l9, z6, z9, hf⟩ := hh
        rw [e6] at z1
        rw [e9] at z2
        by_cases hjn : j < n
        · have hjI : (j : Int) < (n : Int) := by omega
          obtain ⟨g, rfl, lg, zc⟩ := hf.at' j hjn
          have zc : _ = some (Value.int .i64 m) := zc
          change World.cell? _ ⟨g, j * 1 + 0, none⟩ = _ at zc
          rw [Nat.mul_one, Nat.add_zero] at zc
          clear hs2 hst2 hf hav e6 e9
          go_wp2_with fail
          go_quiet (fail)
          go_wp2_with fail
          exact ⟨⟨j + 1, by go_num, hjn, HS2.out.drewN _⟩, by simp [intOf]; omega⟩
        · obtain rfl : j = n := by omega
          clear hs2 hst2 hf hav e6 e9
          go_wp2_with fail
          exact ⟨⟨i + 1, by go_num, hin, Still.trans HST.out HS2.out⟩, by simp [intOf]; omega⟩
    · obtain rfl : i = N0 := by omega
      rw [hav] at z1
      clear z2 hav HS
      have HS := Lib.hid hst
      clear hst
      go_wp2_with fail
      go_loopw [5] (fun y w => ∃ i : Nat, y = .int .i64 (i : Int) ∧ i ≤ N1 ∧ Still W w) (fun y _ => N1 + 1 - (intOf y).toNat)
      case atStart => exact ⟨0, rfl, Nat.zero_le _, HS.out⟩
      case round =>
        obtain ⟨i, rfl, hi, hst⟩ := hrel
        have HST := Lib.hid hst
        have hi0 : (0 : Int) ≤ (i : Int) := by omega
        obtain ⟨av, cv, hav, z1, z2⟩ := HV1.out _ hst
        have hpl := HPL.out _ hst
        by_cases hin : i < N1
        · have hiI : (i : Int) < (N1 : Int) := by omega
          obtain ⟨n, a, c, m, g6, c6, g9, c9, hh⟩ := HF1.out _ hst i hin
          have HH := Lib.hid hh
          have e6 := hh.e6
          have e9 := hh.e9
          have hnl := hh.hf.nle
          have hn0 : (0 : Int) ≤ (n : Int) := by omega
          have hnM : (n : Int) ≤ 9223372036854775807 := by omega
          rw [e6] at z1
          clear hst z2 hav hh e6 e9
          go_wp2_with fail
          go_loopw [6] (fun y w => ∃ j : Nat, y = .int .i64 (j : Int) ∧ j ≤ n ∧ Still wr w) (fun y _ => n + 1 - (intOf y).toNat)
          case atStart => exact ⟨0, rfl, Nat.zero_le _, Only.refl _ _ _⟩
          case round =>
            obtain ⟨j, rfl, hj, hs2⟩ := hrel
            have HS2 := Lib.hid hs2
            have hj0 : (0 : Int) ≤ (j : Int) := by omega
            have hh := HH.out.still hs2
            have hst2 := Still.trans HST.out hs2
            obtain ⟨av, cv, hav, z1, z2⟩ := HV1.out _ hst2
            have hpl := HPL.out _ hst2
            obtain ⟨e6, e9, l6, l9, z6, z9, hf⟩ := hh
            rw [e6] at z1
            rw [e9] at z2
            by_cases hjn : j < n
            · have hjI : (j : Int) < (n : Int) := by omega
              obtain ⟨g, rfl, lg, zc⟩ := hf.at' j hjn
              have zc : _ = some (Value.int .i64 m) := zc
              change World.cell? _ ⟨g, j * 3 + 0, none⟩ = _ at zc
              rw [Nat.add_zero] at zc
              clear hs2 hst2 hf hav e6 e9
              go_wp2_with fail
              go_quiet (fail)
              go_wp2_with fail
              exact ⟨⟨j + 1, by go_num, hjn, HS2.out.drewN _⟩, by simp [intOf]; omega⟩
            · obtain rfl : j = n := by omega
              clear hs2 hst2 hf hav e6 e9
              go_wp2_with fail
              exact ⟨⟨i + 1, by go_num, hin, Still.trans HST.out HS2.out⟩, by simp [intOf]; omega⟩
        · obtain rfl : i = N1 := by omega
          rw [hav] at z1
          clear z2 hav HS
          have HS := Lib.hid hst
          clear hst
          go_wp2_with fail
          go_loopw [7] (fun y w => ∃ i : Nat, y = .int .i64 (i : Int) ∧ i ≤ N2 ∧ Still W w) (fun y _ => N2 + 1 - (intOf y).toNat)
          case atStart => exact ⟨0, rfl, Nat.zero_le _, HS.out⟩
          case round =>
            obtain ⟨i, rfl, hi, hst⟩ := hrel
            have HST := Lib.hid hst
            have hi0 : (0 : Int) ≤ (i : Int) := by omega
            obtain ⟨av, cv, hav, z1, z2⟩ := HV2.out _ hst
            have hpl := HPL.out _ hst
            by_cases hin : i < N2
            · have hiI : (i : Int) < (N2 : Int) := by omega
              obtain ⟨n, a, c, m, g6, c6, g9, c9, hh⟩ := HF2.out _ hst i hin
              have HH := Lib.hid hh
              have e6 := hh.e6
              have e9 := hh.e9
              have hnl := hh.hf.nle
              have hn0 : (0 : Int) ≤ (n : Int) := by omega
              have hnM : (n : Int) ≤ 9223372036854775807 := by omega
              rw [e6] at z1
              clear hst z2 hav hh e6 e9
              go_wp2_with fail
              go_loopw [8] (fun y w => ∃ j : Nat, y = .int .i64 (j : Int) ∧ j ≤ n ∧ Still wr w) (fun y _ => n + 1 - (intOf y).toNat)
              case atStart => exact ⟨0, rfl, Nat.zero_le _, Only.refl _ _ _⟩
              case round =>
                obtain ⟨j, rfl, hj, hs2⟩ := hrel
                have HS2 := Lib.hid hs2
                have hj0 : (0 : Int) ≤ (j : Int) := by omega
                have hh := HH.out.still hs2
                have hst2 := Still.trans HST.out hs2
                obtain ⟨av, cv, hav, z1, z2⟩ := HV2.out _ hst2
                have hpl := HPL.out _ hst2
                obtain ⟨e6, e9, l6, l9, z6, z9, hf⟩ := hh
                rw [e6] at z1
                rw [e9] at z2
                by_cases hjn : j < n
                · have hjI : (j : Int) < (n : Int) := by omega
                  obtain ⟨g, rfl, lg, zc⟩ := hf.at' j hjn
                  have zc : _ = some (Value.int .i64 m) := zc
                  change World.cell? _ ⟨g, j * 5 + 1, none⟩ = _ at zc
                  skip
                  clear hs2 hst2 hf hav e6 e9
                  go_wp2_with fail
                  go_quiet (fail)
                  go_wp2_with fail
                  exact ⟨⟨j + 1, by go_num, hjn, HS2.out.drewN _⟩, by simp [intOf]; omega⟩
                · obtain rfl : j = n := by omega
                  clear hs2 hst2 hf hav e6 e9
                  go_wp2_with fail
                  exact ⟨⟨i + 1, by go_num, hin, Still.trans HST.out HS2.out⟩, by simp [intOf]; omega⟩
            · obtain rfl : i = N2 := by omega
              rw [hav] at z1
              clear z2 hav HS
              have HS := Lib.hid hst
              clear hst
              go_wp2_with fail
              go_ret
              exact ⟨rfl, HS.out⟩
end Go.Proofs.YtfbcdmhmpfijjaaGreatDoor
