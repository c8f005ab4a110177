/-
  The walk of hearthref8.Wrong.
-/
import Derived.Test.YtfbcdmhmpfijjaaGreatDoorQFB
import Derived.Test.YtfbcdmhmpfijjaaGreatDoorQN8
namespace Go.Proofs.YtfbcdmhmpfijjaaGreatDoor
open Go Go.RowKit

/-- The least number as it is told; -1: there is none. -/
def lw (N m : Nat) : Int := if m = N then -1 else (m : Int)
theorem St.least_old {s : St} {c N a i m : Nat} (h : Least (s.badAt c a) N m) (hz : ∀ j, a ≤ j → j < i → s.B (c + 1) j = false) (hm : m ≤ i) : Least (s.badAt c (i + 1)) N m := by
  refine ⟨h.1, fun j hj hbj => ?_, fun hh => (h.2.2 hh).elim .inl fun h2 => .inr ⟨by omega, h2.2⟩⟩
  rcases hbj with h1 | ⟨h0, h1⟩
  · exact h.2.1 j hj (.inl h1)
  · by_cases hja : j < a
    · exact h.2.1 j hj (.inr ⟨hja, h1⟩)
    · have h3 := h1.1
      rw [hz j (by omega) (by omega)] at h3; cases h3
theorem Least.down_yes {p : Nat → Prop} {N k m : Nat} (_h : Least (fun i => k + 1 ≤ i ∧ p i) N m) (hk : k < N) (hp : p k) : Least (fun i => k ≤ i ∧ p i) N k :=
  ⟨Nat.le_of_lt hk, fun i hi h => by omega, fun _ => ⟨Nat.le_refl _, hp⟩⟩
theorem Least.down_no {p : Nat → Prop} {N k m : Nat} (h : Least (fun i => k + 1 ≤ i ∧ p i) N m) (hp : ¬p k) : Least (fun i => k ≤ i ∧ p i) N m :=
  ⟨h.1, fun i hi hh => by
    by_cases e : i = k
    · rw [e] at hh; exact hp hh.2
    · exact h.2.1 i hi ⟨by omega, hh.2⟩, fun hm => ⟨by have := (h.2.2 hm).1; omega, (h.2.2 hm).2⟩⟩
/-- How far a place is from the end; -1 is the end. -/
def msr (N : Nat) (x : Int) : Nat := if x < 0 then 0 else N + 1 - x.toNat
theorem msr_lt {N i : Nat} {x : Int} (hi : i < N) (h : x < 0 ∨ (i : Int) < x) : msr N x < msr N (i : Int) := by
  unfold msr
  rw [if_neg (show ¬((i : Int) < 0) by omega)]
  by_cases hq : x < 0
  · rw [if_pos hq]; omega
  · rw [if_neg hq]; omega
set_option maxRecDepth 100000 in
set_option maxHeartbeats 6400000 in
theorem rwrong_any (w : World) (R : RLay) (s : St) (h : RefAt w R s) (hs : s.RefOk) :
    Calls Tryz.prog 35 #[.pointer (some ⟨R.rb, 0, none⟩)] w fun e w' => (∃ m, Least (s.badTo 8) (64 * s.n) m ∧ e = .returned (.int .i64 (if m = 64 * s.n then -1 else (m : Int)))) ∧ Still w w' := by
  have HR := Lib.hid (fun W (hw : Still w W) => h.still hw)
  have HS := Lib.hid hs
  have hn1 := h.n1
  have hn2 := h.n2
  have HCK := Lib.hid (fun W (hw : Still w W) (a : Int) => rcheck_any W R s (h.still hw) hs a)
  have HNF := Lib.hid (fun W (hw : Still w W) c hc f hf => rnext_any W R s (h.still hw) hs c hc f hf)
  have HLT := Lib.hid (fun a (ha : s.B 0 a = true) => hs.lt ha)
  have HLK := Lib.hid (fun W n h1 h2 => rlink_any n W h1 h2)
  have HLN : Hid (∀ c (a : Nat), s.link c a = Sp.lnk (Bm.next (s.B (c + 1)) (64 * s.n) ((a : Int) + 1))) := Lib.hid fun _ _ => rfl
  obtain ⟨N, hN⟩ : ∃ N, 64 * s.n = N := ⟨_, rfl⟩
  rw [hN] at HNF HLT HLN ⊢
  have HN := Lib.hid hN
  have hNM : (N : Int) ≤ 262144 := by omega
  have hN1 : (64 : Int) ≤ (N : Int) := by omega
  have c2 : w.cell? ⟨R.rb, 2, none⟩ = some (.slice (some ⟨R.ob, 0, none⟩) N R.co) := by rw [← hN]; exact h.c2
  obtain ⟨l1, l2, l3, l4, l5⟩ := h.lts
  clear h hs hN hn1 hn2
  have hfd : ∀ (x y : Int) W, (Instr.field 100 (.agg #[.int .i64 x, .int .i64 y]) 0).run Tryz.prog W = .ok (.int .i64 x) W := fun _ _ _ => by kernel_rfl
  go_enter Tryz.func35, Tryz.ntmps35
  go_wp2_with fail
  clear c2 l1 l2 l3 l4 l5
  go_loopw [3, 4] (fun x y W => ∃ j m : Nat, x = .int .i64 (lw N m) ∧ y = .int .i64 ((j : Int) - 1) ∧ j ≤ N ∧ Least (fun i => j ≤ i ∧ s.bad0 i) N m ∧ Still w W) (fun _ y _ => (intOf y + 1).toNat)
  case atStart => exact ⟨N, N, by unfold lw; rw [if_pos rfl], rfl, Nat.le_refl _, ⟨Nat.le_refl _, fun i hi hh => by omega, fun hh => absurd hh (Nat.lt_irrefl _)⟩, Only.refl _ _ _⟩
  case round =>
    obtain ⟨j, m, rfl, hy, hj, hle, hst⟩ := hrel
    have HST := Lib.hid hst
    have HLE := Lib.hid hle
    have hr := HR.out _ hst
    have c2 := hr.c2
    obtain ⟨l1, l2, l3, l4, l5⟩ := hr.lts
    rw [HN.out] at c2
    rcases j with _ | k
    · rw [show (((0 : Nat) : Int) - 1) = -1 from rfl] at hy
      subst hy
      have HL0 : Hid (Least (s.badTo 0) N m) := Lib.hid (HLE.out.congr fun i _ => by rw [s.badTo_zero]; exact ⟨fun hh => hh.2, fun hh => ⟨Nat.zero_le _, hh⟩⟩)
      clear hle hst hr c2 l1 l2 l3 l4 l5 hj
      go_wp2_with fail
      go_loopw [3, 5] (fun x y W => ∃ c m : Nat, x = .int .i64 (lw N m) ∧ y = .int .i64 (c : Int) ∧ c ≤ 8 ∧ Least (s.badTo c) N m ∧ Still w W) (fun _ y _ => 9 - (intOf y).toNat)
      case atStart => exact ⟨0, m, rfl, rfl, Nat.zero_le _, HL0.out, HST.out⟩
      case round =>
        obtain ⟨c, m, rfl, rfl, hc, hle, hst⟩ := hrel
        have HST2 := Lib.hid hst
        have HLE2 := Lib.hid hle
        have hc0 : (0 : Int) ≤ (c : Int) := by omega
        clear hle hst
        by_cases hc8 : c < 8
        · have hcI : (c : Int) < 8 := by omega
          have HNF0 := Lib.hid (HNF.out _ HST2.out c hc8 0 (Nat.zero_le _))
          go_wp2_with fail
          refine HNF0.out.mono ?_
          rintro e w1 ⟨rfl, hs1⟩
          have HS1 := Lib.hid (Still.trans HST2.out hs1)
          have HA0 : Hid (Least (s.badAt c 0) N m) := Lib.hid (HLE2.out.congr fun i _ => (s.badAt_zero c i).symm)
          clear hs1
          go_wp2_with fail
          go_loopw [3, 6] (fun x y W => ∃ a m : Nat, x = .int .i64 (lw N m) ∧ y = .int .i64 (Bm.next (s.B (c + 1)) N (a : Int)) ∧ a ≤ N ∧ Least (s.badAt c a) N m ∧ Still w W) (fun _ y _ => msr N (intOf y))
          case atStart => exact ⟨0, m, rfl, rfl, Nat.zero_le _, HA0.out, HS1.out⟩
          case round =>
            obtain ⟨a, m, rfl, hy, ha, hle, hst⟩ := hrel
            have HST3 := Lib.hid hst
            have HLE3 := Lib.hid hle
            clear hle hst
            rcases Bm.next_spec (s.B (c + 1)) N (a : Int) with ⟨e, hz⟩ | ⟨i, e, hi1, hi2, hi3, hz⟩
            · rw [e] at hy
              subst hy
              have HEN : Hid (Least (s.badTo (c + 1)) N m) := Lib.hid (s.least_end HLE3.out fun j h1 h2 => hz j (by omega) h2)
              clear hz e
              go_wp2_with fail
              exact ⟨⟨c + 1, m, rfl, by go_num, hc8, HEN.out, HST3.out⟩, by first | (simp [intOf]; done) | (simp [intOf]; omega)⟩
            · rw [e] at hy
              subst hy
              have HZ : Hid (∀ j, a ≤ j → j < i → s.B (c + 1) j = false) := Lib.hid fun j h1 h2 => hz j (by omega) h2
              have hai : a ≤ i := by omega
              have hi0 : (0 : Int) ≤ (i : Int) := by omega
              have hiN : (i : Int) < (N : Int) := by omega
              have HNX := Lib.hid (HNF.out _ HST3.out c hc8 (i + 1) (by omega))
              rw [show (((i + 1 : Nat)) : Int) = (i : Int) + 1 from rfl] at HNX
              have hlk := HLN.out c i
              obtain ⟨nx, hnx⟩ : ∃ nx, Bm.next (s.B (c + 1)) N ((i : Int) + 1) = nx := ⟨_, rfl⟩
              have HNE := Lib.hid hnx
              rw [hnx] at HNX hlk
              have hnx1 : -1 ≤ nx ∧ nx < 262144 ∧ (nx < 0 ∨ (i : Int) < nx) := by
                rw [← hnx]
                rcases Bm.next_spec (s.B (c + 1)) N ((i : Int) + 1) with ⟨e, _⟩ | ⟨i2, e, q1, q2, _⟩
                · rw [e]; omega
                · rw [e]; omega
              have HLL := Lib.hid (fun W => HLK.out W nx hnx1.1 hnx1.2.1)
              clear e hz hnx
              have HBI := Lib.hid hi3
              have hiN' : i < N := by omega
              clear hi3 hi1 hi2
              go_wp2_with fail
              refine HNX.out.mono ?_
              rintro e w2 ⟨rfl, hs2⟩
              have HS2 := Lib.hid (Still.trans HST3.out hs2)
              have hr := HR.out _ HS2.out
              have c0 := hr.c0
              have wd := hr.word (i := i) (by rw [HN.out]; exact hiN')
              obtain ⟨l1, l2, l3, l4, l5⟩ := hr.lts
              rw [HN.out] at c0
              obtain ⟨lk, hlke⟩ : ∃ lk, Sp.lnk nx = lk := ⟨_, rfl⟩
              rw [hlke] at HLL hlk
              have HBD : Hid (s.badc c i ↔ s.W i ≠ lk) := Lib.hid ⟨fun hh => by rw [← hlk]; exact hh.2, fun hh => ⟨HBI.out, by rw [hlk]; exact hh⟩⟩
              clear hr hs2 hlk hlke
              by_cases hb : s.W i = lk
              · have HON : Hid (Least (s.badAt c (i + 1)) N m) := Lib.hid (s.least_on HLE3.out hai HZ.out fun hh => (HBD.out.1 hh) hb)
                rw [hb] at wd
                clear hb HBD
                go_wp2_with fail
                go_quiet (((go_at_call 82; exact quiet_eq (HLL.out _))))
                go_wp2_with fail
                refine ⟨⟨i + 1, m, rfl, by rw [show (((i + 1 : Nat)) : Int) = (i : Int) + 1 from rfl, HNE.out], by omega, HON.out, ?_⟩, ?_⟩
                · repeat first | exact HS2.out | apply Only.drewN
                · exact msr_lt hiN' hnx1.2.2
              · have hbn : (s.W i != lk) = true := by simpa using hb
                have HBB : Hid (s.badc c i) := Lib.hid (HBD.out.2 hb)
                obtain ⟨wi', hwi⟩ : ∃ wi', s.W i = wi' := ⟨_, rfl⟩
                rw [hwi] at wd hbn
                clear hb HBD hwi
                by_cases hm : m = N
                · have hl : lw N m = -1 := by unfold lw; rw [if_pos hm]
                  have HNW : Hid (Least (s.badAt c (i + 1)) N i) := Lib.hid (s.least_new HLE3.out HZ.out (by omega) HBB.out)
                  have HLI : Hid (lw N i = (i : Int)) := Lib.hid (by unfold lw; rw [if_neg (by omega)])
                  rw [hl]
                  clear hl
                  go_wp2_with fail
                  go_quiet (((go_at_call 82; exact quiet_eq (HLL.out _))))
                  go_wp2_with fail
                  refine ⟨⟨i + 1, i, by rw [HLI.out], by rw [show (((i + 1 : Nat)) : Int) = (i : Int) + 1 from rfl, HNE.out], by omega, HNW.out, ?_⟩, ?_⟩
                  · repeat first | exact HS2.out | apply Only.drewN
                  · exact msr_lt hiN' hnx1.2.2
                · have hl : lw N m = (m : Int) := by unfold lw; rw [if_neg hm]
                  have HLM := Lib.hid hl
                  have hm0 : (0 : Int) ≤ (m : Int) := by omega
                  rw [hl]
                  clear hl
                  by_cases him : i < m
                  · have himI : (i : Int) < (m : Int) := by omega
                    have HNW : Hid (Least (s.badAt c (i + 1)) N i) := Lib.hid (s.least_new HLE3.out HZ.out him HBB.out)
                    have HLI : Hid (lw N i = (i : Int)) := Lib.hid (by unfold lw; rw [if_neg (by omega)])
                    go_wp2_with fail
                    go_quiet (((go_at_call 82; exact quiet_eq (HLL.out _))))
                    go_wp2_with fail
                    refine ⟨⟨i + 1, i, by rw [HLI.out], by rw [show (((i + 1 : Nat)) : Int) = (i : Int) + 1 from rfl, HNE.out], by omega, HNW.out, ?_⟩, ?_⟩
                    · repeat first | exact HS2.out | apply Only.drewN
                    · exact msr_lt hiN' hnx1.2.2
                  · have himI : (m : Int) ≤ (i : Int) := by omega
                    have HNW : Hid (Least (s.badAt c (i + 1)) N m) := Lib.hid (s.least_old HLE3.out HZ.out (by omega))
                    go_wp2_with fail
                    go_quiet (((go_at_call 82; exact quiet_eq (HLL.out _))))
                    go_wp2_with fail
                    refine ⟨⟨i + 1, m, by rw [HLM.out], by rw [show (((i + 1 : Nat)) : Int) = (i : Int) + 1 from rfl, HNE.out], by omega, HNW.out, ?_⟩, ?_⟩
                    · repeat first | exact HS2.out | apply Only.drewN
                    · exact msr_lt hiN' hnx1.2.2
        · obtain rfl : c = 8 := by omega
          go_wp2_with fail
          go_ret
          exact ⟨⟨m, HLE2.out, rfl⟩, HST2.out⟩
    · have hkN : k < N := by omega
      rw [show (((k + 1 : Nat) : Int) - 1) = (k : Int) by omega] at hy
      subst hy
      have hk0 : (0 : Int) ≤ (k : Int) := by omega
      have hkI : (k : Int) < (N : Int) := by omega
      have o1 := hr.objs.cell (i := k) (by rw [HN.out]; exact hkN) (d := 1) (by omega)
      have HCC := Lib.hid (HCK.out _ hst (k : Int))
      cases hb0 : s.B 0 k with
      | false =>
        have e : s.ro k 1 = 0 := by unfold St.ro; rw [hb0]; rfl
        rw [e] at o1
        have HNB : Hid (Least (fun i => k ≤ i ∧ s.bad0 i) N m) := Lib.hid (HLE.out.down_no fun hh => by have := hh.1; rw [hb0] at this; cases this)
        clear e hle hst hr hb0
        go_wp2_with fail
        exact ⟨⟨k, m, rfl, by go_num, by omega, HNB.out, HST.out⟩, by first | (simp [intOf]; done) | (simp [intOf]; omega)⟩
      | true =>
        have hk := (HS.out.fine k hb0).1.2.2.1
        have e : s.ro k 1 = (s.sh k).k := by unfold St.ro; rw [hb0]; rfl
        rw [e] at o1
        have hkn : ((s.sh k).k != 0) = true := by simp; omega
        have HCB := Lib.hid (s.chk_bad k hb0)
        generalize (s.sh k).k = kd at *
        obtain ⟨⟨r1, r2⟩, hrr⟩ : ∃ r, s.chk (k : Int) = r := ⟨_, rfl⟩
        rw [hrr] at HCB HCC
        dsimp only at HCB HCC
        clear e hle hst hr hb0 hrr hk
        by_cases hbd : (r1 != 0) = true
        · have HNB : Hid (Least (fun i => k ≤ i ∧ s.bad0 i) N k) := Lib.hid (HLE.out.down_yes hkN (HCB.out.1 hbd))
          have HLI : Hid (lw N k = (k : Int)) := Lib.hid (by unfold lw; rw [if_neg (by omega)])
          go_wp2_with fail
          refine HCC.out.mono ?_
          rintro e w2 ⟨rfl, hs2⟩
          have HS2 := Lib.hid (Still.trans HST.out hs2)
          clear hs2
          go_wp2_with fail
          exact ⟨⟨k, k, by rw [HLI.out], by go_num, by omega, HNB.out, HS2.out⟩, by first | (simp [intOf]; done) | (simp [intOf]; omega)⟩
        · have HNB : Hid (Least (fun i => k ≤ i ∧ s.bad0 i) N m) := Lib.hid (HLE.out.down_no fun hh => hbd (HCB.out.2 hh))
          have hbd2 : (r1 != 0) = false := by simpa using hbd
          clear hbd
          go_wp2_with fail
          refine HCC.out.mono ?_
          rintro e w2 ⟨rfl, hs2⟩
          have HS2 := Lib.hid (Still.trans HST.out hs2)
          clear hs2
          go_wp2_with fail
          exact ⟨⟨k, m, rfl, by go_num, by omega, HNB.out, HS2.out⟩, by first | (simp [intOf]; done) | (simp [intOf]; omega)⟩
end Go.Proofs.YtfbcdmhmpfijjaaGreatDoor
