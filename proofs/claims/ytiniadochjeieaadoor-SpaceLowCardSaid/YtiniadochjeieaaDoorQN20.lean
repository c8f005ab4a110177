/-
  The walk of SpaceLow.
-/
import Derived.Test.YtiniadochjeieaaDoorQN19
import Derived.Deep.Cut
import Derived.Deep.CutRange
namespace Go.Proofs.YtiniadochjeieaaDoor
open Go Go.RowKit

/-- The first k pages from q on are free. -/
def St.rowTo (s : St) (q : Nat) : Nat → Bool
  | 0 => true
  | k + 1 => s.rowTo q k && decide ((s.P (q + k)).k = 0)
theorem St.rowTo_iff (s : St) (q : Nat) : ∀ k, s.rowTo q k = true ↔ ∀ j, q ≤ j → j < q + k → (s.P j).k = 0
  | 0 => ⟨fun _ j h1 h2 => by omega, fun _ => rfl⟩
  | k + 1 => by
    have ih := s.rowTo_iff q k
    show (_ && _) = true ↔ _
    rw [Bool.and_eq_true, ih, decide_eq_true_eq]
    constructor
    · rintro ⟨h1, h2⟩ j h3 h4
      by_cases e : j = q + k
      · rw [e]; exact h2
      · exact h1 j h3 (by omega)
    · intro h
      exact ⟨fun j h1 h2 => h j h1 (by omega), h _ (by omega) (by omega)⟩
set_option maxRecDepth 100000 in
set_option maxHeartbeats 6400000 in
theorem low_any (n : Int) (a : Option Addr) (len cap : Nat) (ops : Nat → OpV) (kd q : Int) (w : World) (hn : (Lit.int .i64 n).wf = true) (ho : OpsB w w.heap.size a len ops) (hk : (Lit.int .i64 kd).wf = true) (hq : (Lit.int .i64 q).wf = true) (hT : Tab w) (h0 : 0 < w.heap.size) :
    Calls Tryd.prog 4 #[.int .i64 n, .slice a len cap, .int .i64 kd, .int .i64 q] w fun e w' => e = .returned (.bool true) ∧ Below w.heap.size w w' := by
  obtain ⟨hn1, hn2⟩ := wf_i64 hn
  obtain ⟨hq1, hq2⟩ := wf_i64 hq
  have HK3 := Lib.hid hk
  have HO := Lib.hid ho
  have HT := Lib.hid hT
  have H0 := Lib.hid h0
  have HBG := Lib.hid (begun_any n w hn1 hn2 hT h0)
  have HCN : Hid (∀ (p : Addr) (x y : Nat) (w : World), (binOp .eql 41 (.slice (some p) x y) (.slice none 0 0)).run Tryd.prog w = .ok (.bool false) w) := Lib.hid fun _ _ _ _ => by kernel_rfl
  clear ho hT hn h0 hq hk
  go_enter Tryd.func4, Tryd.ntmps4
  go_wp2_with fail
  refine HBG.out _ (fun w1 L wb hwb hW hst => ?_)
  have HST := Lib.hid hst
  have HW := Lib.hid hW
  have HWB := Lib.hid hwb
  clear hst hW HBG hwb
  go_wp2_with fail
  refine (alive_any w1 (HT.out.only HST.out H0.out) (by have := HW.out.lt; omega)).mono ?_
  rintro e w2 ⟨rfl, hs2⟩
  have HST2 := Lib.hid (Still.trans HST.out hs2)
  have HW2 := Lib.hid (HW.out.still hs2)
  clear HST HW hs2
  have HO2 := Lib.hid ((HO.out.below HST2.out.below).mono HWB.out)
  have HSM := Lib.hid (small_any a len cap ops w2 HO2.out.is)
  obtain ⟨b, hb⟩ : ∃ b, smallB ops len = b := ⟨_, rfl⟩
  rw [hb] at HSM
  go_wp2_with fail
  refine HSM.out.mono ?_
  rintro e w2' ⟨rfl, rfl⟩
  cases b with
  | false =>
    have HBB := Lib.hid hb
    clear hb
    go_wp2_with fail
    refine (alive_any w2 (HT.out.only HST2.out H0.out) (by have := HW2.out.lt; omega)).mono ?_
    rintro e w3 ⟨rfl, hs3⟩
    have HO3 := Lib.hid (HO2.out.below (below_le hs3.below (Nat.le_of_lt HW2.out.lt)))
    have HSM3 := Lib.hid (small_any a len cap ops w3 HO3.out.is)
    rw [HBB.out] at HSM3
    go_wp2_with fail
    refine HSM3.out.mono ?_
    rintro e w4 ⟨rfl, rfl⟩
    go_wp2_with fail
    go_ret
    refine ⟨rfl, ?_⟩
    exact (HST2.out.below.trans (below_le hs3.below (by have := HST2.out.size; omega)))
  | true =>
    have HLL := Lib.hid (smallB_ll hb)
    clear hb
    go_wp2_with fail
    refine played_any _ L _ wb [] (.slice none 0 0) HW2.out a len cap ops HO2.out HLL.out (by show 0 ≤ 1000000; omega) (by simp) _ (fun w5 s5 os5 v5 h5 hn5 ha5 hl5 hf5 => ?_)
    have HW5 := Lib.hid h5
    have HBE5 : Hid (Below w.heap.size w w5) := Lib.hid (HST2.out.below.trans (below_le hf5.b HWB.out))
    have ha5' : s5.acts ≤ 240 := ha5
    have hl5' : os5.length ≤ 120 := by simpa using hl5
    have hn5' : s5.n ≤ 12 := by have h := wi_range n 12 (by omega); have e : s5.n = 1 + (wi n 12).toNat := hn5; omega
    clear h5 hf5 HSM HO2 HLL hn5 ha5 hl5
    go_wp2_with fail
    refine owner_any w5 L s5 wb os5 v5 HW5.out (by omega) _ (fun w6 hs6 hl6 hw6 => ?_)
    have HW6 := Lib.hid (HW5.out.still hs6)
    have HBE6 : Hid (Below w.heap.size w w6) := Lib.hid (HBE5.out.trans (below_le hs6.below (by have := HBE5.out.size; omega)))
    have hcn := HCN.out ⟨w5.heap.size, 0, none⟩ (64 * s5.n) (64 * s5.n)
    have c0 := HW6.out.c0
    have cl := HW6.out.lt
    clear hs6 hl6 hw6 HW5
    have hn1' := HW6.out.sp.n1
    obtain ⟨N, hN⟩ : ∃ N, 64 * s5.n = N := ⟨_, rfl⟩
    have HN := Lib.hid hN
    rw [hN] at hcn ⊢
    have hN1 : (1 : Int) ≤ (N : Int) := by omega
    have hN2 : (N : Int) ≤ 1000 := by omega
    have hwi := wi_range q 1024 (by omega)
    have HWN := Lib.hid (fun w' => within_any q 1024 w' hq1 hq2 (by omega) (by omega))
    obtain ⟨y, hy⟩ : ∃ y, wi q 1024 = y := ⟨_, rfl⟩
    rw [hy] at HWN hwi
    have hy1 := hwi.1
    have hy2 := hwi.2
    clear hN hwi hy
    go_wp2_with fail
    refine (HWN.out _).mono ?_
    rintro e w6' ⟨rfl, rfl⟩
    go_wp2_with fail
    obtain ⟨z, hz⟩ : ∃ z, 1 + y = z := ⟨_, rfl⟩
    rw [hz]
    have hz1 : 1 ≤ z := by omega
    have hz2 : z ≤ 1024 := by omega
    have HCL := Lib.hid (Sp.wide_of hz1 hz2)
    have HCO := Lib.hid (classOf_any z hz1 hz2 w6)
    have HZ := Lib.hid (And.intro hz1 hz2)
    clear hz hy1 hy2 HWN
    refine HCO.out.mono ?_
    rintro e w7 ⟨rfl, hs7⟩
    have HW7 := Lib.hid (HW6.out.still hs7)
    have HBE7 : Hid (Below w.heap.size w w7) := Lib.hid (HBE6.out.trans (below_le hs7.below (by have := HBE6.out.size; omega)))
    have c1 := HW7.out.c1
    have cl := HW7.out.lt
    obtain ⟨v1, hv1⟩ : ∃ v1, Sp.cls z = v1 := ⟨_, rfl⟩
    obtain ⟨v2, hv2⟩ : ∃ v2, Sp.wide z = v2 := ⟨_, rfl⟩
    obtain ⟨v3, hv3⟩ : ∃ v3, Sp.bks v1 = v3 := ⟨_, rfl⟩
    rw [hv1, hv2, hv3]
    have HV1 := Lib.hid hv1
    have HV2 := Lib.hid hv2
    clear hs7 HCO HW6 HBE6 c0 hv1 hv2 hv3
    go_wp2_with fail
    refine dump_any w7 L s5 HW7.out.sp _ (fun u1 u2 u3 w8 hls hs8 => ?_)
    obtain ⟨gp, cp, hu2, hg1, hg2, hgc⟩ := pgs_at hls.r2 (by omega)
    subst hu2
    obtain ⟨a1, n1, p1, rfl⟩ := own_slice hls.r1
    obtain ⟨a3, n3, p3, rfl⟩ := own_slice hls.r3
    have HGC := Lib.hid hgc
    have HS8 := Lib.hid hs8
    clear hgc c1 cl hls hs8
    go_wp2_with fail
    have hdb := heap_alloc_new w8 (.cells #[.slice a1 n1 p1, .slice (some ⟨gp, 0, none⟩) s5.n cp, .slice a3 n3 p3, .int .i64 (s5.hd0 0), .int .i64 (s5.hd0 1), .int .i64 (s5.hd0 2), .int .i64 (s5.hd0 3), .int .i64 (s5.hd0 4), .int .i64 (s5.hd0 5), .int .i64 (s5.hd0 6), .int .i64 (s5.hd0 7), .int .i64 s5.ser] 48)
    have hs9 : Still w8 (w8.alloc (.cells #[.slice a1 n1 p1, .slice (some ⟨gp, 0, none⟩) s5.n cp, .slice a3 n3 p3, .int .i64 (s5.hd0 0), .int .i64 (s5.hd0 1), .int .i64 (s5.hd0 2), .int .i64 (s5.hd0 3), .int .i64 (s5.hd0 4), .int .i64 (s5.hd0 5), .int .i64 (s5.hd0 6), .int .i64 (s5.hd0 7), .int .i64 s5.ser] 48)) := (Only.refl _ _ w8).alloc _
    generalize w8.alloc (.cells #[.slice a1 n1 p1, .slice (some ⟨gp, 0, none⟩) s5.n cp, .slice a3 n3 p3, .int .i64 (s5.hd0 0), .int .i64 (s5.hd0 1), .int .i64 (s5.hd0 2), .int .i64 (s5.hd0 3), .int .i64 (s5.hd0 4), .int .i64 (s5.hd0 5), .int .i64 (s5.hd0 6), .int .i64 (s5.hd0 7), .int .i64 s5.ser] 48) = w9 at *
    obtain ⟨db, hdbe⟩ : ∃ db, w8.heap.size = db := ⟨_, rfl⟩
    rw [hdbe] at hdb ⊢
    have hs79 := Still.trans HS8.out hs9
    have HW9 := Lib.hid (HW7.out.still hs79)
    have HBE9 : Hid (Below w.heap.size w w9) := Lib.hid (HBE7.out.trans (below_le hs79.below (by have := HBE7.out.size; omega)))
    have HF : Hid (∀ W, Still w9 W → Wld W L s5 wb os5 v5 ∧ (W.cell? ⟨db, 1, none⟩ = some (.slice (some ⟨gp, 0, none⟩) s5.n cp) ∧ db < W.heap.size) ∧ (∀ p, p < s5.n → W.cell? ⟨gp, p * 3, none⟩ = some (.int .i64 (s5.P p).k)) ∧ gp < W.heap.size) := Lib.hid fun W h => by
      have hg9 : gp < w9.heap.size := Nat.lt_of_lt_of_le hg2 hs9.size
      refine ⟨HW9.out.still h, ⟨cell_of (v := .slice (some ⟨gp, 0, none⟩) s5.n cp) (at_only h hdb (.inl (Array.getElem?_eq_some_iff.1 hdb).1)) 1 rfl, Nat.lt_of_lt_of_le (Array.getElem?_eq_some_iff.1 hdb).1 h.size⟩, fun p hp => ?_, Nat.lt_of_lt_of_le hg9 h.size⟩
      rw [h.cell (p := ⟨gp, p * 3, none⟩) hg9 (.inl hg9), hs9.cell (p := ⟨gp, p * 3, none⟩) hg2 (.inl hg2)]
      exact (HGC.out p hp).1
    clear hs9 hs79 HS8 HGC hg1 hg2 hdbe hdb HW7 HBE7
    obtain ⟨hW, ⟨d1, dl⟩, _, _⟩ := HF.out w9 (Only.refl _ _ _)
    have c0 := hW.c0
    have cl := hW.lt
    clear hW
    go_quiet (fail)
    have hst9 : Still w9 (w9.drewN nq) := (Only.refl _ _ _).drewN nq
    generalize w9.drewN nq = w10 at *
    have HS10 := Lib.hid hst9
    clear hst9 d1 dl c0 cl
    go_upto_region 10 with fail
    go_cut [89] from 80 to 89 (fun s89 wx => s89 = .bool (decide (0 ≤ s5.ini z)) ∧ Still w9 wx)
    case first =>
      rcases HCL.out with ⟨_, h8, _⟩ | ⟨c, hc, _, hcz, _⟩
      · obtain rfl : v1 = 8 := by rw [← HV1.out]; exact h8
        have hini : decide (0 ≤ s5.ini z) = false := by unfold St.ini; rw [if_pos h8]; rfl
        clear h8
        go_wp2_with fail
        go_meet
        exact ⟨by rw [hini], HS10.out⟩
      · obtain rfl : v1 = (c : Int) := by rw [← HV1.out]; exact hcz
        have hcI : (c : Int) < 8 := by omega
        have hc0 : (0 : Int) ≤ (c : Int) := by omega
        have hini : s5.ini z = s5.hd0 c := by unfold St.ini; rw [if_neg (by omega), hcz, Int.toNat_natCast]
        have HINI := Lib.hid hini
        clear hini hcz
        go_wp2_with fail
        refine firsts_any w10 L s5 wb os5 v5 (HF.out w10 HS10.out).1 (by omega) _ (fun w11 vs hs11 hrows => ?_)
        rw [HN.out] at hrows
        obtain ⟨fa, fq, hvc, _⟩ := ints_at (hrows c hc)
        have hix := fun W => index8 vs c hc W
        rw [hvc] at hix
        have hh := frs_head s5 c
        rw [HN.out, ← frI_length, ← HINI.out] at hh
        obtain ⟨l, hl⟩ : ∃ l, (frI s5 N c).length = l := ⟨_, rfl⟩
        rw [hl] at hix hh
        have hdec : decide ((0 : Int) < (l : Int)) = decide (0 ≤ s5.ini z) := by
          by_cases e : 0 < l
          · rw [decide_eq_true (by omega), decide_eq_true (by have := hh.1 e; omega)]
          · rw [decide_eq_false (by omega), decide_eq_false (by have := hh.2 (by omega); omega)]
        clear hh hl hvc hrows
        go_wp2_with fail
        go_meet
        exact ⟨by rw [← hdec]; exact congrArg Value.bool (decide_eq_decide.2 (by omega)), Still.trans HS10.out hs11⟩
    case rest =>
      obtain ⟨rfl, hsx⟩ := hcut
      obtain ⟨w12, hw12⟩ : ∃ w12, w12 = wc := ⟨_, rfl⟩
      subst hw12
      have HS12 := Lib.hid hsx
      clear hsx HS10
      have HIC : Hid (s5.ini z = -1 ∨ ∃ (c x : Nat), c < 8 ∧ v1 = (c : Int) ∧ s5.ini z = (x : Int) ∧ x < N ∧ (s5.P (x / 64)).k = 1 ∧ 0 < (frI s5 N c).length ∧ (frI s5 N c).getD 0 0 = (x : Int)) := Lib.hid (by
        rcases HCL.out with ⟨_, h8, _⟩ | ⟨c, hc, _, hcz, _⟩
        · left; unfold St.ini; rw [if_pos h8]
        · have hini : s5.ini z = s5.hd0 c := by unfold St.ini; rw [if_neg (by omega), hcz, Int.toNat_natCast]
          have hh := frs_head s5 c
          rw [HN.out] at hh
          by_cases e : 0 < (frs s5 c N).length
          · right
            have hm := (mem_frs s5 c ((frs s5 c N).getD 0 0) N).1 (by simp [e])
            have hpg : (s5.P ((frs s5 c N).getD 0 0 / 64)).k = 1 := by
              obtain ⟨⟨q', i', h1, h2, h3, h4⟩, _⟩ := (HW9.out.inv.free c hc _).1 hm.2
              have := blk_page hc h2 h3
              rw [this.1, h4]
            exact ⟨c, _, hc, by rw [← HV1.out]; exact hcz, by rw [hini]; exact hh.1 e, hm.1, hpg, by rw [frI_length]; exact e, frI_getD _ _ _ _⟩
          · left; rw [hini]; exact hh.2 (by omega))
      go_upto_if 89 with fail
      go_cut [15] from 80 to 95 (fun s15 wx => s15 = .int .i64 (s5.ini z) ∧ Still w9 wx)
      case first =>
        rcases HIC.out with hini | ⟨c, x, hc, hvc1, hini, hxN, _, hl0, hx0⟩
        · have HINI := Lib.hid hini
          rw [hini]
          have hd : decide ((0 : Int) ≤ -1) = false := rfl
          rw [hd]
          clear hini
          go_wp2_with fail
          go_meet
          exact ⟨by rw [HINI.out], HS12.out⟩
        · subst hvc1
          have HINI := Lib.hid hini
          rw [hini]
          have hd : decide ((0 : Int) ≤ (x : Int)) = true := decide_eq_true (by omega)
          rw [hd]
          have hc0 : (0 : Int) ≤ (c : Int) := by omega
          clear hd hini
          go_wp2_with fail
          refine firsts_any w12 L s5 wb os5 v5 (HF.out w12 HS12.out).1 (by omega) _ (fun w13 vs hs13 hrows => ?_)
          rw [HN.out] at hrows
          obtain ⟨fa, fq, hvc, hel⟩ := ints_at (hrows c hc)
          have hix := fun W => index8 vs c hc W
          rw [hvc] at hix
          obtain ⟨g, rfl, _, gl, hgc⟩ := hel 0 hl0 hl0
          rw [hx0] at hgc
          obtain ⟨l, hl⟩ : ∃ l, (frI s5 N c).length = l := ⟨_, rfl⟩
          rw [hl] at hix hl0
          have hlI : (0 : Int) < (l : Int) := by omega
          clear hel hvc hrows hl hx0
          go_wp2_with fail
          go_meet
          exact ⟨by rw [HINI.out], Still.trans HS12.out hs13⟩
      case rest =>
        obtain ⟨rfl, hsx⟩ := hcut
        obtain ⟨w13, hw13⟩ : ∃ w13, w13 = wc := ⟨_, rfl⟩
        subst hw13
        have HS13 := Lib.hid hsx
        clear hsx HS12
        have HM : Hid (1 ≤ Sp.need z ∧ Sp.need z ≤ 16) := Lib.hid (by
          unfold Sp.need
          split
          · next h8 =>
            have h1 := (Sp.wide_run h8).2
            have h2 : Sp.pgs z = (z + 63) / 64 := by unfold Sp.pgs; rw [if_pos h8]
            have := HZ.out
            omega
          · omega)
        go_upto_if 97 with fail
        go_cut [16] from 96 to 99 (fun s16 wx => s16 = .int .i64 (Sp.need z : Int) ∧ w13 = wx)
        case first =>
          rcases HCL.out with ⟨h32, h8, hwd, _⟩ | ⟨c, hc, _, hcz, _⟩
          · obtain rfl : v1 = 8 := by rw [← HV1.out]; exact h8
            have htd : IntKind.i64.wrap (v2.tdiv 64) = (Sp.need z : Int) := by
              have h2 : Sp.pgs z = (z + 63) / 64 := by unfold Sp.pgs; rw [if_pos h8]
              have h3 := HZ.out
              have h4 : v2 = (z + 63) / 64 * 64 := by rw [← HV2.out]; exact hwd
              unfold Sp.need
              rw [if_pos h8, h2, h4, Int.tdiv_eq_ediv_of_nonneg (by omega), IntKind.wrap_i64]
              omega
            have hv2a : 0 ≤ v2 ∧ v2 ≤ 2000 := by have h3 := HZ.out; rw [← HV2.out, hwd]; omega
            obtain ⟨h2a, h2b⟩ := hv2a
            generalize (Sp.need z : Int) = mm at *
            clear h8 hwd h32
            go_wp2_with fail
            go_meet
            exact ⟨by first | rfl | rw [htd] | (congr 1), rfl⟩
          · obtain rfl : v1 = (c : Int) := by rw [← HV1.out]; exact hcz
            have hn1 : Sp.need z = 1 := by unfold Sp.need; rw [if_neg (by omega)]
            have hc8 : ((c : Int) == 8) = false := by simp; omega
            have HN1 := Lib.hid hn1
            clear hcz hn1
            go_wp2_with fail
            go_meet
            exact ⟨by rw [HN1.out]; rfl, rfl⟩
        case rest =>
          obtain ⟨rfl, rfl⟩ := hcut
          obtain ⟨m, hm⟩ : ∃ m, Sp.need z = m := ⟨_, rfl⟩
          have HMM := Lib.hid hm
          rw [hm] at HM ⊢
          have hm1 : (1 : Int) ≤ (m : Int) := by have := HM.out.1; omega
          have hm16 : (m : Int) ≤ 16 := by have := HM.out.2; omega
          obtain ⟨iv, hiv⟩ : ∃ iv, s5.ini z = iv := ⟨_, rfl⟩
          have HIV := Lib.hid hiv
          have HIX : Hid (iv = -1 ∨ ∃ x : Nat, iv = (x : Int) ∧ x < N ∧ (s5.P (x / 64)).k = 1) := Lib.hid (by
            rcases HIC.out with h | ⟨c, x, _, _, h1, h2, h3, _⟩
            · exact .inl (by rw [← hiv]; exact h)
            · exact .inr ⟨x, by rw [← hiv]; exact h1, h2, h3⟩)
          rw [hiv]
          obtain ⟨hW, ⟨d1, dl⟩, hpg, gl⟩ := HF.out w13 HS13.out
          have c0 := hW.c0
          have c1 := hW.c1
          have cl := hW.lt
          have HPG := Lib.hid hpg
          have HW13 := Lib.hid hW
          have hnI : (1 : Int) ≤ (s5.n : Int) := by omega
          have hnI2 : (s5.n : Int) ≤ 12 := by omega
          clear hm hiv hW hpg
          go_wp2_with fail
          go_loopw [15, 17] (fun x y W => ∃ (v p : Int), x = .int .i64 v ∧ y = .int .i64 p ∧ -17 ≤ p ∧ p + m ≤ s5.n ∧ s5.Wnt m iv (p + 1).toNat v ∧ W = w13) (fun _ y _ => (intOf y + 1).toNat)
          case atStart =>
            refine ⟨iv, (s5.n : Int) - (m : Int), rfl, rfl, by omega, by omega, ?_, rfl⟩
            rcases HIX.out with h | ⟨x, h, _⟩
            · exact .inr (.inl ⟨h, h, fun p hp hr => by have := hr.1; omega⟩)
            · exact .inl ⟨by omega, rfl⟩
          case round =>
            obtain ⟨v, p, rfl, rfl, hp17, hpm, hwnt, rfl⟩ := hrel
            by_cases hp0 : 0 ≤ p
            · obtain ⟨q0, rfl⟩ := Int.eq_ofNat_of_zero_le hp0
              have hq1 : ((q0 : Int) + 1).toNat = q0 + 1 := by omega
              rw [hq1] at hwnt
              have HWN := Lib.hid hwnt
              have hqn : q0 + m ≤ s5.n := by omega
              obtain ⟨b0, hb0⟩ : ∃ b0 : Bool, (b0 = false ∧ 0 ≤ iv) ∨ (b0 = true ∧ iv = -1) := by
                rcases HIX.out with h | ⟨x, h, _⟩
                · exact ⟨true, .inr ⟨rfl, h⟩⟩
                · exact ⟨false, .inl ⟨rfl, by omega⟩⟩
              have HB0 := Lib.hid hb0
              clear hwnt hq1
              go_upto_region 18 with fail
              go_cut [18] from 106 to 152 (fun s18 wx => s18 = .bool b0 ∧ wr = wx)
              case first =>
                rcases HWN.out with ⟨h1, rfl⟩ | ⟨h1, rfl, _⟩ | ⟨h1, p1, rfl, hp1, hrow, _⟩
                · obtain rfl : b0 = false := by rcases hb0 with h | h
                                                · exact h.1
                                                · omega
                  rcases HIX.out with h | ⟨x, rfl, hxN, hk⟩
                  · omega
                  · have hx0 : (0 : Int) ≤ (x : Int) := by omega
                    have hx1 : (x : Int) ≤ 1000 := by omega
                    have htm : (x : Int).tmod 64 = ((x % 64 : Nat) : Int) := by rw [Int.tmod_eq_emod_of_nonneg (by omega)]; omega
                    have htd : (x : Int).tdiv 64 = ((x / 64 : Nat) : Int) := by rw [Int.tdiv_eq_ediv_of_nonneg (by omega)]; omega
                    have hxp : x / 64 < s5.n := by have := HN.out; omega
                    have kc := HPG.out (x / 64) hxp
                    rw [hk] at kc
                    have hpI : ((x / 64 : Nat) : Int) < (s5.n : Int) := by omega
                    have hpI0 : (0 : Int) ≤ ((x / 64 : Nat) : Int) := by omega
                    by_cases h64 : x % 64 = 0
                    · have e1 : (((x % 64 : Nat) : Int) == 0) = true := by rw [h64]; rfl
                      by_cases hge : 64 * q0 ≤ x
                      · have hgI : 64 * (q0 : Int) ≤ (x : Int) := by omega
                        generalize x / 64 = xd at *
                        generalize x % 64 = xm at *
                        clear hb0 h1
                        go_wp2_with fail
                        go_meet
                        exact ⟨rfl, rfl⟩
                      · have hgI : (x : Int) < 64 * (q0 : Int) := by omega
                        generalize x / 64 = xd at *
                        generalize x % 64 = xm at *
                        clear hb0 h1
                        go_wp2_with fail
                        go_meet
                        exact ⟨rfl, rfl⟩
                    · have e1 : (((x % 64 : Nat) : Int) == 0) = false := by simp; omega
                      generalize x / 64 = xd at *
                      generalize x % 64 = xm at *
                      clear hb0 h1
                      go_wp2_with fail
                      go_meet
                      exact ⟨rfl, rfl⟩
                · obtain rfl : b0 = true := by rcases hb0 with h | h
                                               · omega
                                               · exact h.1
                  clear hb0 h1
                  go_wp2_with fail
                  go_meet
                  exact ⟨rfl, rfl⟩
                · obtain rfl : b0 = true := by rcases hb0 with h | h
                                               · omega
                                               · exact h.1
                  have hp1n : p1 < s5.n := by have := hrow.1; have := HM.out.1; omega
                  have kc := HPG.out p1 hp1n
                  rw [hrow.2 p1 (Nat.le_refl _) (by have := HM.out.1; omega)] at kc
                  have hx0 : (0 : Int) ≤ 64 * (p1 : Int) := by omega
                  have htm : (64 * (p1 : Int)).tmod 64 = 0 := by rw [Int.tmod_eq_emod_of_nonneg (by omega)]; omega
                  have htd : (64 * (p1 : Int)).tdiv 64 = (p1 : Int) := by rw [Int.tdiv_eq_ediv_of_nonneg (by omega)]; omega
                  have hpI : (p1 : Int) < (s5.n : Int) := by omega
                  have hpI0 : (0 : Int) ≤ (p1 : Int) := by omega
                  have hgI : 64 * (q0 : Int) ≤ 64 * (p1 : Int) := by omega
                  clear hb0 h1 hrow
                  go_wp2_with fail
                  go_meet
                  exact ⟨rfl, rfl⟩
              case rest =>
                obtain ⟨rfl, rfl⟩ := hcut
                go_wp2_with fail
                go_loopw [18, 19] (fun x y W => ∃ i : Nat, x = .bool (b0 && s5.rowTo q0 i) ∧ y = .int .i64 (i : Int) ∧ i ≤ m ∧ W = wr) (fun _ y _ => m + 1 - (intOf y).toNat)
                case atStart => exact ⟨0, by show _ = Value.bool (b0 && true); rw [Bool.and_true], rfl, Nat.zero_le _, rfl⟩
                case round =>
                  obtain ⟨i, rfl, rfl, hi, rfl⟩ := hrel
                  have hi0 : (0 : Int) ≤ (i : Int) := by omega
                  by_cases him : i < m
                  · have hiI : (i : Int) < (m : Int) := by omega
                    have kc := HPG.out (q0 + i) (by omega)
                    obtain ⟨x, hx⟩ : ∃ x, q0 + i = x := ⟨_, rfl⟩
                    have hxI : (q0 : Int) + (i : Int) = (x : Int) := by omega
                    have hx0 : (0 : Int) ≤ (x : Int) := by omega
                    have hxn : (x : Int) < (s5.n : Int) := by omega
                    have hnx : (b0 && s5.rowTo q0 (i + 1)) = ((b0 && s5.rowTo q0 i) && decide ((s5.P x).k = 0)) := by rw [Bool.and_assoc, ← hx]; rfl
                    have HNX := Lib.hid hnx
                    rw [hx] at kc
                    have hke : ((s5.P x).k == 0) = decide ((s5.P x).k = 0) := rfl
                    generalize decide ((s5.P x).k = 0) = u at *
                    generalize (s5.P x).k = kk at *
                    generalize (b0 && s5.rowTo q0 i) = b1 at *
                    clear hnx hx hb0
                    cases b1 with
                    | true =>
                      go_wp2_with fail
                      exact ⟨⟨i + 1, by rw [HNX.out]; rfl, by go_num, him, trivial⟩, by simp [intOf]; omega⟩
                    | false =>
                      go_wp2_with fail
                      exact ⟨⟨i + 1, by rw [HNX.out]; rfl, by go_num, him, trivial⟩, by simp [intOf]; omega⟩
                  · obtain rfl : i = m := by omega
                    have hst := HWN.out.step
                    have hrow := s5.rowTo_iff q0 i
                    have hq2 : ((q0 : Int) - 1 + 1).toNat = q0 := by omega
                    cases hb2 : (b0 && s5.rowTo q0 i) with
                    | true =>
                      have hb2' := hb2
                      rw [Bool.and_eq_true] at hb2'
                      have hiv1 : iv = -1 := by
                        rcases hb0 with h | h
                        · rw [h.1] at hb2'; cases hb2'.1
                        · exact h.2
                      have HW2 := Lib.hid (hst.2.1 hiv1 ⟨hqn, hrow.1 hb2'.2⟩)
                      clear hst hrow hb2' hiv1 hb0 hb2 hq2
                      go_wp2_with fail
                      exact ⟨⟨64 * (q0 : Int), (q0 : Int) - 1, rfl, rfl, by omega, by omega, by rw [show ((q0 : Int) - 1 + 1).toNat = q0 by omega]; exact HW2.out, trivial⟩, by simp [intOf] <;> omega⟩
                    | false =>
                      have HW2 : Hid (s5.Wnt i iv q0 v) := Lib.hid (by
                        rcases hb0 with h | h
                        · exact hst.1 h.2
                        · refine hst.2.2 fun hr => ?_
                          rw [h.1, Bool.true_and] at hb2
                          rw [hrow.2 hr.2] at hb2
                          cases hb2)
                      clear hst hrow hb0 hb2 hq2
                      go_wp2_with fail
                      exact ⟨⟨v, (q0 : Int) - 1, rfl, rfl, by omega, by omega, by rw [show ((q0 : Int) - 1 + 1).toNat = q0 by omega]; exact HW2.out, trivial⟩, by simp [intOf] <;> omega⟩
            · have hpz : (p + 1).toNat = 0 := by omega
              rw [hpz, ← HIV.out, ← HMM.out] at hwnt
              have HTL := Lib.hid (HW13.out.inv.takeLow HW13.out.sp.lowle HZ.out hwnt)
              have hpI : p < 0 := by omega
              have HBE13 : Hid (Below w.heap.size w wr) := Lib.hid (HBE9.out.trans (below_le HS13.out.below (by have := HBE9.out.size; omega)))
              have HAL := Lib.hid (alloc_inv wr L s5 HW13.out.sp HW13.out.inv 3 z kd (wf_of (by have := HZ.out; omega)) (by omega))
              clear hwnt hpz
              go_wp2_with fail
              refine HAL.out _ (fun hf w14 h1 ho => ?_) (fun l w14 hf e h1 hi ho => ?_) (fun s1 a w14 hf e htk h1 hi ho => ?_)
              · rw [fits3 HZ.out] at hf; cases hf
              · obtain rfl := HTL.out.1 _ e
                have hsa : Still w14 (w14.alloc (.cells #[.int .i64 20, .int .i64 0] 56)) := (Only.refl _ _ w14).alloc _
                have hfin : Below w.heap.size w (w14.alloc (.cells #[.int .i64 20, .int .i64 0] 56)) := (HBE13.out.trans (below_le (ho.below HW13.out.loLe) (by have := HW13.out.lo; have := HWB.out; omega))).trans (below_le hsa.below (by have := HBE13.out.size; have := ho.size; omega))
                have HFIN := Lib.hid hfin
                clear e hi hfin h1 hsa
                go_wp2_with fail
                go_ret
                exact ⟨rfl, HFIN.out⟩
              · have hva := HTL.out.2 _ _ e
                subst hva
                have hh := HW13.out.only ho h1
                have hb14 : w14.heap[wb]? = _ := hh.1.trans HW13.out.head
                have hs0 := HW13.out.inv.ser0
                have hs1 := HW13.out.inv.ser1
                have haN : a < 262144 := by have h2 := htk.fit.lt.2; have h3 : s1.n ≤ 4096 := h1.n2; omega
                have HHAS : Hid ((s1.put a 3 z kd).has (a : Int) = true) := Lib.hid (by unfold St.has; rw [decide_eq_true (by omega), Int.toNat_natCast, put_has, if_pos rfl]; rfl)
                have HBLK := Lib.hid (fun w' (hw : SpaceAt w' L (s1.put a 3 z kd)) => block_yes w' L _ hw (a : Int) (wf_of (by omega)) HHAS.out)
                rw [put_sh, if_pos rfl, show Sp.numbered 3 = true from rfl, if_pos rfl, htk.ser] at HBLK
                have H14 := Lib.hid h1
                have ha0 : (0 : Int) ≤ (a : Int) := by omega
                have c1 := cell_of (v := .pointer (some ⟨L.sb, 0, none⟩)) hb14 1 rfl
                have cl := (Array.getElem?_eq_some_iff.1 hb14).1
                have HB14 := Lib.hid hb14
                have hfb := heap_alloc_new w14 (.cells #[.int .i64 0, .int .i64 0] 56)
                have hsa : Still w14 (w14.alloc (.cells #[.int .i64 0, .int .i64 0] 56)) := (Only.refl _ _ w14).alloc _
                have HBE14 : Hid (Below w.heap.size w w14) := Lib.hid (HBE13.out.trans (below_le (ho.below HW13.out.loLe) (by have := HW13.out.lo; have := HWB.out; omega)))
                obtain ⟨sr, hsr⟩ : ∃ sr, s5.ser = sr := ⟨_, rfl⟩
                rw [hsr] at HBLK HB14 hs0 hs1
                have hsr2 : sr ≤ 1000 := by omega
                have hwr : IntKind.i64.wrap (sr + 1) = sr + 1 := by rw [IntKind.wrap_i64]; omega
                clear e htk hi hh hb14 h1 ho hsr d1 dl gl c0
                go_wp2_with fail
                generalize w14.alloc (.cells #[.int .i64 0, .int .i64 0] 56) = w15 at *
                obtain ⟨fb, hfbe⟩ : ∃ fb, w14.heap.size = fb := ⟨_, rfl⟩
                rw [hfbe] at hfb ⊢
                have HFB := Lib.hid hfb
                have HSA := Lib.hid hsa
                clear hsa hfb hfbe
                refine (HBLK.out w15 (H14.out.still HSA.out)).mono ?_
                rintro e w16 ⟨rfl, hs16⟩
                have HS16 := Lib.hid hs16
                clear hs16
                go_wp2_with fail
                have hbb := heap_alloc_new w16 (.cells #[.int .i64 (a : Int), .int .i64 3, .int .i64 z, .int .i64 (sr + 1), .int .i64 kd] 34)
                have hs17 : Still w16 (w16.alloc (.cells #[.int .i64 (a : Int), .int .i64 3, .int .i64 z, .int .i64 (sr + 1), .int .i64 kd] 34)) := (Only.refl _ _ w16).alloc _
                generalize w16.alloc (.cells #[.int .i64 (a : Int), .int .i64 3, .int .i64 z, .int .i64 (sr + 1), .int .i64 kd] 34) = w17 at *
                obtain ⟨bb, hbbe⟩ : ∃ bb, w16.heap.size = bb := ⟨_, rfl⟩
                rw [hbbe] at hbb ⊢
                have hst := Still.trans HSA.out (Still.trans HS16.out hs17)
                have hst2 := Still.trans HS16.out hs17
                have hb17 := at_only hst HB14.out (.inl (Array.getElem?_eq_some_iff.1 HB14.out).1)
                have hf17 := at_only hst2 HFB.out (.inl (Array.getElem?_eq_some_iff.1 HFB.out).1)
                have c3 := cell_of (v := .int .i64 sr) hb17 3 rfl
                have cl := (Array.getElem?_eq_some_iff.1 hb17).1
                have f0 := cell_of (v := .int .i64 0) hf17 0 rfl
                have f1 := cell_of (v := .int .i64 0) hf17 1 rfl
                have fl := (Array.getElem?_eq_some_iff.1 hf17).1
                have b0 := cell_of (v := .int .i64 (a : Int)) hbb 0 rfl
                have b1 := cell_of (v := .int .i64 3) hbb 1 rfl
                have b2 := cell_of (v := .int .i64 z) hbb 2 rfl
                have b3 := cell_of (v := .int .i64 (sr + 1)) hbb 3 rfl
                have b4 := cell_of (v := .int .i64 kd) hbb 4 rfl
                have bl := (Array.getElem?_eq_some_iff.1 hbb).1
                have HFIN : Hid (Below w.heap.size w w17) := Lib.hid (HBE14.out.trans (below_le hst.below (by have := HBE14.out.size; omega)))
                clear hst hst2 hb17 hf17 hbb hs17 hbbe
                go_quiet (fail)
                go_wp2_with fail
                go_ret
                have hdr : ∀ k, Still w17 (w17.drewN k) := fun k => (Only.refl _ _ _).drewN k
                exact ⟨rfl, HFIN.out.trans (below_le (hdr _).below (by have := HFIN.out.size; omega))⟩
end Go.Proofs.YtiniadochjeieaaDoor
