/-
  The walk of SpaceFills.
-/
import Derived.Test.YtiniadochjeieaaDoorQY
namespace Go.Proofs.YtiniadochjeieaaDoor
open Go Go.RowKit

theorem row_one {W : World} {b : Nat} {z : Int} {T : TypeId} (h : W.heap[b]? = some (.cells #[.int .i64 z] T (0, 0))) (hz : (Lit.int .i64 z).wf = true) : IsRowI W (some ⟨b, 0, none⟩) 1 1 fun _ => z :=
  ⟨by omega, fun i hi => ⟨⟨b, 0, none⟩, rfl, by
    obtain rfl : i = 0 := by omega
    rw [add_at]
    exact cell_of (v := .int .i64 z) h 0 rfl, hz⟩⟩
set_option maxRecDepth 100000 in
set_option maxHeartbeats 6400000 in
theorem fills_any (n q : Int) (w : World) (hn : (Lit.int .i64 n).wf = true) (hq : (Lit.int .i64 q).wf = true) (hT : Tab w) (h0 : 0 < w.heap.size) :
    Calls Tryd.prog 5 #[.int .i64 n, .int .i64 q] w fun e w' => e = .returned (.bool true) ∧ Below w.heap.size w w' := by
  obtain ⟨hn1, hn2⟩ := wf_i64 hn
  obtain ⟨hq1, hq2⟩ := wf_i64 hq
  have HT := Lib.hid hT
  have H0 := Lib.hid h0
  have HBG := Lib.hid (opened_any n w hn1 hn2 hT h0)
  clear hT hn h0 hq
  go_enter Tryd.func5, Tryd.ntmps5
  go_wp2_with fail
  refine HBG.out _ (fun w1 L wb m hm1 hm2 hwb hW hst => ?_)
  have HST := Lib.hid hst
  have HW := Lib.hid hW
  have HWB := Lib.hid hwb
  clear hst hW HBG hwb
  go_wp2_with fail
  refine (alive_any w1 (HT.out.only HST.out H0.out) (by have := HW.out.lt; omega)).mono ?_
  rintro e w2 ⟨rfl, hs2⟩
  have HST2 := Lib.hid (Still.trans HST.out hs2)
  have HW2 := Lib.hid (HW.out.still hs2)
  clear HST HW hs2
  have hwi := wi_range q 1024 (by omega)
  have HWN := Lib.hid (fun w' => within_any q 1024 w' hq1 hq2 (by omega) (by omega))
  obtain ⟨y, hy⟩ : ∃ y, wi q 1024 = y := ⟨_, rfl⟩
  rw [hy] at HWN hwi
  have hy1 := hwi.1
  have hy2 := hwi.2
  clear hwi hy
  go_wp2_with fail
  refine (HWN.out _).mono ?_
  rintro e w2' ⟨rfl, rfl⟩
  go_wp2_with fail
  obtain ⟨z, hz⟩ : ∃ z, 1 + y = z := ⟨_, rfl⟩
  rw [hz]
  have hz1 : 1 ≤ z := by omega
  have hz2 : z ≤ 1024 := by omega
  have HCL := Lib.hid (Sp.wide_of hz1 hz2)
  have HCO := Lib.hid (classOf_any z hz1 hz2 w2)
  have HZ := Lib.hid (And.intro hz1 hz2)
  clear hz hy1 hy2 HWN
  refine HCO.out.mono ?_
  rintro e w3 ⟨rfl, hs3⟩
  have HW3 := Lib.hid (HW2.out.still hs3)
  have HST3 := Lib.hid (Still.trans HST2.out hs3)
  have c0 := HW3.out.c0
  have c1 := HW3.out.c1
  have cl := HW3.out.lt
  have hmI1 : (1 : Int) ≤ (m : Int) := by omega
  have hmI2 : (m : Int) ≤ 4096 := by omega
  rw [show (St.new m).n = m from rfl] at c0
  obtain ⟨v1, hv1⟩ : ∃ v1, Sp.cls z = v1 := ⟨_, rfl⟩
  obtain ⟨v2, hv2⟩ : ∃ v2, Sp.wide z = v2 := ⟨_, rfl⟩
  obtain ⟨v3, hv3⟩ : ∃ v3, Sp.bks v1 = v3 := ⟨_, rfl⟩
  rw [hv1, hv2, hv3]
  have HV := Lib.hid (And.intro hv1 (And.intro hv2 hv3))
  clear hs3 HCO HW2 HST2 hv1 hv2 hv3
  have hwl : 0 ≤ v2 ∧ v2 ≤ 1024 := by rw [← HV.out.2.1]; exact Sp.wide_le z
  obtain ⟨hv2a, hv2b⟩ := hwl
  have hml := mostOf_le (n := m) HZ.out
  obtain ⟨M, hM⟩ : ∃ M, mostOf m z = M := ⟨_, rfl⟩
  have HM := Lib.hid hM
  rw [hM] at hml
  go_upto_if 43 with fail
  go_cut [10] from 41 to 50 (fun s10 wx => s10 = .int .i64 (M : Int) ∧ w3 = wx)
  case first =>
    rcases HCL.out with ⟨h32, h8, hwd, hb0⟩ | ⟨c, hc, _, hcz, hwd, hbk, _⟩
    · have e3 : v3 = 0 := by rw [← HV.out.2.2, ← HV.out.1]; exact hb0
      subst e3
      have hpz : Sp.pgs z = (z + 63) / 64 := by unfold Sp.pgs; rw [if_pos h8]
      have hz3 := HZ.out
      obtain ⟨mp, hmp⟩ : ∃ mp : Nat, Sp.pgs z = (mp : Int) := ⟨(Sp.pgs z).toNat, by omega⟩
      have hmp1 : (1 : Int) ≤ (mp : Int) := by omega
      have htd : v2.tdiv 64 = (mp : Int) := by rw [← HV.out.2.1, hwd, ← hmp, hpz, Int.tdiv_eq_ediv_of_nonneg (by omega)]; omega
      have hmp2 : (mp : Int) ≤ 16 := by omega
      have hne : ((mp : Int) == 0) = false := by simp; omega
      have htq : (m : Int).tdiv (mp : Int) = (M : Int) := by
        rw [Int.tdiv_eq_ediv_of_nonneg (by omega), ← HM.out]
        unfold mostOf
        rw [if_pos h8, hmp, Int.toNat_natCast]
        rfl
      have hMb : (M : Int) ≤ 200000 := by omega
      have hMa : (0 : Int) ≤ (M : Int) := by omega
      clear h8 hwd hb0 hpz hmp h32 hz3
      go_wp2_with fail
      go_meet
      exact ⟨rfl, rfl⟩
    · have hbb := bk_le c hc
      have e3 : v3 = (Sp.bk c : Int) := by rw [← HV.out.2.2, ← HV.out.1, hcz, bks_bk c hc]
      have hw3 : wrap64 ((m : Int) * v3) = (M : Int) := by
        have h1 : mostOf m z = m * Sp.bk c := by unfold mostOf; rw [if_neg (by omega), hcz, Int.toNat_natCast]
        have h2 : (m : Int) * v3 = (M : Int) := by rw [e3, ← HM.out, h1]; simp
        rw [h2, ← IntWalk.i64_left, IntKind.wrap_i64]
        omega
      have hne : (v3 == 0) = false := by rw [e3]; simp; omega
      rw [hw3]
      clear hcz hwd hbk hw3 e3
      go_wp2_with fail
      go_meet
      exact ⟨rfl, rfl⟩
  case rest =>
    obtain ⟨rfl, rfl⟩ := hcut
    obtain ⟨R, hR⟩ : ∃ R, M * (Sp.wide z).toNat = R := ⟨_, rfl⟩
    obtain ⟨D, hD⟩ : ∃ D, 64 * m = D := ⟨_, rfl⟩
    have hMR : (M : Int) * v2 = (R : Int) := by
      rw [← hR, ← HV.out.2.1]
      have := (Sp.wide_le z).1
      obtain ⟨x, hx⟩ := Int.eq_ofNat_of_zero_le this
      rw [hx]; simp
    have hDI : 64 * (m : Int) = (D : Int) := by omega
    have hRb : (R : Int) ≤ 262144 := by omega
    have hR0 : (0 : Int) ≤ (R : Int) := by omega
    have hDb : (D : Int) ≤ 262144 := by omega
    have hD1 : (64 : Int) ≤ (D : Int) := by omega
    have hMI : (M : Int) ≤ 200000 := by omega
    have hM0 : (0 : Int) ≤ (M : Int) := by omega
    obtain ⟨q1, hq1a, hq1b, _⟩ := quo_nat (r := R) (d := D) (by omega) (by omega)
    obtain ⟨q0, hq0a, hq0b, hq0c⟩ := quo_nat (r := 0) (d := D) (by omega) (by omega)
    obtain rfl := hq0c rfl
    have hqq := fun (W : World) => run_float_arith (P := Tryd.prog) W .quo 61 .f64 _ _ q1 hq1a
    have hnq := fun (W : World) => run_neq_float 61 .f64 q1 q1 hq1b W
    have hn0 := fun (W : World) => run_neq_float 61 .f64 0 0 hq0b W
    have HQ := Lib.hid (And.intro hq1a hq0a)
    have HOR := Lib.hid (And.intro hq1b hq0b)
    have HRR := Lib.hid (And.intro hR hD)
    have hwz : (Lit.int .i64 z).wf = true := wf_of (by omega)
    have HWZ := Lib.hid hwz
    have HF : Hid (Fil w3 L m z M 0 0 (St.new m) w3) := Lib.hid (by rw [← hM]; exact Fil.start HZ.out HW3.out.sp rfl hm1 hm2)
    have HC : Hid (∀ W, Only L.lo L.hi w3 W → W.cell? ⟨wb, 0, none⟩ = some (.int .i64 (m : Int)) ∧ W.cell? ⟨wb, 1, none⟩ = some (.pointer (some ⟨L.sb, 0, none⟩)) ∧ wb < W.heap.size) := Lib.hid fun W h =>
      ⟨(h.cell (p := ⟨wb, 0, none⟩) HW3.out.lt (.inl HW3.out.lo)).trans HW3.out.c0, (h.cell (p := ⟨wb, 1, none⟩) HW3.out.lt (.inl HW3.out.lo)).trans HW3.out.c1, Nat.lt_of_lt_of_le HW3.out.lt h.size⟩
    have HAL : Hid (∀ (rd i : Nat) (s : St) (W : World), rd < 2 → i ≤ M → Fil w3 L m z M rd i s W → ∀ Q : Ending → World → Prop,
        (i < M → ∀ s' a W', Fil w3 L m z M rd (i + 1) s' W' → Q (.returned (.tuple #[.int .i64 ((a : Nat) : Int), faultV 0 0])) W') →
        (i = M → ∀ s' W', Fil w3 L m z M rd i s' W' → Q (.returned (.tuple #[.int .i64 0, faultV 20 0])) W') →
        Calls Tryd.prog 24 #[.pointer (some ⟨L.sb, 0, none⟩), .int .i64 3, .int .i64 z, .int .i64 0] W Q) := Lib.hid fun rd i s W hrd hiM h Q h1 h2 => by
      have hac : s.acts + 2 ≤ 1000000000000 := by
        have := h.acts
        have h3 : rd * M ≤ 1 * M := Nat.mul_le_mul_right _ (by omega)
        omega
      refine alloc_inv W L s h.sp h.inv 3 z 0 HWZ.out hac Q (fun hf => ?_) (fun l w' _ e hs hi ho => ?_) (fun s1 a w' _ e ht hs hi ho => ?_)
      · rw [fits3 HZ.out] at hf; cases hf
      · obtain ⟨h3, h4⟩ := h.full HZ.out e hs hi ho
        exact h2 h3 _ _ h4
      · obtain ⟨h3, h4⟩ := h.put HZ.out e ht hs hi ho
        exact h1 h3 _ _ _ h4
    clear hq1a hq1b hq0a hq0b hR hD c0 c1 cl hM
    go_wp2_with fail
    go_loopw [11] (fun y W => ∃ rd : Nat, y = .int .i64 (rd : Int) ∧ rd ≤ 2 ∧ ∃ s, Fil w3 L m z M rd 0 s W) (fun y _ => 3 - (intOf y).toNat)
    case atStart => exact ⟨0, rfl, Nat.zero_le _, _, HF.out⟩
    case round =>
      obtain ⟨rd, rfl, hrd, s, hfil⟩ := hrel
      have hrd0 : (0 : Int) ≤ (rd : Int) := by omega
      have HFL := Lib.hid hfil
      obtain ⟨c0, c1, cl⟩ := HC.out _ hfil.on
      by_cases hrd2 : rd < 2
      · have hrdI : (rd : Int) < 2 := by omega
        clear hfil
        go_wp2_with fail
        clear c0 c1 cl
        go_loopw [12] (fun y W => ∃ i : Nat, y = .int .i64 (i : Int) ∧ i ≤ M ∧ ∃ s, Fil w3 L m z M rd i s W) (fun y _ => M + 1 - (intOf y).toNat)
        case atStart => exact ⟨0, rfl, Nat.zero_le _, _, HFL.out⟩
        case round =>
          obtain ⟨i, rfl, hi, s2, hfil⟩ := hrel
          have hi0 : (0 : Int) ≤ (i : Int) := by omega
          have HF2 := Lib.hid hfil
          obtain ⟨c0, c1, cl⟩ := HC.out _ hfil.on
          clear hfil
          by_cases hiM : i < M
          · have hiI : (i : Int) < (M : Int) := by omega
            go_wp2_with fail
            refine HAL.out rd i s2 _ hrd2 hi HF2.out _ (fun _ s3 a3 w4 hf3 => ?_) (fun e => by omega)
            have HF3 := Lib.hid hf3
            have ha0 : (0 : Int) ≤ (a3 : Int) := by omega
            have hsa : Still w4 (w4.alloc (.cells #[.int .i64 0, .int .i64 0] 56)) := (Only.refl _ _ w4).alloc _
            have HF4 := Lib.hid (hf3.still hsa)
            clear hf3 hsa
            go_wp2_with fail
            exact ⟨⟨i + 1, by go_num, hiM, _, HF4.out⟩, by simp [intOf]; omega⟩
          · obtain rfl : i = M := by omega
            go_wp2_with fail
            refine HAL.out rd i s2 _ hrd2 hi HF2.out _ (fun e => by omega) (fun _ s3 w4 hf3 => ?_)
            have hfb := heap_alloc_new w4 (.cells #[.int .i64 20, .int .i64 0] 56)
            have hsa : Still w4 (w4.alloc (.cells #[.int .i64 20, .int .i64 0] 56)) := (Only.refl _ _ w4).alloc _
            go_upto_region 19 with fail
            generalize w4.alloc (.cells #[.int .i64 20, .int .i64 0] 56) = w5 at *
            obtain ⟨fb, hfbe⟩ : ∃ fb, w4.heap.size = fb := ⟨_, rfl⟩
            rw [hfbe] at hfb ⊢
            have HF5 := Lib.hid (hf3.still hsa)
            have HFB := Lib.hid hfb
            clear hf3 hsa hfb hfbe
            have hh0 : s3.hold z = 0 := by have := HF5.out.hold; omega
            have hfo := HF5.out.inv.fitsOne HF5.out.sp.lowle HZ.out hh0
            have HFT : Hid (∀ (W : World) (b : Nat), SpaceAt W L s3 → IsRowI W (some ⟨b, 0, none⟩) 1 1 (fun _ => z) → Calls Tryd.prog 27 #[.pointer (some ⟨L.sb, 0, none⟩), .slice (some ⟨b, 0, none⟩) 1 1] W fun e w' => e = .returned (.bool false) ∧ Still W w') := Lib.hid fun W b h1 h2 => by
              refine (sfits_any W L s3 h1 _ 1 1 _ h2 (by omega)).mono ?_
              rintro e w' ⟨rfl, hs⟩
              exact ⟨by rw [hfo], hs⟩
            have hroom : s3.room = (R : Int) := by rw [HF5.out.room, ← HRR.out.1]
            have hnD : 64 * s3.n = D := by rw [HF5.out.nn]; exact HRR.out.2
            have HUS : Hid (∀ (W : World), SpaceAt W L s3 → Calls Tryd.prog 28 #[.pointer (some ⟨L.sb, 0, none⟩)] W fun e w' => e = .returned (.float .f64 q1) ∧ Still W w') := Lib.hid fun W h1 => by
              refine (suse_any W L s3 h1 (q := q1) hroom (by rw [hnD]; exact HQ.out.1)).mono ?_
              rintro e w' ⟨rfl, k, rfl⟩
              exact ⟨rfl, (Only.refl _ _ W).drewN k⟩
            have HS1 : Hid (∀ w', Still w5 w' → w'.cell? ⟨fb, 0, none⟩ = some (.int .i64 20) ∧ w'.cell? ⟨wb, 1, none⟩ = some (.pointer (some ⟨L.sb, 0, none⟩)) ∧ w'.cell? ⟨wb, 0, none⟩ = some (.int .i64 (m : Int))) := Lib.hid fun w' h => by
              obtain ⟨g0, g1, _⟩ := HC.out w' (HF5.out.on.andStill h)
              exact ⟨cell_of (v := .int .i64 20) (at_only h HFB.out (.inl (Array.getElem?_eq_some_iff.1 HFB.out).1)) 0 rfl, g1, g0⟩
            have hsW : Still w5 w5 := Only.refl _ _ _
            have hwR : IntKind.i64.wrap (R : Int) = (R : Int) := by rw [IntKind.wrap_i64]; omega
            have hwD : IntKind.i64.wrap (D : Int) = (D : Int) := by rw [IntKind.wrap_i64]; omega
            clear hh0 hfo hroom hnD c0 c1 cl HF2
            go_cut [111] from 81 to 111 (fun s111 wx => s111 = .bool false ∧ Still w5 wx)
            case first =>
              go_region_held3 (fun w' => w'.cell? ⟨fb, 0, none⟩ = some (.int .i64 20) ∧ w'.cell? ⟨wb, 1, none⟩ = some (.pointer (some ⟨L.sb, 0, none⟩)) ∧ w'.cell? ⟨wb, 0, none⟩ = some (.int .i64 (m : Int)))
                ((refine HS1.out _ ?_; (repeat first | with_reducible exact hsW | with_reducible exact Only.refl _ _ _ | with_reducible apply Only.drew | with_reducible apply Only.drewN | with_reducible apply Only.alloc)))
                (first
                  | (go_at_call 27; refine (HFT.out _ _ (HF5.out.sp.still (by (repeat first | with_reducible exact hsW | with_reducible exact Only.refl _ _ _ | with_reducible apply Only.drew | with_reducible apply Only.drewN | with_reducible apply Only.alloc))) (by exact row_one (T := 3) (heap_alloc_new _ _) HWZ.out)).mono ?_; rintro e wp ⟨rfl, hcall⟩; have hsW : Still w5 wp := Still.trans (by (repeat first | with_reducible exact hsW | with_reducible exact Only.refl _ _ _ | with_reducible apply Only.drew | with_reducible apply Only.drewN | with_reducible apply Only.alloc)) hcall)
                  | (go_at_call 28; refine (HUS.out _ (HF5.out.sp.still (by (repeat first | with_reducible exact hsW | with_reducible exact Only.refl _ _ _ | with_reducible apply Only.drew | with_reducible apply Only.drewN | with_reducible apply Only.alloc)))).mono ?_; rintro e wq ⟨rfl, hcall⟩; have hsW : Still w5 wq := Still.trans (by (repeat first | with_reducible exact hsW | with_reducible exact Only.refl _ _ _ | with_reducible apply Only.drew | with_reducible apply Only.drewN | with_reducible apply Only.alloc)) hcall))
              all_goals
                rename_i hHeld
                clear hHeld
                go_wp2_with fail
                go_meet
                exact ⟨by show Value.bool (Ieee.double.order q1 q1 != some .eq) = _; rw [HOR.out.1]; rfl, by (repeat first | with_reducible exact hsW | with_reducible exact Only.refl _ _ _ | with_reducible apply Only.drew | with_reducible apply Only.drewN | with_reducible apply Only.alloc)⟩
            case rest =>
              obtain ⟨rfl, hsc⟩ := hcut
              obtain ⟨w6, hw6⟩ : ∃ w6, w6 = wc := ⟨_, rfl⟩
              subst hw6
              have HF6 := Lib.hid (HF5.out.still hsc)
              obtain ⟨c0, c1, cl⟩ := HC.out _ HF6.out.on
              have HKP := Lib.hid (keep_inv w6 L s3 HF6.out.sp HF6.out.inv (.slice none 0 0) [] (.inl ⟨rfl, rfl⟩) (fun j hj => by cases hj))
              have hcnt : Bm.cnt (fun x => s3.B 0 x && !stayTo [] ([] : List Int).length x) 0 (64 * s3.n) = i := by
                rw [← HF6.out.cnt, HF6.out.nn]
                exact Bm.cnt_congr fun x _ _ => by show (s3.B 0 x && !false) = _; rw [Bool.not_false, Bool.and_true]
              rw [hcnt] at HKP
              clear hsc hcnt
              go_wp2_with fail
              refine HKP.out _ (fun w7 t hk hs7 ho7 => ?_)
              have hf7 : Fil w3 L m z (mostOf m z) (rd + 1) 0 t w7 := Fil.none (by rw [HM.out]; exact HF6.out) HZ.out (by rw [HM.out]) hk hs7 ho7
              rw [HM.out] at hf7
              have HF7 := Lib.hid hf7
              obtain ⟨d0, d1, dl⟩ := HC.out _ hf7.on
              have hroom : t.room = ((0 : Nat) : Int) := by rw [hf7.room, Nat.zero_mul]
              have hnD : 64 * t.n = D := by rw [hf7.nn]; exact HRR.out.2
              have HU7 := Lib.hid (suse_any w7 L t hs7 (q := 0) hroom (by rw [hnD]; exact HQ.out.2))
              clear hf7 hk hs7 ho7 hroom hnD c0 c1 cl
              go_wp2_with fail
              refine HU7.out.mono ?_
              rintro e w8 ⟨rfl, k, rfl⟩
              have HF8 := Lib.hid (HF7.out.still ((Only.refl _ _ w7).drewN k : Still w7 _))
              go_wp2_with fail
              refine ⟨⟨rd + 1, by go_num, hrd2, _, HF8.out⟩, by simp [intOf]; omega⟩
      · obtain rfl : rd = 2 := by omega
        have hser := hfil.ser
        obtain ⟨S, hS⟩ : ∃ S, 2 * M + 0 = S := ⟨_, rfl⟩
        rw [hS] at hser
        have hSI : 2 * (M : Int) = (S : Int) := by omega
        have HSE := Lib.hid hser
        clear hfil hser
        go_wp2_with fail
        refine dump_any wr L s HFL.out.sp _ (fun u1 u2 u3 w9 hls hs9 => ?_)
        obtain ⟨a1, n1, p1, rfl⟩ := own_slice hls.r1
        obtain ⟨a2, n2, p2, rfl⟩ := own_slice hls.r2
        obtain ⟨a3, n3, p3, rfl⟩ := own_slice hls.r3
        have hfd : ∀ (x1 x2 x3 : Value) (y0 y1 y2 y3 y4 y5 y6 y7 y8 : Int) W, (Instr.field 48 (.agg #[x1, x2, x3, .int .i64 y0, .int .i64 y1, .int .i64 y2, .int .i64 y3, .int .i64 y4, .int .i64 y5, .int .i64 y6, .int .i64 y7, .int .i64 y8]) 4).run Tryd.prog W = .ok (.int .i64 y8) W := fun _ _ _ _ _ _ _ _ _ _ _ _ _ => by kernel_rfl
        have HS9 := Lib.hid hs9
        have hfin : Below w.heap.size w w9 := (HST3.out.below.trans (below_le (HFL.out.on.below HW3.out.loLe) (by have := HW3.out.lo; have := HWB.out; omega))).trans (below_le hs9.below (by have := HST3.out.size; have := HFL.out.on.size; omega))
        have HFIN := Lib.hid hfin
        rw [HSE.out]
        clear hls hs9 hfin
        go_wp2_with fail
        go_ret
        exact ⟨rfl, HFIN.out⟩
end Go.Proofs.YtiniadochjeieaaDoor
