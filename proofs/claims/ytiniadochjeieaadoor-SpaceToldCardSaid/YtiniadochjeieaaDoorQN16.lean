/-
  The walk of SpaceTold.
-/
import Derived.Test.YtiniadochjeieaaDoorQV
namespace Go.Proofs.YtiniadochjeieaaDoor
open Go Go.RowKit

theorem fobj_cell {w : World} {b : Nat} {vs : Nat → Value} (h : w.heap[b]? = some (fobj vs)) (c : Nat) (hc : c < 8) : w.cell? ⟨b, c, none⟩ = some (vs c) := by
  simp only [World.cell?, h]
  have h8 : c = 0 ∨ c = 1 ∨ c = 2 ∨ c = 3 ∨ c = 4 ∨ c = 5 ∨ c = 6 ∨ c = 7 := by omega
  rcases h8 with rfl | rfl | rfl | rfl | rfl | rfl | rfl | rfl <;> rfl
set_option maxRecDepth 100000 in
set_option maxHeartbeats 6400000 in
theorem told_any (n : Int) (a : Option Addr) (len cap : Nat) (ops : Nat → OpV) (q x : Int) (w : World) (hn : (Lit.int .i64 n).wf = true) (ho : OpsB w w.heap.size a len ops) (hq : (Lit.int .i64 q).wf = true) (hx : (Lit.int .i64 x).wf = true) (hT : Tab w) (h0 : 0 < w.heap.size) :
    Calls Tryd.prog 8 #[.int .i64 n, .slice a len cap, .int .i64 q, .int .i64 x] w fun e w' => e = .returned (.bool true) ∧ Below w.heap.size w w' := by
  obtain ⟨hn1, hn2⟩ := wf_i64 hn
  obtain ⟨hq1, hq2⟩ := wf_i64 hq
  obtain ⟨hx1, hx2⟩ := wf_i64 hx
  have HO := Lib.hid ho
  have HT := Lib.hid hT
  have H0 := Lib.hid h0
  have HBG := Lib.hid (begun_any n w hn1 hn2 hT h0)
  have HCN : Hid (∀ (p : Addr) (x y : Nat) (w : World), (binOp .eql 41 (.slice (some p) x y) (.slice none 0 0)).run Tryd.prog w = .ok (.bool false) w) := Lib.hid fun _ _ _ _ => by kernel_rfl
  clear ho hT hn h0 hq hx
  go_enter Tryd.func8, Tryd.ntmps8
  go_wp2_with fail
  refine HBG.out _ (fun w1 L wb hwb hW hst => ?_)
  have HST := Lib.hid hst
  have HW := Lib.hid hW
  have HWB := Lib.hid hwb
  clear hst hW HBG hwb
  go_wp2_with fail
  refine (alive_any w1 (HT.out.only HST.out H0.out) (by have := HW.out.lt; omega)).mono ?_
  rintro e w2 ⟨rfl, hs2⟩
  have HST2 := Lib.hid (Still.trans HST.out hs2)
  have HW2 := Lib.hid (HW.out.still hs2)
  clear HST HW hs2
  have HO2 := Lib.hid ((HO.out.below HST2.out.below).mono HWB.out)
  have HSM := Lib.hid (small_any a len cap ops w2 HO2.out.is)
  obtain ⟨b, hb⟩ : ∃ b, smallB ops len = b := ⟨_, rfl⟩
  rw [hb] at HSM
  go_wp2_with fail
  refine HSM.out.mono ?_
  rintro e w2' ⟨rfl, rfl⟩
  cases b with
  | false =>
    have HBB := Lib.hid hb
    clear hb
    go_wp2_with fail
    refine (alive_any w2 (HT.out.only HST2.out H0.out) (by have := HW2.out.lt; omega)).mono ?_
    rintro e w3 ⟨rfl, hs3⟩
    have HO3 := Lib.hid (HO2.out.below (below_le hs3.below (Nat.le_of_lt HW2.out.lt)))
    have HSM3 := Lib.hid (small_any a len cap ops w3 HO3.out.is)
    rw [HBB.out] at HSM3
    go_wp2_with fail
    refine HSM3.out.mono ?_
    rintro e w4 ⟨rfl, rfl⟩
    go_wp2_with fail
    go_ret
    refine ⟨rfl, ?_⟩
    exact (HST2.out.below.trans (below_le hs3.below (by have := HST2.out.size; omega)))
  | true =>
    have HLL := Lib.hid (smallB_ll hb)
    clear hb
    go_wp2_with fail
    refine played_any _ L _ wb [] (.slice none 0 0) HW2.out a len cap ops HO2.out HLL.out (by show 0 ≤ 1000000; omega) (by simp) _ (fun w5 s5 os5 v5 h5 hn5 ha5 hl5 hf5 => ?_)
    have HW5 := Lib.hid h5
    have HBE5 : Hid (Below w.heap.size w w5) := Lib.hid (HST2.out.below.trans (below_le hf5.b HWB.out))
    have ha5' : s5.acts ≤ 240 := ha5
    have hl5' : os5.length ≤ 120 := by simpa using hl5
    have hn5' : s5.n ≤ 12 := by have h := wi_range n 12 (by omega); have e : s5.n = 1 + (wi n 12).toNat := hn5; omega
    clear h5 hf5 HSM HO2 HLL hn5 ha5 hl5
    go_wp2_with fail
    refine owner_any w5 L s5 wb os5 v5 HW5.out (by omega) _ (fun w6 hs6 hl6 hw6 => ?_)
    have HW6 := Lib.hid (HW5.out.still hs6)
    have HBE6 : Hid (Below w.heap.size w w6) := Lib.hid (HBE5.out.trans (below_le hs6.below (by have := HBE5.out.size; omega)))
    have hcn := HCN.out ⟨w5.heap.size, 0, none⟩ (64 * s5.n) (64 * s5.n)
    have c0 := HW6.out.c0
    have cl := HW6.out.lt
    clear hs6 hl6 hw6 HW5
    have hn1' := HW6.out.sp.n1
    obtain ⟨N, hN⟩ : ∃ N, 64 * s5.n = N := ⟨_, rfl⟩
    have HN := Lib.hid hN
    have hmul : IntKind.i64.wrap (64 * (s5.n : Int)) = (N : Int) := by rw [IntKind.wrap_i64]; omega
    have hN1 : (1 : Int) ≤ (N : Int) := by omega
    have hN2 : (N : Int) ≤ 1000 := by omega
    rw [hN] at hcn ⊢
    have hwi := wi_range q N (by omega)
    obtain ⟨at0, hat⟩ : ∃ at0 : Nat, wi q N = (at0 : Int) := ⟨(wi q N).toNat, by omega⟩
    have HWN := Lib.hid (fun w' => within_any q (N : Int) w' hq1 hq2 (by omega) (by omega))
    rw [hat] at HWN hwi
    have hatN : (at0 : Int) < (N : Int) := hwi.2
    have hat0 : (0 : Int) ≤ (at0 : Int) := by omega
    clear hN hat hwi
    go_wp2_with fail
    refine (HWN.out _).mono ?_
    rintro e w6' ⟨rfl, rfl⟩
    obtain ⟨ao, cp, hv⟩ : ∃ ao cp, v5 = .slice ao os5.length cp := by
      rcases HW6.out.row.2 with ⟨h1, h2⟩ | ⟨g, cap, cur, h1, _⟩
      · rw [h2]; exact ⟨_, _, h1⟩
      · exact ⟨_, _, h1⟩
    subst hv
    obtain ⟨m, hm⟩ : ∃ m, os5.length = m := ⟨_, rfl⟩
    have HM := Lib.hid hm
    rw [hm] at hl5'
    have hm2 : (m : Int) ≤ 120 := by omega
    have c2 := HW6.out.c2
    rw [hm] at c2
    clear hm hcn HWN
    go_wp2_with fail
    go_loopw [10, 11] (fun y z wr => ∃ k : Nat, y = .bool (toTo os5 at0 k) ∧ z = .int .i64 (k : Int) ∧ k ≤ m ∧ wr = w6) (fun _ z _ => m + 1 - (intOf z).toNat)
    case atStart => exact ⟨0, rfl, rfl, Nat.zero_le _, rfl⟩
    case round =>
      obtain ⟨k, rfl, rfl, hk, rfl⟩ := hrel
      have hk0 : (0 : Int) ≤ (k : Int) := by omega
      by_cases hkm : k < m
      · have hkI : (k : Int) < (m : Int) := by omega
        obtain ⟨g, rfl, hgh, hgl, hgc⟩ := HW6.out.at (by rw [HM.out]; omega)
        have a0 : wr.cell? ⟨g, k * 5, none⟩ = some (.int .i64 ((os5.getD k ob0).at' : Int)) := hgc k 0 (by rw [HM.out]; exact hkm) (by omega)
        have hto : toTo os5 at0 (k + 1) = (toTo os5 at0 k || decide ((os5.getD k ob0).at' = at0)) := rfl
        have HTO := Lib.hid hto
        obtain ⟨o, ho⟩ : ∃ o, (os5.getD k ob0).at' = o := ⟨_, rfl⟩
        rw [ho] at a0 HTO
        clear hgc hto ho
        generalize toTo os5 at0 k = b at *
        cases b with
        | true =>
          go_wp2_with fail
          exact ⟨⟨k + 1, by rw [HTO.out]; rfl, by go_num, hkm, trivial⟩, by simp [intOf]; omega⟩
        | false =>
          have he : ((o : Int) == (at0 : Int)) = decide (o = at0) := by
            by_cases e : o = at0
            · rw [decide_eq_true e, e]; simp
            · rw [decide_eq_false e]; simp; omega
          generalize decide (o = at0) = d at *
          go_wp2_with fail
          exact ⟨⟨k + 1, by rw [HTO.out]; rfl, by go_num, hkm, trivial⟩, by simp [intOf]; omega⟩
      · obtain rfl : k = m := by omega
        have hta := toTo_all HW6.out.agree at0
        rw [HM.out] at hta
        obtain ⟨b, hb⟩ : ∃ b, s5.B 0 at0 = b := ⟨_, rfl⟩
        rw [hta, hb]
        have HBB := Lib.hid hb
        clear hta hb
        go_wp2_with fail
        refine firsts_any _ L s5 wb os5 _ HW6.out (by rw [HM.out]; omega) _ (fun w7 vs hs7 hrows => ?_)
        rw [HN.out] at hrows
        have HI : Hid (∀ c, c < 8 → ∃ a cp, vs c = .slice a (frI s5 N c).length cp ∧ ∀ j, j < (frI s5 N c).length → ∃ g, a = some ⟨g, 0, none⟩ ∧ g < w7.heap.size ∧ w7.cell? ⟨g, j, none⟩ = some (.int .i64 ((frI s5 N c).getD j 0))) := Lib.hid fun c hc => by
          obtain ⟨a, cp, h1, h2⟩ := ints_at (hrows c hc)
          exact ⟨a, cp, h1, fun j hj => by obtain ⟨g, e1, e2, e3, e4⟩ := h2 j hj hj; exact ⟨g, e1, e3, e4⟩⟩
        obtain ⟨b0, q0, hv0, _⟩ := HI.out 0 (by omega)
        obtain ⟨b1, q1, hv1, _⟩ := HI.out 1 (by omega)
        obtain ⟨b2, q2, hv2, _⟩ := HI.out 2 (by omega)
        obtain ⟨b3, q3, hv3, _⟩ := HI.out 3 (by omega)
        obtain ⟨b4, q4, hv4, _⟩ := HI.out 4 (by omega)
        obtain ⟨b5, q5, hv5, _⟩ := HI.out 5 (by omega)
        obtain ⟨b6, q6, hv6, _⟩ := HI.out 6 (by omega)
        obtain ⟨b7, q7, hv7, _⟩ := HI.out 7 (by omega)
        rw [hv0, hv1, hv2, hv3, hv4, hv5, hv6, hv7]
        have hbox := heap_alloc_new w7 (fobj vs)
        have hs8 : Still w7 (w7.alloc (fobj vs)) := (Only.refl _ _ w7).alloc _
        rw [show fobj vs = .cells #[vs 0, vs 1, vs 2, vs 3, vs 4, vs 5, vs 6, vs 7] 50 (0, 0) from rfl, hv0, hv1, hv2, hv3, hv4, hv5, hv6, hv7] at hbox hs8
        have HV := Lib.hid (And.intro hv0 (And.intro hv1 (And.intro hv2 (And.intro hv3 (And.intro hv4 (And.intro hv5 (And.intro hv6 hv7)))))))
        clear hv0 hv1 hv2 hv3 hv4 hv5 hv6 hv7 hrows c0 cl c2
        go_wp2_with fail
        generalize w7.alloc (.cells #[.slice b0 (frI s5 N 0).length q0, .slice b1 (frI s5 N 1).length q1, .slice b2 (frI s5 N 2).length q2, .slice b3 (frI s5 N 3).length q3, .slice b4 (frI s5 N 4).length q4, .slice b5 (frI s5 N 5).length q5, .slice b6 (frI s5 N 6).length q6, .slice b7 (frI s5 N 7).length q7] 50) = w8 at *
        obtain ⟨fb, hfb⟩ : ∃ fb, w7.heap.size = fb := ⟨_, rfl⟩
        rw [hfb] at hbox ⊢
        have HBX : Hid (∀ c, c < 8 → w8.cell? ⟨fb, c, none⟩ = some (vs c)) := Lib.hid fun c hc => fobj_cell (b := fb) (by
          obtain ⟨g0, g1, g2, g3, g4, g5, g6, g7⟩ := HV.out
          show w8.heap[fb]? = some (Obj.cells #[vs 0, vs 1, vs 2, vs 3, vs 4, vs 5, vs 6, vs 7] 50 (0, 0))
          rw [g0, g1, g2, g3, g4, g5, g6, g7]
          exact hbox) c hc
        have hfl := (Array.getElem?_eq_some_iff.1 hbox).1
        have HEL : Hid (∀ c, c < 8 → ∃ a cp, vs c = .slice a (frI s5 N c).length cp ∧ ∀ j, j < (frI s5 N c).length → ∃ g, a = some ⟨g, 0, none⟩ ∧ g < w8.heap.size ∧ w8.cell? ⟨g, j, none⟩ = some (.int .i64 ((frI s5 N c).getD j 0))) := Lib.hid fun c hc => by
          obtain ⟨a, cp, h1, h2⟩ := HI.out c hc
          refine ⟨a, cp, h1, fun j hj => ?_⟩
          obtain ⟨g, e1, e2, e3⟩ := h2 j hj
          exact ⟨g, e1, Nat.lt_of_lt_of_le e2 hs8.size, (hs8.cell (p := ⟨g, j, none⟩) e2 (.inl e2)).trans e3⟩
        have HW8 := Lib.hid ((HW6.out.still hs7).still hs8)
        have HBE8 : Hid (Below w.heap.size w w8) := Lib.hid (HBE6.out.trans (below_le (Still.trans hs7 hs8).below (by have := HBE6.out.size; omega)))
        have hto0 : b = s5.tolTo at0 0 := HBB.out.symm
        have HT0 := Lib.hid hto0
        clear hbox hs8 hs7 hfb HI HV hto0 HW6 HBE6
        go_loopw [10, 14] (fun y z wr => ∃ c : Nat, y = .bool (s5.tolTo at0 c) ∧ z = .int .i64 (c : Int) ∧ c ≤ 8 ∧ wr = w8) (fun _ z _ => 9 - (intOf z).toNat)
        case atStart => exact ⟨0, by rw [HT0.out], rfl, Nat.zero_le _, rfl⟩
        case round =>
          obtain ⟨c, rfl, rfl, hc, rfl⟩ := hrel
          have hc0 : (0 : Int) ≤ (c : Int) := by omega
          by_cases hc8 : c < 8
          · have hcI : (c : Int) < 8 := by omega
            obtain ⟨sa, sq, hvc, hel⟩ := HEL.out c hc8
            have y0 := HBX.out c hc8
            rw [hvc] at y0
            have hin := inTo_frs s5 c N at0 (by omega)
            have hln : (frI s5 N c).length ≤ 1000 := by unfold frI; rw [List.length_map]; have := frs_len s5 c N; omega
            have hfin : s5.tolTo at0 (c + 1) = (s5.tolTo at0 c || s5.B (c + 1) at0) := rfl
            rw [← hin] at hfin
            have HFIN := Lib.hid hfin
            obtain ⟨l, hl⟩ : ∃ l, (frI s5 N c).length = l := ⟨_, rfl⟩
            rw [hl] at y0 hel HFIN hln
            generalize frI s5 N c = zs at *
            generalize s5.tolTo at0 c = b0 at *
            have hlI : (l : Int) ≤ 1000 := by omega
            have HL := Lib.hid hel
            clear hvc hin hfin hl hel
            go_wp2_with fail
            go_loopw [10, 15] (fun y z wx => ∃ j : Nat, y = .bool (b0 || inTo zs (at0 : Int) j) ∧ z = .int .i64 (j : Int) ∧ j ≤ l ∧ wx = wr) (fun _ z _ => l + 1 - (intOf z).toNat)
            case atStart => exact ⟨0, by simp [inTo], rfl, Nat.zero_le _, rfl⟩
            case round =>
              obtain ⟨j, rfl, rfl, hj, rfl⟩ := hrel
              have hj0 : (0 : Int) ≤ (j : Int) := by omega
              by_cases hjl : j < l
              · have hjI : (j : Int) < (l : Int) := by omega
                obtain ⟨g, rfl, hgl, hgc⟩ := HL.out j hjl
                have HTO : Hid ((b0 || inTo zs (at0 : Int) (j + 1)) = ((b0 || inTo zs (at0 : Int) j) || decide (zs.getD j 0 = (at0 : Int)))) := Lib.hid (by rw [Bool.or_assoc]; rfl)
                generalize zs.getD j 0 = z at *
                generalize (b0 || inTo zs (at0 : Int) j) = b1 at *
                cases b1 with
                | true =>
                  go_wp2_with fail
                  exact ⟨⟨j + 1, by rw [HTO.out]; rfl, by go_num, hjl, trivial⟩, by simp [intOf]; omega⟩
                | false =>
                  have he : (z == (at0 : Int)) = decide (z = (at0 : Int)) := rfl
                  generalize decide (z = (at0 : Int)) = d at *
                  go_wp2_with fail
                  exact ⟨⟨j + 1, by rw [HTO.out]; rfl, by go_num, hjl, trivial⟩, by simp [intOf]; omega⟩
              · obtain rfl : j = l := by omega
                rw [← HFIN.out]
                go_wp2_with fail
                exact ⟨⟨c + 1, rfl, by go_num, hc8, trivial⟩, by simp [intOf]; omega⟩
          · obtain rfl : c = 8 := by omega
            obtain ⟨td, htd⟩ : ∃ td, s5.tolTo at0 8 = td := ⟨_, rfl⟩
            rw [htd]
            have HTD := Lib.hid htd
            clear htd
            have HWG : Hid (∀ w', SpaceAt w' L s5 → Calls Tryd.prog 32 #[.pointer (some ⟨L.sb, 0, none⟩)] w' fun e w'' => e = .returned (.int .i64 (-1)) ∧ Still w' w'') := Lib.hid fun w' h => (wrong_any w' L s5 h HW8.out.inv.fine).mono fun e w'' hh => by
              obtain ⟨⟨m', hm', rfl⟩, hs⟩ := hh
              rw [if_pos (HW8.out.inv.least hm')]
              exact ⟨rfl, hs⟩
            have HPK : Hid (∀ w' y, SpaceAt w' L y → y.n = s5.n → ∀ x, Calls Tryd.prog 35 #[.pointer (some ⟨L.sb, 0, none⟩), .int .i64 (at0 : Int), .int .i64 x] w' fun e w'' => e = .returned (.bool true) ∧ SpaceAt w'' L (y.turn at0 x) ∧ Only L.lo L.hi w' w'') := Lib.hid fun w' y h hy x => poke_in w' L y h at0 (by have := HN.out; omega) x _ (fun w'' h1 h2 => ⟨rfl, h1, h2⟩)
            have HPO : Hid (∀ w' z, SpaceAt w' L (s5.turn at0 x) → (z < 0 ∨ (N : Int) ≤ z) → Calls Tryd.prog 35 #[.pointer (some ⟨L.sb, 0, none⟩), .int .i64 z, .int .i64 x] w' fun e w'' => e = .returned (.bool false) ∧ w' = w'') := Lib.hid fun w' z h hz => poke_out w' L _ h z x (by rw [show (s5.turn at0 x).n = s5.n from rfl, HN.out]; exact hz)
            have HPE := Lib.hid (fun w' (h : SpaceAt w' L s5) => peek_in w' L s5 h at0 (by have := HN.out; omega))
            obtain ⟨old, hold⟩ : ∃ old, s5.W at0 = old := ⟨_, rfl⟩
            rw [hold] at HPE
            have HOLD := Lib.hid hold
            have HS1 : Hid (∀ w', Only L.lo L.hi wr w' → w'.cell? ⟨wb, 1, none⟩ = some (.pointer (some ⟨L.sb, 0, none⟩)) ∧ w'.cell? ⟨wb, 0, none⟩ = some (.int .i64 (s5.n : Int))) := Lib.hid fun w' h =>
              ⟨(h.cell (p := ⟨wb, 1, none⟩) HW8.out.lt (.inl HW8.out.lo)).trans HW8.out.c1, (h.cell (p := ⟨wb, 0, none⟩) HW8.out.lt (.inl HW8.out.lo)).trans HW8.out.c0⟩
            have c1 := HW8.out.c1
            have cl := HW8.out.lt
            have hsW : Still wr wr := Only.refl _ _ _
            have hw1 : IntKind.i64.wrap (-1 - (at0 : Int)) = -1 - (at0 : Int) := by rw [IntKind.wrap_i64]; omega
            have hw2 : IntKind.i64.wrap ((N : Int) + (at0 : Int)) = (N : Int) + (at0 : Int) := by rw [IntKind.wrap_i64]; omega
            clear hold
            go_wp2_with fail
            refine (HPE.out _ HW8.out.sp).mono ?_
            rintro e w9 ⟨rfl, rfl⟩
            go_wp2_with fail
            go_region_held3 (fun w' => w'.cell? ⟨wb, 1, none⟩ = some (.pointer (some ⟨L.sb, 0, none⟩)) ∧ w'.cell? ⟨wb, 0, none⟩ = some (.int .i64 (s5.n : Int)))
              ((refine HS1.out _ ?_; repeat first | with_reducible exact hOW | with_reducible exact Still.any hsW _ _ | with_reducible exact Only.refl _ _ _ | with_reducible apply Only.drew | with_reducible apply Only.drewN | with_reducible apply Only.alloc))
              (first
                | (go_at_call 32; refine (HWG.out _ (HW8.out.still (by (repeat first | with_reducible exact hsW | with_reducible exact Only.refl _ _ _ | with_reducible apply Only.drew | with_reducible apply Only.drewN | with_reducible apply Only.alloc))).sp).mono ?_; rintro e wp ⟨rfl, hcall⟩; have hsW : Still wr wp := Still.trans (by (repeat first | with_reducible exact hsW | with_reducible exact Only.refl _ _ _ | with_reducible apply Only.drew | with_reducible apply Only.drewN | with_reducible apply Only.alloc)) hcall)
                | (go_at_call 35; with_reducible show Calls Tryd.prog _ #[_, .int .i64 (at0 : Int), _] _ _; refine (HPK.out _ _ (HW8.out.still (by (repeat first | with_reducible exact hsW | with_reducible exact Only.refl _ _ _ | with_reducible apply Only.drew | with_reducible apply Only.drewN | with_reducible apply Only.alloc))).sp rfl _).mono ?_; rintro e wq ⟨rfl, hq, hoq⟩; have hOW : Only L.lo L.hi wr wq := Only.trans (Still.any (by (repeat first | with_reducible exact hsW | with_reducible exact Only.refl _ _ _ | with_reducible apply Only.drew | with_reducible apply Only.drewN | with_reducible apply Only.alloc)) _ _) hoq)
                | (go_at_call 35; refine (HPO.out _ _ (hq.still (by (repeat first | with_reducible exact Only.refl _ _ _ | with_reducible apply Only.drew | with_reducible apply Only.drewN | with_reducible apply Only.alloc))) ?hz).mono ?_; (case hz => omega); rintro e wz ⟨rfl, hwz⟩; have hq := hq.still (w' := wz) (by rw [← hwz]; (repeat first | with_reducible exact Only.refl _ _ _ | with_reducible apply Only.drew | with_reducible apply Only.drewN | with_reducible apply Only.alloc)); have hOW : Only L.lo L.hi wr wz := by (rw [← hwz]; (repeat first | with_reducible exact hOW | with_reducible apply Only.drew | with_reducible apply Only.drewN))))
            rename_i hHeld
            clear hHeld
            have HQ := Lib.hid hq
            have HOZ := Lib.hid hOW
            have hzl := HOZ.out.size
            have d1 := (HS1.out _ hOW).1
            have dl : wb < wz.heap.size := Nat.lt_of_lt_of_le HW8.out.lt hOW.size
            have hfine := St.turn_fine HW8.out.inv.fine at0 x
            have hcin := HW8.out.inv.turnedChk at0 x
            rw [HBB.out, HOLD.out] at hcin
            have HCK := Lib.hid (fun w' (h : SpaceAt w' L (s5.turn at0 x)) => check_any w' L _ h (at0 : Int) hfine)
            have HRD := Lib.hid (fun w' (h : SpaceAt w' L (s5.turn at0 x)) => read_any w' L _ h at0 1 hfine (fun a ha => by
              have h1 := (HW8.out.inv.obj a ha).2.lt.1
              have h2 := (HW8.out.inv.obj a ha).1
              unfold St.FineAt at h2
              rcases Sp.wide_of h2.2.2.2.2.1 h2.2.2.2.2.2 with ⟨g1, g2, g3, _⟩ | ⟨c, g1, g2, g3, g4, _, g5, _⟩
              · rw [g3] at h1
                show a + (s5.sh a).z.toNat ≤ 64 * s5.n
                omega
              · rw [g4] at h1
                show a + (s5.sh a).z.toNat ≤ 64 * s5.n
                omega) (by have := HN.out; show at0 < 64 * s5.n; omega))
            have hwrd : ((s5.turn at0 x).chk (at0 : Int)).1 ≠ 0 → (s5.turn at0 x).wrd (at0 : Int) ((1 : Nat) : Int) = (s5.turn at0 x).chk (at0 : Int) := fun h => by unfold St.wrd; rw [if_neg h]
            obtain ⟨⟨r1, r2⟩, hr⟩ : ∃ r, (s5.turn at0 x).chk (at0 : Int) = r := ⟨_, rfl⟩
            obtain ⟨⟨t1, t2⟩, ht⟩ : ∃ r, (s5.turn at0 x).wrd (at0 : Int) ((1 : Nat) : Int) = r := ⟨_, rfl⟩
            rw [hr] at hcin hwrd HCK
            rw [ht] at hwrd HRD
            have hlt := (s5.tolTo_iff at0 8).2
            have HWR2 : Hid (∀ w', SpaceAt w' L (s5.turn at0 x) → Calls Tryd.prog 32 #[.pointer (some ⟨L.sb, 0, none⟩)] w' fun e w'' => e = .returned (.int .i64 (if td = true ∧ x ≠ old then (at0 : Int) else -1)) ∧ Still w' w'') := Lib.hid fun w' h => (wrong_any w' L _ h hfine).mono fun e w'' hh => by
              obtain ⟨⟨m', hm', rfl⟩, hs⟩ := hh
              have := HW8.out.inv.turnedLeast at0 x (by have := HN.out; omega) hm'
              rw [HTD.out, HOLD.out] at this
              exact ⟨by rw [← this]; rfl, hs⟩
            rw [HTD.out, HBB.out] at hlt
            clear hq hOW hr ht hfine
            by_cases hxo : x = old
            · have hx9 : (x != old) = false := by simp [hxo]
              have hneg : ¬(td = true ∧ x ≠ old) := fun h => h.2 hxo
              rw [if_neg hneg] at HWR2
              rw [if_pos hxo] at hcin
              clear hneg hxo
              cases b with
              | false =>
                rw [if_neg (by decide)] at hcin
                injection hcin with e1 e2
                subst e1
                subst e2
                obtain ⟨e1, e2⟩ : t1 = 22 ∧ t2 = 0 := by have := hwrd (by show (22 : Int) ≠ 0; decide); injection this with e1 e2; exact ⟨e1, e2⟩
                subst e1
                subst e2
                clear hwrd hlt
                cases td with
                | false =>
                  go_wp2_with fail
                  refine (HCK.out _ HQ.out).mono ?_
                  rintro e wa ⟨rfl, hsa⟩
                  have d1a := (HS1.out _ (HOZ.out.andStill hsa)).1
                  have dla : wb < wa.heap.size := Nat.lt_of_lt_of_le dl hsa.size
                  go_wp2_with fail
                  have hba := heap_alloc_new wa (.cells #[.int .i64 22, .int .i64 0] 56)
                  have hsb : Still wz (wa.alloc (.cells #[.int .i64 22, .int .i64 0] 56)) := hsa.alloc _
                  obtain ⟨ba, hbae⟩ : ∃ ba, wa.heap.size = ba := ⟨_, rfl⟩
                  rw [hbae] at hba ⊢
                  generalize wa.alloc (.cells #[.int .i64 22, .int .i64 0] 56) = wc at *
                  have HQ1 := Lib.hid (HQ.out.still hsb)
                  have HSB := Lib.hid hsb
                  have HBA := Lib.hid hba
                  clear hsa hba hsb hbae
                  refine (HRD.out _ HQ1.out).mono ?_
                  rintro e wd ⟨⟨rv, rfl⟩, hsd⟩
                  have hbd := at_only hsd HBA.out (.inl (Array.getElem?_eq_some_iff.1 HBA.out).1)
                  have u0 := cell_of (v := .int .i64 22) hbd 0 rfl
                  have u1 := cell_of (v := .int .i64 0) hbd 1 rfl
                  have ul := (Array.getElem?_eq_some_iff.1 hbd).1
                  have d1d := (HS1.out _ ((HOZ.out.andStill HSB.out).andStill hsd)).1
                  have dld : wb < wd.heap.size := Nat.lt_of_lt_of_le (Nat.lt_of_lt_of_le dl HSB.out.size) hsd.size
                  go_wp2_with fail
                  have hse : Still wd (wd.alloc (.cells #[.int .i64 22, .int .i64 0] 56)) := (Only.refl _ _ wd).alloc _
                  generalize wd.alloc (.cells #[.int .i64 22, .int .i64 0] 56) = wf at *
                  have hsz := Still.trans HSB.out (Still.trans hsd hse)
                  have HQ2 := Lib.hid (HQ.out.still hsz)
                  refine (HWR2.out _ HQ2.out).mono ?_
                  rintro e wg ⟨rfl, hsg⟩
                  have hOg := HOZ.out.andStill (Still.trans hsz hsg)
                  have d1g := (HS1.out _ hOg).1
                  have dlg : wb < wg.heap.size := Nat.lt_of_lt_of_le dl (Still.trans hsz hsg).size
                  have HQ3 := Lib.hid (HQ2.out.still hsg)
                  have HOG := Lib.hid hOg
                  clear hsd hse hsz hsg hOg hbd u0 u1 ul d1d dld
                  go_wp2_with fail
                  refine (HPK.out _ _ HQ3.out rfl old).mono ?_
                  rintro e wh ⟨rfl, hqh, hoh⟩
                  have hOh := HOG.out.trans hoh
                  have d1h := (HS1.out _ hOh).1
                  have dlh : wb < wh.heap.size := Nat.lt_of_lt_of_le dlg hoh.size
                  rw [← HOLD.out, St.turn_back] at hqh
                  have HQ4 := Lib.hid hqh
                  have HOH := Lib.hid hOh
                  clear hqh hoh hOh
                  go_wp2_with fail
                  refine (HWG.out _ HQ4.out).mono ?_
                  rintro e wi ⟨rfl, hsi⟩
                  have hOi := HOH.out.andStill hsi
                  have hfin : Below w.heap.size w wi := HBE8.out.trans (below_le (hOi.below HW8.out.loLe) (by have := HW8.out.lo; have := HWB.out; omega))
                  go_wp2_with fail
                  go_ret
                  exact ⟨rfl, hfin⟩
                | true =>
                  go_wp2_with fail
                  refine (HCK.out _ HQ.out).mono ?_
                  rintro e wa ⟨rfl, hsa⟩
                  have d1a := (HS1.out _ (HOZ.out.andStill hsa)).1
                  have dla : wb < wa.heap.size := Nat.lt_of_lt_of_le dl hsa.size
                  go_wp2_with fail
                  have hba := heap_alloc_new wa (.cells #[.int .i64 22, .int .i64 0] 56)
                  have hsb : Still wz (wa.alloc (.cells #[.int .i64 22, .int .i64 0] 56)) := hsa.alloc _
                  obtain ⟨ba, hbae⟩ : ∃ ba, wa.heap.size = ba := ⟨_, rfl⟩
                  rw [hbae] at hba ⊢
                  generalize wa.alloc (.cells #[.int .i64 22, .int .i64 0] 56) = wc at *
                  have HQ1 := Lib.hid (HQ.out.still hsb)
                  have HSB := Lib.hid hsb
                  have HBA := Lib.hid hba
                  clear hsa hba hsb hbae
                  refine (HRD.out _ HQ1.out).mono ?_
                  rintro e wd ⟨⟨rv, rfl⟩, hsd⟩
                  have hbd := at_only hsd HBA.out (.inl (Array.getElem?_eq_some_iff.1 HBA.out).1)
                  have u0 := cell_of (v := .int .i64 22) hbd 0 rfl
                  have u1 := cell_of (v := .int .i64 0) hbd 1 rfl
                  have ul := (Array.getElem?_eq_some_iff.1 hbd).1
                  have d1d := (HS1.out _ ((HOZ.out.andStill HSB.out).andStill hsd)).1
                  have dld : wb < wd.heap.size := Nat.lt_of_lt_of_le (Nat.lt_of_lt_of_le dl HSB.out.size) hsd.size
                  go_wp2_with fail
                  have hse : Still wd (wd.alloc (.cells #[.int .i64 22, .int .i64 0] 56)) := (Only.refl _ _ wd).alloc _
                  generalize wd.alloc (.cells #[.int .i64 22, .int .i64 0] 56) = wf at *
                  have hsz := Still.trans HSB.out (Still.trans hsd hse)
                  have HQ2 := Lib.hid (HQ.out.still hsz)
                  refine (HWR2.out _ HQ2.out).mono ?_
                  rintro e wg ⟨rfl, hsg⟩
                  have hOg := HOZ.out.andStill (Still.trans hsz hsg)
                  have d1g := (HS1.out _ hOg).1
                  have dlg : wb < wg.heap.size := Nat.lt_of_lt_of_le dl (Still.trans hsz hsg).size
                  have HQ3 := Lib.hid (HQ2.out.still hsg)
                  have HOG := Lib.hid hOg
                  clear hsd hse hsz hsg hOg hbd u0 u1 ul d1d dld
                  go_wp2_with fail
                  refine (HPK.out _ _ HQ3.out rfl old).mono ?_
                  rintro e wh ⟨rfl, hqh, hoh⟩
                  have hOh := HOG.out.trans hoh
                  have d1h := (HS1.out _ hOh).1
                  have dlh : wb < wh.heap.size := Nat.lt_of_lt_of_le dlg hoh.size
                  rw [← HOLD.out, St.turn_back] at hqh
                  have HQ4 := Lib.hid hqh
                  have HOH := Lib.hid hOh
                  clear hqh hoh hOh
                  go_wp2_with fail
                  refine (HWG.out _ HQ4.out).mono ?_
                  rintro e wi ⟨rfl, hsi⟩
                  have hOi := HOH.out.andStill hsi
                  have hfin : Below w.heap.size w wi := HBE8.out.trans (below_le (hOi.below HW8.out.loLe) (by have := HW8.out.lo; have := HWB.out; omega))
                  go_wp2_with fail
                  go_ret
                  exact ⟨rfl, hfin⟩
              | true =>
                rw [if_pos rfl] at hcin
                injection hcin with e1 e2
                subst e1
                subst e2
                obtain rfl : td = true := hlt (.inl rfl)
                clear hwrd hlt
                go_wp2_with fail
                refine (HCK.out _ HQ.out).mono ?_
                rintro e wa ⟨rfl, hsa⟩
                have d1a := (HS1.out _ (HOZ.out.andStill hsa)).1
                have dla : wb < wa.heap.size := Nat.lt_of_lt_of_le dl hsa.size
                go_wp2_with fail
                have hba := heap_alloc_new wa (.cells #[.int .i64 0, .int .i64 0] 56)
                have hsb : Still wz (wa.alloc (.cells #[.int .i64 0, .int .i64 0] 56)) := hsa.alloc _
                obtain ⟨ba, hbae⟩ : ∃ ba, wa.heap.size = ba := ⟨_, rfl⟩
                rw [hbae] at hba ⊢
                generalize wa.alloc (.cells #[.int .i64 0, .int .i64 0] 56) = wc at *
                have HQ1 := Lib.hid (HQ.out.still hsb)
                have HSB := Lib.hid hsb
                have HBA := Lib.hid hba
                clear hsa hba hsb hbae
                refine (HRD.out _ HQ1.out).mono ?_
                rintro e wd ⟨⟨rv, rfl⟩, hsd⟩
                have hbd := at_only hsd HBA.out (.inl (Array.getElem?_eq_some_iff.1 HBA.out).1)
                have u0 := cell_of (v := .int .i64 0) hbd 0 rfl
                have u1 := cell_of (v := .int .i64 0) hbd 1 rfl
                have ul := (Array.getElem?_eq_some_iff.1 hbd).1
                have d1d := (HS1.out _ ((HOZ.out.andStill HSB.out).andStill hsd)).1
                have dld : wb < wd.heap.size := Nat.lt_of_lt_of_le (Nat.lt_of_lt_of_le dl HSB.out.size) hsd.size
                go_wp2_with fail
                have hse : Still wd (wd.alloc (.cells #[.int .i64 t1, .int .i64 t2] 56)) := (Only.refl _ _ wd).alloc _
                generalize wd.alloc (.cells #[.int .i64 t1, .int .i64 t2] 56) = wf at *
                have hsz := Still.trans HSB.out (Still.trans hsd hse)
                have HQ2 := Lib.hid (HQ.out.still hsz)
                refine (HWR2.out _ HQ2.out).mono ?_
                rintro e wg ⟨rfl, hsg⟩
                have hOg := HOZ.out.andStill (Still.trans hsz hsg)
                have d1g := (HS1.out _ hOg).1
                have dlg : wb < wg.heap.size := Nat.lt_of_lt_of_le dl (Still.trans hsz hsg).size
                have HQ3 := Lib.hid (HQ2.out.still hsg)
                have HOG := Lib.hid hOg
                clear hsd hse hsz hsg hOg hbd u0 u1 ul d1d dld
                go_wp2_with fail
                refine (HPK.out _ _ HQ3.out rfl old).mono ?_
                rintro e wh ⟨rfl, hqh, hoh⟩
                have hOh := HOG.out.trans hoh
                have d1h := (HS1.out _ hOh).1
                have dlh : wb < wh.heap.size := Nat.lt_of_lt_of_le dlg hoh.size
                rw [← HOLD.out, St.turn_back] at hqh
                have HQ4 := Lib.hid hqh
                have HOH := Lib.hid hOh
                clear hqh hoh hOh
                go_wp2_with fail
                refine (HWG.out _ HQ4.out).mono ?_
                rintro e wi ⟨rfl, hsi⟩
                have hOi := HOH.out.andStill hsi
                have hfin : Below w.heap.size w wi := HBE8.out.trans (below_le (hOi.below HW8.out.loLe) (by have := HW8.out.lo; have := HWB.out; omega))
                go_wp2_with fail
                go_ret
                exact ⟨rfl, hfin⟩
            · have hx9 : (x != old) = true := by simp [hxo]
              rw [if_neg hxo] at hcin
              cases b with
              | false =>
                rw [if_neg (by decide)] at hcin
                injection hcin with e1 e2
                subst e1
                subst e2
                obtain ⟨e1, e2⟩ : t1 = 22 ∧ t2 = 0 := by have := hwrd (by show (22 : Int) ≠ 0; decide); injection this with e1 e2; exact ⟨e1, e2⟩
                subst e1
                subst e2
                clear hwrd hlt
                cases td with
                | false =>
                  rw [if_neg (fun h => by cases h.1)] at HWR2
                  go_wp2_with fail
                  refine (HCK.out _ HQ.out).mono ?_
                  rintro e wa ⟨rfl, hsa⟩
                  have d1a := (HS1.out _ (HOZ.out.andStill hsa)).1
                  have dla : wb < wa.heap.size := Nat.lt_of_lt_of_le dl hsa.size
                  go_wp2_with fail
                  have hba := heap_alloc_new wa (.cells #[.int .i64 22, .int .i64 0] 56)
                  have hsb : Still wz (wa.alloc (.cells #[.int .i64 22, .int .i64 0] 56)) := hsa.alloc _
                  obtain ⟨ba, hbae⟩ : ∃ ba, wa.heap.size = ba := ⟨_, rfl⟩
                  rw [hbae] at hba ⊢
                  generalize wa.alloc (.cells #[.int .i64 22, .int .i64 0] 56) = wc at *
                  have HQ1 := Lib.hid (HQ.out.still hsb)
                  have HSB := Lib.hid hsb
                  have HBA := Lib.hid hba
                  clear hsa hba hsb hbae
                  refine (HRD.out _ HQ1.out).mono ?_
                  rintro e wd ⟨⟨rv, rfl⟩, hsd⟩
                  have hbd := at_only hsd HBA.out (.inl (Array.getElem?_eq_some_iff.1 HBA.out).1)
                  have u0 := cell_of (v := .int .i64 22) hbd 0 rfl
                  have u1 := cell_of (v := .int .i64 0) hbd 1 rfl
                  have ul := (Array.getElem?_eq_some_iff.1 hbd).1
                  have d1d := (HS1.out _ ((HOZ.out.andStill HSB.out).andStill hsd)).1
                  have dld : wb < wd.heap.size := Nat.lt_of_lt_of_le (Nat.lt_of_lt_of_le dl HSB.out.size) hsd.size
                  go_wp2_with fail
                  have hse : Still wd (wd.alloc (.cells #[.int .i64 22, .int .i64 0] 56)) := (Only.refl _ _ wd).alloc _
                  generalize wd.alloc (.cells #[.int .i64 22, .int .i64 0] 56) = wf at *
                  have hsz := Still.trans HSB.out (Still.trans hsd hse)
                  have HQ2 := Lib.hid (HQ.out.still hsz)
                  refine (HWR2.out _ HQ2.out).mono ?_
                  rintro e wg ⟨rfl, hsg⟩
                  have hOg := HOZ.out.andStill (Still.trans hsz hsg)
                  have d1g := (HS1.out _ hOg).1
                  have dlg : wb < wg.heap.size := Nat.lt_of_lt_of_le dl (Still.trans hsz hsg).size
                  have HQ3 := Lib.hid (HQ2.out.still hsg)
                  have HOG := Lib.hid hOg
                  clear hsd hse hsz hsg hOg hbd u0 u1 ul d1d dld
                  go_wp2_with fail
                  refine (HPK.out _ _ HQ3.out rfl old).mono ?_
                  rintro e wh ⟨rfl, hqh, hoh⟩
                  have hOh := HOG.out.trans hoh
                  have d1h := (HS1.out _ hOh).1
                  have dlh : wb < wh.heap.size := Nat.lt_of_lt_of_le dlg hoh.size
                  rw [← HOLD.out, St.turn_back] at hqh
                  have HQ4 := Lib.hid hqh
                  have HOH := Lib.hid hOh
                  clear hqh hoh hOh
                  go_wp2_with fail
                  refine (HWG.out _ HQ4.out).mono ?_
                  rintro e wi ⟨rfl, hsi⟩
                  have hOi := HOH.out.andStill hsi
                  have hfin : Below w.heap.size w wi := HBE8.out.trans (below_le (hOi.below HW8.out.loLe) (by have := HW8.out.lo; have := HWB.out; omega))
                  go_wp2_with fail
                  go_ret
                  exact ⟨rfl, hfin⟩
                | true =>
                  rw [if_pos ⟨rfl, hxo⟩] at HWR2
                  go_wp2_with fail
                  refine (HCK.out _ HQ.out).mono ?_
                  rintro e wa ⟨rfl, hsa⟩
                  have d1a := (HS1.out _ (HOZ.out.andStill hsa)).1
                  have dla : wb < wa.heap.size := Nat.lt_of_lt_of_le dl hsa.size
                  go_wp2_with fail
                  have hba := heap_alloc_new wa (.cells #[.int .i64 22, .int .i64 0] 56)
                  have hsb : Still wz (wa.alloc (.cells #[.int .i64 22, .int .i64 0] 56)) := hsa.alloc _
                  obtain ⟨ba, hbae⟩ : ∃ ba, wa.heap.size = ba := ⟨_, rfl⟩
                  rw [hbae] at hba ⊢
                  generalize wa.alloc (.cells #[.int .i64 22, .int .i64 0] 56) = wc at *
                  have HQ1 := Lib.hid (HQ.out.still hsb)
                  have HSB := Lib.hid hsb
                  have HBA := Lib.hid hba
                  clear hsa hba hsb hbae
                  refine (HRD.out _ HQ1.out).mono ?_
                  rintro e wd ⟨⟨rv, rfl⟩, hsd⟩
                  have hbd := at_only hsd HBA.out (.inl (Array.getElem?_eq_some_iff.1 HBA.out).1)
                  have u0 := cell_of (v := .int .i64 22) hbd 0 rfl
                  have u1 := cell_of (v := .int .i64 0) hbd 1 rfl
                  have ul := (Array.getElem?_eq_some_iff.1 hbd).1
                  have d1d := (HS1.out _ ((HOZ.out.andStill HSB.out).andStill hsd)).1
                  have dld : wb < wd.heap.size := Nat.lt_of_lt_of_le (Nat.lt_of_lt_of_le dl HSB.out.size) hsd.size
                  go_wp2_with fail
                  have hse : Still wd (wd.alloc (.cells #[.int .i64 22, .int .i64 0] 56)) := (Only.refl _ _ wd).alloc _
                  generalize wd.alloc (.cells #[.int .i64 22, .int .i64 0] 56) = wf at *
                  have hsz := Still.trans HSB.out (Still.trans hsd hse)
                  have HQ2 := Lib.hid (HQ.out.still hsz)
                  refine (HWR2.out _ HQ2.out).mono ?_
                  rintro e wg ⟨rfl, hsg⟩
                  have hOg := HOZ.out.andStill (Still.trans hsz hsg)
                  have d1g := (HS1.out _ hOg).1
                  have dlg : wb < wg.heap.size := Nat.lt_of_lt_of_le dl (Still.trans hsz hsg).size
                  have HQ3 := Lib.hid (HQ2.out.still hsg)
                  have HOG := Lib.hid hOg
                  clear hsd hse hsz hsg hOg hbd u0 u1 ul d1d dld
                  go_wp2_with fail
                  refine (HPK.out _ _ HQ3.out rfl old).mono ?_
                  rintro e wh ⟨rfl, hqh, hoh⟩
                  have hOh := HOG.out.trans hoh
                  have d1h := (HS1.out _ hOh).1
                  have dlh : wb < wh.heap.size := Nat.lt_of_lt_of_le dlg hoh.size
                  rw [← HOLD.out, St.turn_back] at hqh
                  have HQ4 := Lib.hid hqh
                  have HOH := Lib.hid hOh
                  clear hqh hoh hOh
                  go_wp2_with fail
                  refine (HWG.out _ HQ4.out).mono ?_
                  rintro e wi ⟨rfl, hsi⟩
                  have hOi := HOH.out.andStill hsi
                  have hfin : Below w.heap.size w wi := HBE8.out.trans (below_le (hOi.below HW8.out.loLe) (by have := HW8.out.lo; have := HWB.out; omega))
                  go_wp2_with fail
                  go_ret
                  exact ⟨rfl, hfin⟩
              | true =>
                rw [if_pos rfl] at hcin
                injection hcin with e1 e2
                subst e1
                subst e2
                obtain rfl : td = true := hlt (.inl rfl)
                obtain ⟨e1, e2⟩ : t1 = 21 ∧ t2 = (at0 : Int) := by have := hwrd (by show (21 : Int) ≠ 0; decide); injection this with e1 e2; exact ⟨e1, e2⟩
                subst e1
                subst e2
                clear hwrd hlt
                rw [if_pos ⟨rfl, hxo⟩] at HWR2
                go_wp2_with fail
                refine (HCK.out _ HQ.out).mono ?_
                rintro e wa ⟨rfl, hsa⟩
                have d1a := (HS1.out _ (HOZ.out.andStill hsa)).1
                have dla : wb < wa.heap.size := Nat.lt_of_lt_of_le dl hsa.size
                go_wp2_with fail
                have hba := heap_alloc_new wa (.cells #[.int .i64 21, .int .i64 (at0 : Int)] 56)
                have hsb : Still wz (wa.alloc (.cells #[.int .i64 21, .int .i64 (at0 : Int)] 56)) := hsa.alloc _
                obtain ⟨ba, hbae⟩ : ∃ ba, wa.heap.size = ba := ⟨_, rfl⟩
                rw [hbae] at hba ⊢
                generalize wa.alloc (.cells #[.int .i64 21, .int .i64 (at0 : Int)] 56) = wc at *
                have HQ1 := Lib.hid (HQ.out.still hsb)
                have HSB := Lib.hid hsb
                have HBA := Lib.hid hba
                clear hsa hba hsb hbae
                refine (HRD.out _ HQ1.out).mono ?_
                rintro e wd ⟨⟨rv, rfl⟩, hsd⟩
                have hbd := at_only hsd HBA.out (.inl (Array.getElem?_eq_some_iff.1 HBA.out).1)
                have u0 := cell_of (v := .int .i64 21) hbd 0 rfl
                have u1 := cell_of (v := .int .i64 (at0 : Int)) hbd 1 rfl
                have ul := (Array.getElem?_eq_some_iff.1 hbd).1
                have d1d := (HS1.out _ ((HOZ.out.andStill HSB.out).andStill hsd)).1
                have dld : wb < wd.heap.size := Nat.lt_of_lt_of_le (Nat.lt_of_lt_of_le dl HSB.out.size) hsd.size
                go_wp2_with fail
                have hse : Still wd (wd.alloc (.cells #[.int .i64 21, .int .i64 (at0 : Int)] 56)) := (Only.refl _ _ wd).alloc _
                generalize wd.alloc (.cells #[.int .i64 21, .int .i64 (at0 : Int)] 56) = wf at *
                have hsz := Still.trans HSB.out (Still.trans hsd hse)
                have HQ2 := Lib.hid (HQ.out.still hsz)
                refine (HWR2.out _ HQ2.out).mono ?_
                rintro e wg ⟨rfl, hsg⟩
                have hOg := HOZ.out.andStill (Still.trans hsz hsg)
                have d1g := (HS1.out _ hOg).1
                have dlg : wb < wg.heap.size := Nat.lt_of_lt_of_le dl (Still.trans hsz hsg).size
                have HQ3 := Lib.hid (HQ2.out.still hsg)
                have HOG := Lib.hid hOg
                clear hsd hse hsz hsg hOg hbd u0 u1 ul d1d dld
                go_wp2_with fail
                refine (HPK.out _ _ HQ3.out rfl old).mono ?_
                rintro e wh ⟨rfl, hqh, hoh⟩
                have hOh := HOG.out.trans hoh
                have d1h := (HS1.out _ hOh).1
                have dlh : wb < wh.heap.size := Nat.lt_of_lt_of_le dlg hoh.size
                rw [← HOLD.out, St.turn_back] at hqh
                have HQ4 := Lib.hid hqh
                have HOH := Lib.hid hOh
                clear hqh hoh hOh
                go_wp2_with fail
                refine (HWG.out _ HQ4.out).mono ?_
                rintro e wi ⟨rfl, hsi⟩
                have hOi := HOH.out.andStill hsi
                have hfin : Below w.heap.size w wi := HBE8.out.trans (below_le (hOi.below HW8.out.loLe) (by have := HW8.out.lo; have := HWB.out; omega))
                go_wp2_with fail
                go_ret
                exact ⟨rfl, hfin⟩
end Go.Proofs.YtiniadochjeieaaDoor
