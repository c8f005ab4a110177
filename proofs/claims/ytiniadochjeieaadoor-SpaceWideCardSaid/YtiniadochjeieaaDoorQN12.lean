/-
  The walk of SpaceApart.
-/
import Derived.Test.YtiniadochjeieaaDoorQU
namespace Go.Proofs.YtiniadochjeieaaDoor
open Go Go.RowKit

/-- Where a list of objects lies. -/
theorem obs_at {w : World} {base n cp : Nat} {ao : Option Addr} {bs : List Ob} (h : w.ownsRow base 34 5 (.slice ao n cp) n (obCells bs)) (hn : n = bs.length) (h0 : 0 < n) :
    ∃ g, ao = some ⟨g, 0, none⟩ ∧ base ≤ g ∧ g < w.heap.size ∧ ∀ j c, j < n → c < 5 → w.cell? ⟨g, j * 5 + c, none⟩ = (bs.getD j ob0).cells[c]? := by
  rcases h.2 with ⟨_, h1⟩ | ⟨g, cap', cur, hv, hb, hg, hnc, hcm, hs, ht⟩
  · omega
  · injection hv with e1 e2 e3
    refine ⟨g, e1, hb, (Array.getElem?_eq_some_iff.1 hg).1, fun j c hj hc => ?_⟩
    have hcc : c = 0 ∨ c = 1 ∨ c = 2 ∨ c = 3 ∨ c = 4 := by omega
    have hob := obCells_at bs j c (by omega) hc
    have hx : ∃ u, (bs.getD j ob0).cells[c]? = some u := by rcases hcc with rfl | rfl | rfl | rfl | rfl <;> exact ⟨_, rfl⟩
    obtain ⟨u, hu⟩ := hx
    have hcl := h.cells (g := g) (by rw [e1]; rfl) (j * 5 + c) u (by rw [hob]; exact hu)
    rw [add_at] at hcl
    rw [hcl, hu]

set_option maxRecDepth 100000 in
set_option maxHeartbeats 6400000 in
theorem apart_any (n : Int) (a : Option Addr) (len cap : Nat) (ops : Nat → OpV) (w : World) (hn : (Lit.int .i64 n).wf = true) (ho : OpsB w w.heap.size a len ops) (hT : Tab w) (h0 : 0 < w.heap.size) :
    Calls Tryd.prog 7 #[.int .i64 n, .slice a len cap] w fun e w' => e = .returned (.bool true) ∧ Below w.heap.size w w' := by
  obtain ⟨hn1, hn2⟩ := wf_i64 hn
  have HO := Lib.hid ho
  have HT := Lib.hid hT
  have H0 := Lib.hid h0
  have HBG := Lib.hid (begun_any n w hn1 hn2 hT h0)
  have HCN : Hid (∀ (p : Addr) (x y : Nat) (w : World), (binOp .eql 41 (.slice (some p) x y) (.slice none 0 0)).run Tryd.prog w = .ok (.bool false) w) := Lib.hid fun _ _ _ _ => by kernel_rfl
  clear ho hT hn h0
  go_enter Tryd.func7, Tryd.ntmps7
  go_wp2_with fail
  refine HBG.out _ (fun w1 L wb hwb hW hst => ?_)
  have HST := Lib.hid hst
  have HW := Lib.hid hW
  have HWB := Lib.hid hwb
  clear hst hW HBG hwb
  go_wp2_with fail
  refine (alive_any w1 (HT.out.only HST.out H0.out) (by have := HW.out.lt; omega)).mono ?_
  rintro e w2 ⟨rfl, hs2⟩
  have HST2 := Lib.hid (Still.trans HST.out hs2)
  have HW2 := Lib.hid (HW.out.still hs2)
  clear HST HW hs2
  have HO2 := Lib.hid ((HO.out.below HST2.out.below).mono HWB.out)
  have HSM := Lib.hid (small_any a len cap ops w2 HO2.out.is)
  obtain ⟨b, hb⟩ : ∃ b, smallB ops len = b := ⟨_, rfl⟩
  rw [hb] at HSM
  go_wp2_with fail
  refine HSM.out.mono ?_
  rintro e w2' ⟨rfl, rfl⟩
  cases b with
  | false =>
    have HBB := Lib.hid hb
    clear hb
    go_wp2_with fail
    refine (alive_any w2 (HT.out.only HST2.out H0.out) (by have := HW2.out.lt; omega)).mono ?_
    rintro e w3 ⟨rfl, hs3⟩
    have HO3 := Lib.hid (HO2.out.below (below_le hs3.below (Nat.le_of_lt HW2.out.lt)))
    have HSM3 := Lib.hid (small_any a len cap ops w3 HO3.out.is)
    rw [HBB.out] at HSM3
    go_wp2_with fail
    refine HSM3.out.mono ?_
    rintro e w4 ⟨rfl, rfl⟩
    go_wp2_with fail
    go_ret
    refine ⟨rfl, ?_⟩
    exact (HST2.out.below.trans (below_le hs3.below (by have := HST2.out.size; omega)))
  | true =>
    have HLL := Lib.hid (smallB_ll hb)
    clear hb
    go_wp2_with fail
    refine played_any _ L _ wb [] (.slice none 0 0) HW2.out a len cap ops HO2.out HLL.out (by show 0 ≤ 1000000; omega) (by simp) _ (fun w5 s5 os5 v5 h5 hn5 ha5 hl5 hf5 => ?_)
    have HW5 := Lib.hid h5
    have HBE5 : Hid (Below w.heap.size w w5) := Lib.hid (HST2.out.below.trans (below_le hf5.b HWB.out))
    have ha5' : s5.acts ≤ 240 := ha5
    have hl5' : os5.length ≤ 120 := by simpa using hl5
    have hn5' : s5.n ≤ 12 := by have h := wi_range n 12 (by omega); have e : s5.n = 1 + (wi n 12).toNat := hn5; omega
    clear h5 hf5 HSM HO2 HLL hn5 ha5 hl5
    go_wp2_with fail
    refine owner_any w5 L s5 wb os5 v5 HW5.out (by omega) _ (fun w6 hs6 hl6 hw6 => ?_)
    have HW6 := Lib.hid (HW5.out.still hs6)
    have HBE6 : Hid (Below w.heap.size w w6) := Lib.hid (HBE5.out.trans (below_le hs6.below (by have := HBE5.out.size; omega)))
    obtain ⟨S, hS⟩ : ∃ S : Nat, s5.ser = (S : Int) := ⟨s5.ser.toNat, by have := HW6.out.inv.ser0; omega⟩
    have hS2 : S ≤ 240 := by have := HW6.out.inv.ser1; omega
    have hcn := HCN.out ⟨w5.heap.size, 0, none⟩ (64 * s5.n) (64 * s5.n)
    have c1 := HW6.out.c1
    have c3 := HW6.out.c3
    have cl := HW6.out.lt
    rw [hS] at c3
    have hmk := make_bools (S + 1) (by omega) w6
    have e1 : ((S + 1 : Nat) : Int) = (S : Int) + 1 := by omega
    rw [e1] at hmk
    have HSS := Lib.hid hS
    have hS3 : (S : Int) ≤ 240 := by omega
    clear hs6 hl6 hw6 HW5 hS
    obtain ⟨N, hN⟩ : ∃ N, 64 * s5.n = N := ⟨_, rfl⟩
    have HN := Lib.hid hN
    rw [hN] at hcn ⊢
    clear hN
    go_wp2_with fail
    obtain ⟨ao, cp, hv⟩ : ∃ ao cp, v5 = .slice ao os5.length cp := by
      rcases HW6.out.row.2 with ⟨h1, h2⟩ | ⟨g, cap, cur, h1, _⟩
      · rw [h2]; exact ⟨_, _, h1⟩
      · exact ⟨_, _, h1⟩
    subst hv
    obtain ⟨fb, hfb⟩ : ∃ fb, w6.heap.size = fb := ⟨_, rfl⟩
    have hb7 := heap_alloc_new w6 (.cells (boolCells [] (S + 1)) 4)
    have hs7 : Still w6 (w6.alloc (.cells (boolCells [] (S + 1)) 4)) := (Only.refl _ _ w6).alloc _
    have hz7 : (w6.alloc (.cells (boolCells [] (S + 1)) 4)).heap.size = fb + 1 := by rw [← hfb]; simp
    rw [hfb] at hb7 ⊢
    generalize w6.alloc (.cells (boolCells [] (S + 1)) 4) = w7 at *
    have HW7 := Lib.hid (HW6.out.still hs7)
    have HBE7 : Hid (Below w.heap.size w w7) := Lib.hid (HBE6.out.trans (below_le hs7.below (by have := HBE6.out.size; omega)))
    have HFB : Hid (L.hi ≤ fb ∧ wb < fb ∧ w.heap.size ≤ fb) := Lib.hid (by
      have h1 := HW6.out.sp.top
      have h2 := HBE6.out.size
      have h3 := HW6.out.lt
      exact ⟨by omega, by omega, by omega⟩)
    have HROW : Hid (∀ g, Value.ownBlock (.slice ao os5.length cp) = some g → g < fb) := Lib.hid fun g hg => by
      have := (HW6.out.row.lt g hg).2
      omega
    have HB7 := Lib.hid hb7
    clear hb7 hs7 hmk c1 c3 cl hcn
    refine (sblocks_any w7 L s5 HW7.out.sp).mono ?_
    rintro e wA ⟨⟨va, rfl, hra⟩, hsA⟩
    have HWA := Lib.hid (HW7.out.still hsA)
    have HBEA : Hid (Below w.heap.size w wA) := Lib.hid (HBE7.out.trans (below_le hsA.below (by have := HBE7.out.size; omega)))
    have hfl : fb < w7.heap.size := (Array.getElem?_eq_some_iff.1 HB7.out).1
    have HBA : Hid (wA.heap[fb]? = some (.cells (boolCells [] (S + 1)) 4 (0, 0))) := Lib.hid ((hsA.block _ hfl (.inl hfl)).trans HB7.out)
    rw [hz7, blks_len HW7.out.inv HW7.out.agree] at hra
    have HRA := Lib.hid hra
    obtain ⟨aa, ca, rfl⟩ : ∃ aa ca, va = .slice aa os5.length ca := by
      rcases hra.2 with ⟨h1, h2⟩ | ⟨g, cap, cur, h1, _⟩
      · rw [h2]; exact ⟨_, _, h1⟩
      · exact ⟨_, _, h1⟩
    obtain ⟨m, hm⟩ : ∃ m, os5.length = m := ⟨_, rfl⟩
    have HM := Lib.hid hm
    rw [hm] at hl5' ⊢
    have hm2 : (m : Int) ≤ 120 := by omega
    have c1 := HWA.out.c1
    have c2 := HWA.out.c2
    have cl := HWA.out.lt
    rw [hm] at c2
    clear hsA hra hfl hm HW7 HB7 HBE7 HW6 HBE6 hz7
    go_wp2_with fail
    clear c1 c2 cl
    go_loopw [8] (fun y wr => ∃ k : Nat, y = .int .i64 (k : Int) ∧ k ≤ m ∧ Only fb (fb + 1) wA wr ∧ wr.heap[fb]? = some (.cells (boolCells (srsTo os5 k) (S + 1)) 4 (0, 0))) (fun y _ => m + 1 - (intOf y).toNat)
    case atStart => exact ⟨0, rfl, Nat.zero_le _, Only.refl _ _ _, HBA.out⟩
    case round =>
      obtain ⟨k, rfl, hk, hon, hfo⟩ := hrel
      have hWr := HWA.out.beyond hon HFB.out.1 (by exact HROW.out)
      have c1 := hWr.c1
      have c2 := hWr.c2
      have cl := hWr.lt
      rw [HM.out] at c2
      have HON := Lib.hid hon
      have HFO := Lib.hid hfo
      have HWR := Lib.hid hWr
      have hk0 : (0 : Int) ≤ (k : Int) := by omega
      by_cases hkm : k < m
      · have hkI : (k : Int) < (m : Int) := by omega
        obtain ⟨g, rfl, hgh, hgl, hgc⟩ := hWr.at (by rw [HM.out]; omega)
        have hcell : ∀ c, c < 5 → wr.cell? ⟨g, k * 5 + c, none⟩ = (os5.getD k ob0).cells[c]? := fun c hc => hgc k c (by rw [HM.out]; exact hkm) hc
        have hob := HWR.out.agree.ob (k := k) (by rw [HM.out]; exact hkm)
        have hpl := HWR.out.inv.place hob.1
        have hfine := (HWR.out.inv.obj _ hob.1).1
        have hlt := (HWR.out.inv.obj _ hob.1).2.lt.2
        have hse := HWR.out.inv.sers _ hob.1
        have hfi := fun h => find_at HWR.out.inv HWR.out.agree (k := k) (by rw [HM.out]; exact hkm) h
        unfold St.FineAt at hfine
        have hblk := fun w' (h : SpaceAt w' L s5) => block_yes w' L s5 h ((os5.getD k ob0).at' : Int) (wf_of (by omega)) (by unfold St.has; rw [decide_eq_true (by omega), Int.toNat_natCast, hob.1]; rfl)
        rw [hob.2] at hpl hfine hse hblk
        obtain ⟨o, ho⟩ : ∃ o, os5.getD k ob0 = o := ⟨_, rfl⟩
        rw [ho] at hcell hob hpl hfine hlt hse hfi hblk
        have HO := Lib.hid ho
        obtain ⟨at0, kd, z, sr, tg⟩ := o
        dsimp only at hob hpl hfine hlt hse hfi hblk
        have a0 : wr.cell? ⟨g, k * 5, none⟩ = some (.int .i64 (at0 : Int)) := hcell 0 (by omega)
        have a1 : wr.cell? ⟨g, k * 5 + 1, none⟩ = some (.int .i64 kd) := hcell 1 (by omega)
        have a2 : wr.cell? ⟨g, k * 5 + 2, none⟩ = some (.int .i64 z) := hcell 2 (by omega)
        have a3 : wr.cell? ⟨g, k * 5 + 3, none⟩ = some (.int .i64 sr) := hcell 3 (by omega)
        have a4 : wr.cell? ⟨g, k * 5 + 4, none⟩ = some (.int .i64 tg) := hcell 4 (by omega)
        have HCO := Lib.hid (classOf_any z (by omega) (by omega))
        have HPL := Lib.hid hpl
        have HSE := Lib.hid hse
        have HFI := Lib.hid hfi
        have HBLK := Lib.hid hblk
        have HLT := Lib.hid hlt
        clear hcell hgc hob hpl hfine hlt hse hfi hblk ho hon hfo hWr hgh
        go_wp2_with fail
        obtain ⟨bb, hbb⟩ : ∃ bb, wr.heap.size = bb := ⟨_, rfl⟩
        have hb9 := heap_alloc_new wr (.cells #[.int .i64 (at0 : Int), .int .i64 kd, .int .i64 z, .int .i64 sr, .int .i64 tg] 34)
        have hs9 : Still wr (wr.alloc (.cells #[.int .i64 (at0 : Int), .int .i64 kd, .int .i64 z, .int .i64 sr, .int .i64 tg] 34)) := (Only.refl _ _ wr).alloc _
        rw [hbb] at hb9 ⊢
        generalize wr.alloc (.cells #[.int .i64 (at0 : Int), .int .i64 kd, .int .i64 z, .int .i64 sr, .int .i64 tg] 34) = w9 at *
        refine (HCO.out w9).mono ?_
        rintro e wC ⟨rfl, hsC⟩
        have hsRC := Still.trans hs9 hsC
        have hbC := (hsC.block _ (Array.getElem?_eq_some_iff.1 hb9).1 (.inl (Array.getElem?_eq_some_iff.1 hb9).1)).trans hb9
        have HWC := Lib.hid (HWR.out.still hsRC)
        have HRC := Lib.hid hsRC
        have HBC := Lib.hid hbC
        have c1 := HWC.out.c1
        have cl := HWC.out.lt
        have b0 := cell_of (v := .int .i64 (at0 : Int)) hbC 0 rfl
        have lb := (Array.getElem?_eq_some_iff.1 hbC).1
        have HS1 : Hid (∀ w', Still wC w' → w'.cell? ⟨wb, 1, none⟩ = some (.pointer (some ⟨L.sb, 0, none⟩)) ∧ w'.cell? ⟨bb, 0, none⟩ = some (.int .i64 (at0 : Int))) := Lib.hid fun w' h =>
          ⟨(HWC.out.still h).c1, cell_of (v := .int .i64 (at0 : Int)) ((h.block _ (Array.getElem?_eq_some_iff.1 HBC.out).1 (.inl (Array.getElem?_eq_some_iff.1 HBC.out).1)).trans HBC.out) 0 rfl⟩
        obtain ⟨v1, hv1⟩ : ∃ v1, Sp.cls z = v1 := ⟨_, rfl⟩
        obtain ⟨v2, hv2⟩ : ∃ v2, Sp.wide z = v2 := ⟨_, rfl⟩
        obtain ⟨v3, hv3⟩ : ∃ v3, Sp.bks v1 = v3 := ⟨_, rfl⟩
        rw [hv1, hv2] at HPL
        rw [hv1, hv2, hv3]
        have HV2 := Lib.hid hv2
        clear hb9 hs9 hsC hsRC hbC HCO a0 a1 a2 a3 a4 c2 hgl hv1 hv2 hv3
        go_wp2_with fail
        have hcut0 := cl
        go_cut [13, 14] from 97 to 107 (fun s13 s14 wx => ∃ pb, s13 = .pointer (some ⟨pb, 0, none⟩) ∧ s14 = .bool true ∧ Still wC wx ∧ wx.heap[pb]? = some (.cells #[.int .i64 (at0 : Int), .int .i64 kd, .int .i64 z, .int .i64 sr, .int .i64 tg] 34 (0, 0)))
        case first =>
          have hsW : Still wC wC := Only.refl _ _ _
          go_region_held3 (fun w' => w'.cell? ⟨wb, 1, none⟩ = some (.pointer (some ⟨L.sb, 0, none⟩)) ∧ w'.cell? ⟨bb, 0, none⟩ = some (.int .i64 (at0 : Int)))
            ((refine HS1.out _ ?_; repeat first | with_reducible exact hsW | with_reducible exact Only.refl _ _ _ | with_reducible apply Only.drew | with_reducible apply Only.drewN | with_reducible apply Only.alloc | (with_reducible refine Only.setCell ?_ (.inr ?_) _; rotate_left; (dsimp only; omega))))
            (first | (go_at_call 25; refine (HBLK.out _ (HWC.out.still (by (repeat first | exact hsW | exact Only.refl _ _ _ | apply Only.drew | apply Only.drewN | apply Only.alloc))).sp).mono ?_; rintro e wp ⟨rfl, hcall⟩; (try (have hzb : wp.heap[_]? = some ob0.obj := fresh_still hcall rfl; have hlz := (Array.getElem?_eq_some_iff.1 hzb).1; have hz0 := cell_of (v := .int .i64 0) hzb 0 rfl; have hf0 := frozen_of hzb 0; have hz1 := cell_of (v := .int .i64 0) hzb 1 rfl; have hf1 := frozen_of hzb 1; have hz2 := cell_of (v := .int .i64 0) hzb 2 rfl; have hf2 := frozen_of hzb 2; have hz3 := cell_of (v := .int .i64 0) hzb 3 rfl; have hf3 := frozen_of hzb 3; have hz4 := cell_of (v := .int .i64 0) hzb 4 rfl; have hf4 := frozen_of hzb 4)); have hszC := Only.size (lo := wC.heap.size) (hi := wC.heap.size) (w := wC) (w' := wp) (Still.trans (by (repeat first | exact hsW | exact Only.refl _ _ _ | apply Only.drew | apply Only.drewN | apply Only.alloc)) hcall); have hsW : Still wC wp := Still.trans (by (repeat first | exact hsW | exact Only.refl _ _ _ | apply Only.drew | apply Only.drewN | apply Only.alloc)) hcall))
          all_goals
            rename_i hHeld
            clear hHeld
            first
            | (go_wp2_with fail; go_meet; exact ⟨_, rfl, rfl, hsW.alloc _, heap_alloc_new wp _⟩)
            | (go_wp2_with fail; go_meet; exact ⟨_, rfl, rfl, only_box hsW (.inr (Nat.le_refl _)) _ _ _ _ _, ob_box hzb _ _ _ _ _⟩)
        case rest =>
          obtain ⟨pb, rfl, rfl, hsP, hbP⟩ := hcut
          have hb2 := (hsP.block _ (Array.getElem?_eq_some_iff.1 HBC.out).1 (.inl (Array.getElem?_eq_some_iff.1 HBC.out).1)).trans HBC.out
          have HSP := Lib.hid (Still.trans HRC.out hsP)
          have HBP := Lib.hid hb2
          have p0 := cell_of (v := .int .i64 (at0 : Int)) hbP 0 rfl
          have p1 := cell_of (v := .int .i64 kd) hbP 1 rfl
          have p2 := cell_of (v := .int .i64 z) hbP 2 rfl
          have p3 := cell_of (v := .int .i64 sr) hbP 3 rfl
          have p4 := cell_of (v := .int .i64 tg) hbP 4 rfl
          have q0 := cell_of (v := .int .i64 (at0 : Int)) hb2 0 rfl
          have q1 := cell_of (v := .int .i64 kd) hb2 1 rfl
          have q2 := cell_of (v := .int .i64 z) hb2 2 rfl
          have q3 := cell_of (v := .int .i64 sr) hb2 3 rfl
          have q4 := cell_of (v := .int .i64 tg) hb2 4 rfl
          have lp := (Array.getElem?_eq_some_iff.1 hbP).1
          have lq := (Array.getElem?_eq_some_iff.1 hb2).1
          have hat0 : (0 : Int) ≤ (at0 : Int) := by omega
          have hat1 : (at0 : Int) ≤ 1000000 := by have := HLT.out; omega
          clear hsP hbP hb2 c1 cl b0 lb
          by_cases hsr : 0 < sr
          · obtain ⟨x, rfl⟩ : ∃ x : Nat, sr = (x : Int) := ⟨sr.toNat, by omega⟩
            have hxS : (x : Int) ≤ (S : Int) := by have h := HSE.out.2; rw [HSS.out] at h; exact h
            have hx1 : (x : Int) < (S : Int) + 1 := by omega
            have hx0 : (0 : Int) ≤ (x : Int) := by omega
            have hxN : x < S + 1 := by omega
            have hof := HON.out.trans' HSP.out (.inr HON.out.size) (.inr HON.out.size)
            have hff : wc.heap[fb]? = some (.cells (boolCells (srsTo os5 k) (S + 1)) 4 (0, 0)) := (HSP.out.block _ (Array.getElem?_eq_some_iff.1 HFO.out).1 (.inl (Array.getElem?_eq_some_iff.1 HFO.out).1)).trans HFO.out
            have hfc : wc.cell? ⟨fb, x, none⟩ = some (.bool (decide (x ∈ srsTo os5 k))) := by
              simp only [World.cell?, hff]
              exact bool_at _ _ _ hxN
            have hfz := frozen_of hff x
            have hfl := (Array.getElem?_eq_some_iff.1 hff).1
            have hbne : bb ≠ fb := by have h := HON.out.size; have h2 := (Array.getElem?_eq_some_iff.1 HBA.out).1; omega
            have HOS : Hid (Only fb (fb + 1) wA (wc.setCell ⟨fb, x, none⟩ (.bool true)) ∧ (wc.setCell ⟨fb, x, none⟩ (.bool true)).heap[fb]? = some (.cells (boolCells (srsTo os5 (k + 1)) (S + 1)) 4 (0, 0)) ∧ (wc.setCell ⟨fb, x, none⟩ (.bool true)).heap[bb]? = some (.cells #[.int .i64 (at0 : Int), .int .i64 kd, .int .i64 z, .int .i64 (x : Int), .int .i64 tg] 34 (0, 0))) := Lib.hid (by
              refine ⟨hof.setCell (p := ⟨fb, x, none⟩) (.inl ⟨Nat.le_refl _, Nat.lt_succ_self _⟩) _, ?_, ?_⟩
              · have e : srsTo os5 (k + 1) = srsTo os5 k ++ [x] := by
                  show (if _ then _ else _) = _
                  rw [HO.out, if_pos (by exact hsr)]
                  rfl
                rw [e, ← bool_set]
                simp only [World.setCell, Array.getElem?_modify, hff]
                simp
              · rw [Below.heap_setCell _ _ _ _ (by exact hbne)]; exact HBP.out)
            clear hof hff
            rcases HPL.out with ⟨r1, r2, r3, r4⟩ | ⟨r1, r2⟩
            · have k1 : decide (v1 < 8) = true := decide_eq_true r1
              have k2 : (v1 == 8) = false := by simp; omega
              go_wp2_with fail
              generalize wc.setCell ⟨fb, x, none⟩ (.bool true) = ws at *
              obtain ⟨honS, hfS, hbS⟩ := HOS.out
              have hWs := HWA.out.beyond honS HFB.out.1 (by exact HROW.out)
              have c1 := hWs.c1
              have cl := hWs.lt
              have s0 := cell_of (v := .int .i64 (at0 : Int)) hbS 0 rfl
              have s3 := cell_of (v := .int .i64 (x : Int)) hbS 3 rfl
              have ls := (Array.getElem?_eq_some_iff.1 hbS).1
              have HFN := Lib.hid (fun nq => find_any (ws.drewN nq) L s5 (hWs.sp.drewN nq) (x : Int) (wf_of (by omega)))
              rw [HFI.out hsr] at HFN
              have HON2 := Lib.hid honS
              have HFS := Lib.hid hfS
              clear hWs HOS honS hfS hbS p0 p1 p2 p3 p4 q0 q1 q2 q3 q4 lp lq hfc hfz hfl
              go_quiet (((go_at_call 34; exact quiet_eq (HFN.out _))))
              go_wp2_with fail
              exact ⟨⟨k + 1, by go_num, hkm, HON2.out.drewN _, HFS.out⟩, by simp [intOf]; omega⟩
            · subst r1
              go_wp2_with fail
              generalize wc.setCell ⟨fb, x, none⟩ (.bool true) = ws at *
              obtain ⟨honS, hfS, hbS⟩ := HOS.out
              have hWs := HWA.out.beyond honS HFB.out.1 (by exact HROW.out)
              have c1 := hWs.c1
              have cl := hWs.lt
              have s0 := cell_of (v := .int .i64 (at0 : Int)) hbS 0 rfl
              have s3 := cell_of (v := .int .i64 (x : Int)) hbS 3 rfl
              have ls := (Array.getElem?_eq_some_iff.1 hbS).1
              have HFN := Lib.hid (fun nq => find_any (ws.drewN nq) L s5 (hWs.sp.drewN nq) (x : Int) (wf_of (by omega)))
              rw [HFI.out hsr] at HFN
              have HON2 := Lib.hid honS
              have HFS := Lib.hid hfS
              clear hWs HOS honS hfS hbS p0 p1 p2 p3 p4 q0 q1 q2 q3 q4 lp lq hfc hfz hfl
              go_quiet (((go_at_call 34; exact quiet_eq (HFN.out _))))
              go_wp2_with fail
              exact ⟨⟨k + 1, by go_num, hkm, HON2.out.drewN _, HFS.out⟩, by simp [intOf]; omega⟩
          · have hs0 : sr = 0 := by have := HSE.out.1; omega
            subst hs0
            have hof := HON.out.trans' HSP.out (.inr HON.out.size) (.inr HON.out.size)
            have hff : wc.heap[fb]? = some (.cells (boolCells (srsTo os5 (k + 1)) (S + 1)) 4 (0, 0)) := by
              have e : srsTo os5 (k + 1) = srsTo os5 k := by
                show (if _ then _ else _) = _
                rw [HO.out, if_neg (by exact hsr)]
              rw [e]
              exact (HSP.out.block _ (Array.getElem?_eq_some_iff.1 HFO.out).1 (.inl (Array.getElem?_eq_some_iff.1 HFO.out).1)).trans HFO.out
            have HFF := Lib.hid hff
            have HOF := Lib.hid hof
            clear hof hff hsr
            rcases HPL.out with ⟨r1, r2, r3, r4⟩ | ⟨r1, r2⟩
            · have k1 : decide (v1 < 8) = true := decide_eq_true r1
              have k2 : (v1 == 8) = false := by simp; omega
              go_wp2_with fail
              exact ⟨⟨k + 1, by go_num, hkm, HOF.out, HFF.out⟩, by simp [intOf]; omega⟩
            · subst r1
              go_wp2_with fail
              exact ⟨⟨k + 1, by go_num, hkm, HOF.out, HFF.out⟩, by simp [intOf]; omega⟩
      · obtain rfl : k = m := by omega
        clear hon hfo hWr
        have HBL : Hid (∀ wx, Only fb (fb + 1) wA wx → 0 < k → ∃ g, aa = some ⟨g, 0, none⟩ ∧ g < wx.heap.size ∧ ∀ j, j < k → wx.cell? ⟨g, j * 5, none⟩ = some (.int .i64 ((s5.blks.getD j ob0).at' : Int))) := Lib.hid fun wx ho h0 => by
          have hl := blks_len HWA.out.inv HWA.out.agree
          have hra := HRA.out
          rw [HM.out] at hra hl
          obtain ⟨g, e1, h1, h2, h3⟩ := obs_at hra hl.symm h0
          refine ⟨g, e1, Nat.lt_of_lt_of_le h2 ho.size, fun j hj => ?_⟩
          rw [ho.cell (p := ⟨g, j * 5, none⟩) h2 (.inr (by show fb + 1 ≤ g; omega))]
          exact h3 j 0 hj (by omega)
        have HUP : Hid (∀ i, i + 1 < k → (s5.blks.getD i ob0).at' < (s5.blks.getD (i + 1) ob0).at') := Lib.hid fun i hi => s5.blks_up i (by rw [blks_len HWA.out.inv HWA.out.agree, HM.out]; exact hi)
        have HFD : Hid (∀ x : Nat, (s5.Q (x : Int)).isSome = decide (x ∈ srsTo os5 k)) := Lib.hid fun x => by
          have := find_srs HWA.out.inv HWA.out.agree x
          rw [HM.out] at this
          exact this
        go_wp2_with fail
        go_loopw [17] (fun y wx => ∃ i : Nat, y = .int .i64 (i : Int) ∧ i ≤ k ∧ Only fb (fb + 1) wA wx ∧ wx.heap[fb]? = some (.cells (boolCells (srsTo os5 k) (S + 1)) 4 (0, 0))) (fun y _ => k + 1 - (intOf y).toNat)
        case atStart => exact ⟨0, rfl, Nat.zero_le _, HON.out, HFO.out⟩
        case round =>
          clear HON HFO HWR c1 c2 cl
          obtain ⟨i, rfl, hi, hon, hfo⟩ := hrel
          have HON := Lib.hid hon
          have HFO := Lib.hid hfo
          have hi0 : (0 : Int) ≤ (i : Int) := by omega
          by_cases hik : i < k
          · have hiI : (i : Int) < (k : Int) := by omega
            by_cases hi1 : i = 0
            · have k1 : decide ((0 : Int) < (i : Int)) = false := decide_eq_false (by omega)
              have k2 : decide (0 < i) = false := decide_eq_false (by omega)
              clear hon hfo hi1
              go_wp2_with fail
              go_quiet (fail)
              go_wp2_with fail
              exact ⟨⟨i + 1, by go_num, hik, HON.out.drewN _, HFO.out⟩, by simp [intOf]; omega⟩
            · obtain ⟨i, rfl⟩ : ∃ i', i = i' + 1 := ⟨i - 1, by omega⟩
              obtain ⟨g, rfl, hgl, hgc⟩ := HBL.out _ hon (by omega)
              have y1 := hgc i (by omega)
              have y2 := hgc (i + 1) hik
              have hup := HUP.out i hik
              obtain ⟨x1, hx1⟩ : ∃ x1, (s5.blks.getD i ob0).at' = x1 := ⟨_, rfl⟩
              obtain ⟨x2, hx2⟩ : ∃ x2, (s5.blks.getD (i + 1) ob0).at' = x2 := ⟨_, rfl⟩
              rw [hx1] at y1 hup
              rw [hx2] at y2 hup
              have k1 : decide ((0 : Int) < ((i + 1 : Nat) : Int)) = true := decide_eq_true (by omega)
              have k2 : decide ((x2 : Int) ≤ (x1 : Int)) = false := decide_eq_false (by omega)
              have k3 : decide (x2 ≤ x1) = false := decide_eq_false (by omega)
              have e1 : (((i + 1 : Nat) : Int)) - 1 = (i : Int) := by omega
              have hii : (i : Int) < (k : Int) := by omega
              have hii0 : (0 : Int) ≤ (i : Int) := by omega
              clear hon hfo hgc hup hx1 hx2
              go_wp2_with fail
              go_quiet (fail)
              go_wp2_with fail
              exact ⟨⟨i + 1 + 1, by go_num, hik, HON.out.drewN _, HFO.out⟩, by simp [intOf]; omega⟩
          · obtain rfl : i = k := by omega
            clear hon hfo
            go_wp2_with fail
            go_loopw [18] (fun y wx => ∃ x : Nat, y = .int .i64 (x : Int) ∧ x ≤ S + 1 ∧ Only fb (fb + 1) wA wx ∧ wx.heap[fb]? = some (.cells (boolCells (srsTo os5 i) (S + 1)) 4 (0, 0))) (fun y _ => S + 2 - (intOf y).toNat)
            case atStart => exact ⟨0, rfl, Nat.zero_le _, HON.out, HFO.out⟩
            case round =>
              clear HON HFO
              obtain ⟨x, rfl, hx, hon, hfo⟩ := hrel
              have HON := Lib.hid hon
              have HFO := Lib.hid hfo
              have hx0 : (0 : Int) ≤ (x : Int) := by omega
              have hWr := HWA.out.beyond hon HFB.out.1 (by exact HROW.out)
              have c1 := hWr.c1
              have c3 := hWr.c3
              have cl := hWr.lt
              rw [HSS.out] at c3
              have HWR := Lib.hid hWr
              by_cases hxS : x < S + 1
              · have hxI : (x : Int) ≤ (S : Int) := by omega
                have hxI2 : (x : Int) < (S : Int) + 1 := by omega
                have k1 : decide ((x : Int) ≤ (S : Int)) = true := decide_eq_true hxI
                have hfc : wr.cell? ⟨fb, x, none⟩ = some (.bool (decide (x ∈ srsTo os5 i))) := by
                  simp only [World.cell?, hfo]
                  exact bool_at _ _ _ hxS
                have hfl := (Array.getElem?_eq_some_iff.1 hfo).1
                have HFN := Lib.hid (find_any wr L s5 hWr.sp (x : Int) (wf_of (by omega)))
                rw [HFD.out x] at HFN
                generalize decide (x ∈ srsTo os5 i) = b at *
                clear hon hfo hWr c3
                have c3 : wr.cell? ⟨wb, 3, none⟩ = some (.int .i64 (S : Int)) := by have := HWR.out.c3; rw [HSS.out] at this; exact this
                go_wp2_with fail
                refine HFN.out.mono ?_
                rintro e w9 ⟨rfl, rfl⟩
                go_wp2_with fail
                exact ⟨⟨x + 1, by go_num, hxS, HON.out, HFO.out⟩, by simp [intOf]; omega⟩
              · obtain rfl : x = S + 1 := by omega
                have k1 : decide (((S + 1 : Nat) : Int) ≤ (S : Int)) = false := decide_eq_false (by omega)
                have k2 : decide (S + 1 ≤ S) = false := decide_eq_false (by omega)
                clear hon hfo hWr
                have HDP : Hid (∀ w', SpaceAt w' L s5 → Calls Tryd.prog 22 #[.pointer (some ⟨L.sb, 0, none⟩)] w' fun e w'' => (∃ v1 v2 v3 h0 h1 h2 h3 h4 h5 h6 h7, e = .returned (.agg #[v1, v2, v3, .int .i64 h0, .int .i64 h1, .int .i64 h2, .int .i64 h3, .int .i64 h4, .int .i64 h5, .int .i64 h6, .int .i64 h7, .int .i64 (S : Int)])) ∧ Still w' w'') := Lib.hid fun w' h => dump_any w' L s5 h _ (fun v1 v2 v3 w'' _ hs => ⟨⟨v1, v2, v3, _, _, _, _, _, _, _, _, by rw [HSS.out]⟩, hs⟩)
                have HWG : Hid (∀ w', SpaceAt w' L s5 → Calls Tryd.prog 32 #[.pointer (some ⟨L.sb, 0, none⟩)] w' fun e w'' => e = .returned (.int .i64 (-1)) ∧ Still w' w'') := Lib.hid fun w' h => (wrong_any w' L s5 h HWA.out.inv.fine).mono fun e w'' hh => by
                  obtain ⟨⟨m', hm', rfl⟩, hs⟩ := hh
                  rw [if_pos (HWA.out.inv.least hm')]
                  exact ⟨rfl, hs⟩
                have hfld : ∀ v1 v2 v3 h0 h1 h2 h3 h4 h5 h6 h7 w, (Instr.field 48 (.agg #[v1, v2, v3, .int .i64 h0, .int .i64 h1, .int .i64 h2, .int .i64 h3, .int .i64 h4, .int .i64 h5, .int .i64 h6, .int .i64 h7, .int .i64 (S : Int)]) 4).run Tryd.prog w = .ok (.int .i64 (S : Int)) w := fun _ _ _ _ _ _ _ _ _ _ _ _ => by kernel_rfl
                have HS1 : Hid (∀ w', Still wr w' → w'.cell? ⟨wb, 1, none⟩ = some (.pointer (some ⟨L.sb, 0, none⟩)) ∧ w'.cell? ⟨wb, 3, none⟩ = some (.int .i64 (S : Int))) := Lib.hid fun w' h => by
                  have h1 := HWR.out.still h
                  have h2 := h1.c3
                  rw [HSS.out] at h2
                  exact ⟨h1.c1, h2⟩
                have hsW : Still wr wr := Only.refl _ _ _
                go_wp2_with fail
                go_region_held3 (fun w' => w'.cell? ⟨wb, 1, none⟩ = some (.pointer (some ⟨L.sb, 0, none⟩)) ∧ w'.cell? ⟨wb, 3, none⟩ = some (.int .i64 (S : Int)))
                  ((refine HS1.out _ ?_; repeat first | with_reducible exact hsW | with_reducible exact Only.refl _ _ _ | with_reducible apply Only.drew | with_reducible apply Only.drewN | with_reducible apply Only.alloc))
                  (first
                    | (go_at_call 22; refine (HDP.out _ (HWR.out.still (by (repeat first | exact hsW | exact Only.refl _ _ _ | apply Only.drew | apply Only.drewN | apply Only.alloc))).sp).mono ?_; rintro e wp ⟨⟨v1, v2, v3, h0, h1, h2, h3, h4, h5, h6, h7, rfl⟩, hcall⟩; have hsW : Still wr wp := Still.trans (by (repeat first | exact hsW | exact Only.refl _ _ _ | apply Only.drew | apply Only.drewN | apply Only.alloc)) hcall)
                    | (go_at_call 32; refine (HWG.out _ (HWR.out.still (by (repeat first | exact hsW | exact Only.refl _ _ _ | apply Only.drew | apply Only.drewN | apply Only.alloc))).sp).mono ?_; rintro e wq ⟨rfl, hcall⟩; have hsW : Still wr wq := Still.trans (by (repeat first | exact hsW | exact Only.refl _ _ _ | apply Only.drew | apply Only.drewN | apply Only.alloc)) hcall))
                have hfw : fb < wA.heap.size := (Array.getElem?_eq_some_iff.1 HBA.out).1
                have hfin : Below w.heap.size w wq := (HBEA.out.trans (below_le (HON.out.below (Nat.le_of_lt hfw)) HFB.out.2.2)).trans (below_le hsW.below (by have := HON.out.size; have := HFB.out.2.2; omega))
                go_wp2_with fail
                go_ret
                exact ⟨rfl, hfin⟩
end Go.Proofs.YtiniadochjeieaaDoor
