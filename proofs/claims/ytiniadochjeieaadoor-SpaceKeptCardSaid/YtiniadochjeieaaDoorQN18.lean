/-
  The walk of SpaceKept.
-/
import Derived.Test.YtiniadochjeieaaDoorQN17
namespace Go.Proofs.YtiniadochjeieaaDoor
open Go Go.RowKit

set_option maxRecDepth 100000 in
set_option maxHeartbeats 6400000 in
theorem kept_any (n : Int) (a : Option Addr) (len cap : Nat) (ops : Nat → OpV) (la : Option Addr) (ll lc : Nat) (zs : Nat → Int) (w : World) (hn : (Lit.int .i64 n).wf = true) (ho : OpsB w w.heap.size a len ops) (hz : IsRowI w la ll lc zs ∧ ∀ x, la = some x → 0 < ll → x.block < w.heap.size) (hT : Tab w) (h0 : 0 < w.heap.size) :
    Calls Tryd.prog 6 #[.int .i64 n, .slice a len cap, .slice la ll lc] w fun e w' => e = .returned (.bool true) ∧ Below w.heap.size w w' := by
  obtain ⟨hn1, hn2⟩ := wf_i64 hn
  have HO := Lib.hid ho
  have HT := Lib.hid hT
  have H0 := Lib.hid h0
  have HZ := Lib.hid hz
  have hll := hz.1.1
  have HBG := Lib.hid (begun_any n w hn1 hn2 hT h0)
  have HCN : Hid (∀ (p : Addr) (x y : Nat) (w : World), (binOp .eql 41 (.slice (some p) x y) (.slice none 0 0)).run Tryd.prog w = .ok (.bool false) w) := Lib.hid fun _ _ _ _ => by kernel_rfl
  clear ho hT hn h0 hz
  have hllI : (ll : Int) ≤ 9223372036854775807 := by omega
  have hll0 : (0 : Int) ≤ (ll : Int) := by omega
  go_enter Tryd.func6, Tryd.ntmps6
  go_wp2_with fail
  refine HBG.out _ (fun w1 L wb hwb hW hst => ?_)
  have HST := Lib.hid hst
  have HW := Lib.hid hW
  have HWB := Lib.hid hwb
  clear hst hW HBG hwb
  go_wp2_with fail
  refine (alive_any w1 (HT.out.only HST.out H0.out) (by have := HW.out.lt; omega)).mono ?_
  rintro e w2 ⟨rfl, hs2⟩
  have HST2 := Lib.hid (Still.trans HST.out hs2)
  have HW2 := Lib.hid (HW.out.still hs2)
  clear HST HW hs2
  have HO2 := Lib.hid ((HO.out.below HST2.out.below).mono HWB.out)
  have HSM := Lib.hid (small_any a len cap ops w2 HO2.out.is)
  obtain ⟨b, hb⟩ : ∃ b, smallB ops len = b := ⟨_, rfl⟩
  rw [hb] at HSM
  go_wp2_with fail
  refine HSM.out.mono ?_
  rintro e w2' ⟨rfl, rfl⟩
  by_cases hbl : b = false ∨ 400 < ll
  · have HBB := Lib.hid hb
    have hll4 : b = true → (400 : Int) < (ll : Int) := fun h => by
      rcases hbl with h2 | h2
      · rw [h] at h2; cases h2
      · omega
    clear hb hbl
    cases b with
    | false =>
      clear hll4
      go_wp2_with fail
      refine (alive_any w2 (HT.out.only HST2.out H0.out) (by have := HW2.out.lt; omega)).mono ?_
      rintro e w3 ⟨rfl, hs3⟩
      have HO3 := Lib.hid (HO2.out.below (below_le hs3.below (Nat.le_of_lt HW2.out.lt)))
      have HSM3 := Lib.hid (small_any a len cap ops w3 HO3.out.is)
      rw [HBB.out] at HSM3
      go_wp2_with fail
      refine HSM3.out.mono ?_
      rintro e w4 ⟨rfl, rfl⟩
      go_wp2_with fail
      go_ret
      refine ⟨rfl, ?_⟩
      exact (HST2.out.below.trans (below_le hs3.below (by have := HST2.out.size; omega)))
    | true =>
      have hll4 := hll4 rfl
      go_wp2_with fail
      refine (alive_any w2 (HT.out.only HST2.out H0.out) (by have := HW2.out.lt; omega)).mono ?_
      rintro e w3 ⟨rfl, hs3⟩
      have HO3 := Lib.hid (HO2.out.below (below_le hs3.below (Nat.le_of_lt HW2.out.lt)))
      have HSM3 := Lib.hid (small_any a len cap ops w3 HO3.out.is)
      rw [HBB.out] at HSM3
      go_wp2_with fail
      refine HSM3.out.mono ?_
      rintro e w4 ⟨rfl, rfl⟩
      go_wp2_with fail
      go_ret
      refine ⟨rfl, ?_⟩
      exact (HST2.out.below.trans (below_le hs3.below (by have := HST2.out.size; omega)))
  · obtain rfl : b = true := by cases b with
      | true => rfl
      | false => exact absurd (.inl rfl) hbl
    have hll4 : (ll : Int) ≤ 400 := by
      rcases Nat.lt_or_ge 400 ll with h | h
      · exact absurd (.inr h) hbl
      · omega
    clear hbl
    have HLL := Lib.hid (smallB_ll hb)
    clear hb
    go_wp2_with fail
    refine played_any _ L _ wb [] (.slice none 0 0) HW2.out a len cap ops HO2.out HLL.out (by show 0 ≤ 1000000; omega) (by simp) _ (fun w5 s5 os5 v5 h5 hn5 ha5 hl5 hf5 => ?_)
    have HW5 := Lib.hid h5
    have HBE5 : Hid (Below w.heap.size w w5) := Lib.hid (HST2.out.below.trans (below_le hf5.b HWB.out))
    have ha5' : s5.acts ≤ 240 := ha5
    have hl5' : os5.length ≤ 120 := by simpa using hl5
    have hn5' : s5.n ≤ 12 := by have h := wi_range n 12 (by omega); have e : s5.n = 1 + (wi n 12).toNat := hn5; omega
    have c1 := HW5.out.c1
    have cl := HW5.out.lt
    clear h5 hf5 HSM HO2 HLL hn5 ha5 hl5
    go_wp2_with fail
    refine dump_any w5 L s5 HW5.out.sp _ (fun v1 v2 v3 w6 hls hs6 => ?_)
    obtain ⟨aw, cw, rfl, hwas⟩ := ints_at hls.r1
    have hn1' := HW5.out.sp.n1
    obtain ⟨N, hN⟩ : ∃ N, 64 * s5.n = N := ⟨_, rfl⟩
    have HN := Lib.hid hN
    obtain ⟨gw, rfl, hgw1, hgw2, _⟩ := hwas 0 (by omega) (by rw [wdList_length]; omega)
    have HWAS : Hid (∀ x, x < N → w6.cell? ⟨gw, x, none⟩ = some (.int .i64 (s5.W x))) := Lib.hid fun x hx => by
      obtain ⟨g', e, _, _, h⟩ := hwas x (by omega) (by rw [wdList_length]; omega)
      injection e with e
      injection e with e _
      subst e
      rw [h, wdList_getD _ _ _ (by omega)]
    have HW6 := Lib.hid (HW5.out.still hs6)
    have HBE6 : Hid (Below w.heap.size w w6) := Lib.hid (HBE5.out.trans (below_le hs6.below (by have := HBE5.out.size; omega)))
    have HZ6 := Lib.hid (HZ.out.1.below HBE6.out HZ.out.2)
    have HG : Hid (gw < w6.heap.size ∧ gw ≠ wb ∧ L.hi ≤ gw ∧ v5.ownBlock ≠ some gw) := Lib.hid ⟨hgw2, by omega, by have := HW5.out.sp.top; omega, fun e => by have := (HW5.out.row.lt gw e).2; omega⟩
    rw [hN]
    have hfd : ∀ W, (Instr.field 48 (.agg #[.slice (some ⟨gw, 0, none⟩) N cw, v2, v3, .int .i64 (s5.hd0 0), .int .i64 (s5.hd0 1), .int .i64 (s5.hd0 2), .int .i64 (s5.hd0 3), .int .i64 (s5.hd0 4), .int .i64 (s5.hd0 5), .int .i64 (s5.hd0 6), .int .i64 (s5.hd0 7), .int .i64 s5.ser]) 0).run Tryd.prog W = .ok (.slice (some ⟨gw, 0, none⟩) N cw) W := fun _ => by kernel_rfl
    clear hls hs6 hwas hgw1 hgw2 hN c1 cl HW5 HBE5
    go_wp2_with fail
    clear hfd
    refine keeps_any w6 L s5 wb os5 v5 HW6.out la ll lc zs HZ6.out (by omega) (by omega) (fun x h1 h2 => Nat.lt_of_lt_of_le (HZ.out.2 x h1 h2) HWB.out) _ (fun w7 s7 os7 v7 h7 hn7 ha7 hl7 hf7 hk7 => ?_)
    obtain ⟨stay, hk7⟩ := hk7
    have HK := Lib.hid hk7
    have HW7 := Lib.hid h7
    have HBE7 : Hid (Below w.heap.size w w7) := Lib.hid (HBE6.out.trans (below_le hf7.b HWB.out))
    have HWAS7 : Hid (gw < w7.heap.size ∧ ∀ x, x < N → w7.cell? ⟨gw, x, none⟩ = some (.int .i64 (s5.W x))) := Lib.hid ⟨Nat.lt_of_lt_of_le HG.out.1 hf7.b.size, fun x hx => by
      rw [← HWAS.out x hx]
      exact World.cell?_of_block (w := w6) (hf7.k gw HG.out.1 HG.out.2.1 (.inr HG.out.2.2.1) HG.out.2.2.2).1⟩
    have HN7 : Hid (64 * s7.n = N) := Lib.hid (by rw [hn7]; exact HN.out)
    have hl7' : os7.length ≤ 120 := by omega
    have hn7' : s7.n ≤ 12 := by omega
    have hn71 : 1 ≤ s7.n := by omega
    clear h7 hf7 hk7 ha7 hl7 hn7 HWAS HG HW6 HBE6 HZ6 HN hl5' hn5' ha5'
    go_wp2_with fail
    refine owner_any w7 L s7 wb os7 v7 HW7.out (by omega) _ (fun w8 hs8 hl8 _ => ?_)
    rw [HN7.out]
    have hcn := HCN.out ⟨w7.heap.size, 0, none⟩ N N
    have HW8 := Lib.hid (HW7.out.still hs8)
    have HBE8 : Hid (Below w.heap.size w w8) := Lib.hid (HBE7.out.trans (below_le hs8.below (by have := HBE7.out.size; omega)))
    have HWAS8 : Hid (gw < w8.heap.size ∧ ∀ x, x < N → w8.cell? ⟨gw, x, none⟩ = some (.int .i64 (s5.W x))) := Lib.hid ⟨Nat.lt_of_lt_of_le HWAS7.out.1 hs8.size, fun x hx => (hs8.cell (p := ⟨gw, x, none⟩) HWAS7.out.1 (.inl HWAS7.out.1)).trans (HWAS7.out.2 x hx)⟩
    have c0 := HW8.out.c0
    have cl := HW8.out.lt
    have hmul : IntKind.i64.wrap (64 * (s7.n : Int)) = (N : Int) := by rw [IntKind.wrap_i64]; have := HN7.out; omega
    have hN1 : (1 : Int) ≤ (N : Int) := by have := HN7.out; omega
    have hN2 : (N : Int) ≤ 1000 := by have := HN7.out; omega
    clear hs8 hl8 HW7 HBE7 HWAS7
    go_wp2_with fail
    refine owner_any w8 L s7 wb os7 v7 HW8.out (by omega) _ (fun w9 hs9 hl9 hw9 => ?_)
    rw [HN7.out] at hw9 ⊢
    have HW9 := Lib.hid (HW8.out.still hs9)
    have HBE9 : Hid (Below w.heap.size w w9) := Lib.hid (HBE8.out.trans (below_le hs9.below (by have := HBE8.out.size; omega)))
    have HWAS9 : Hid (gw < w9.heap.size ∧ ∀ x, x < N → w9.cell? ⟨gw, x, none⟩ = some (.int .i64 (s5.W x))) := Lib.hid ⟨Nat.lt_of_lt_of_le HWAS8.out.1 hs9.size, fun x hx => (hs9.cell (p := ⟨gw, x, none⟩) HWAS8.out.1 (.inl HWAS8.out.1)).trans (HWAS8.out.2 x hx)⟩
    obtain ⟨ob, hob⟩ : ∃ ob, w8.heap.size = ob := ⟨_, rfl⟩
    rw [hob] at hw9 ⊢
    have HOW := Lib.hid hw9
    have c0 := HW9.out.c0
    have cl := HW9.out.lt
    have hmk := make_words N (by omega) w9
    clear hs9 hl9 hw9 HW8 HBE8 HWAS8 hcn hob
    go_wp2_with fail
    have hb10 := heap_alloc_new w9 (.cells (wdCells (fun _ => 0) N) 3)
    have hs10 : Still w9 (w9.alloc (.cells (wdCells (fun _ => 0) N) 3)) := (Only.refl _ _ w9).alloc _
    obtain ⟨lb, hlb⟩ : ∃ lb, w9.heap.size = lb := ⟨_, rfl⟩
    rw [hlb] at hb10 ⊢
    generalize w9.alloc (.cells (wdCells (fun _ => 0) N) 3) = w10 at *
    have HB10 : Hid (WordsAt w10 lb N (lkTo s7 N 0)) := Lib.hid hb10
    have HBE10 : Hid (Below w.heap.size w w10) := Lib.hid (HBE9.out.trans (below_le hs10.below (by have := HBE9.out.size; omega)))
    have hLB : w.heap.size ≤ lb ∧ L.hi ≤ lb ∧ gw < lb ∧ ob < lb := ⟨by have := HBE9.out.size; omega, by have := HW9.out.sp.top; omega, by have := HWAS9.out.1; omega, by have := HOW.out.lt; omega⟩
    have HLB := Lib.hid hLB
    have HC : Hid (∀ W, Only lb (lb + 1) w10 W → Wld W L s7 wb os7 v7 ∧ (∀ x, x < N → W.cell? ⟨gw, x, none⟩ = some (.int .i64 (s5.W x))) ∧ WordsAt W ob N (ownTo os7 os7.length)) := Lib.hid fun W ho => by
      have h2 := (Still.any hs10 lb (lb + 1)).trans ho
      refine ⟨HW9.out.beyond h2 HLB.out.2.1 (fun g hg => by have := (HW9.out.row.lt g hg).2; omega), fun x hx => ?_, HOW.out.kept h2 (.inl (by have := HOW.out.lt; omega))⟩
      rw [h2.cell (p := ⟨gw, x, none⟩) HWAS9.out.1 (.inl HLB.out.2.2.1)]
      exact HWAS9.out.2 x hx
    clear hb10 hs10 hLB hmk c0 cl hmul HW9 HBE9 hlb
    go_loopw [11] (fun y W => ∃ c : Nat, y = .int .i64 (c : Int) ∧ c ≤ 8 ∧ Only lb (lb + 1) w10 W ∧ WordsAt W lb N (lkTo s7 N c)) (fun y _ => 9 - (intOf y).toNat)
    case atStart => exact ⟨0, rfl, Nat.zero_le _, Only.refl _ _ _, HB10.out⟩
    case round =>
      obtain ⟨c, rfl, hc, hon, hwd⟩ := hrel
      have hc0 : (0 : Int) ≤ (c : Int) := by omega
      have HON := Lib.hid hon
      have HWD := Lib.hid hwd
      have hWr := Lib.hid (HC.out _ hon).1
      have hlbr := hwd.lt
      by_cases hc8 : c < 8
      · have hcI : (c : Int) < 8 := by omega
        clear hon hwd
        go_wp2_with fail
        refine firsts_any wr L s7 wb os7 v7 hWr.out (by omega) _ (fun w11 vs hs11 hrows => ?_)
        rw [HN7.out] at hrows
        obtain ⟨fa, fq, hvc, hel⟩ := ints_at (hrows c hc8)
        have hix := fun W => index8 vs c hc8 W
        rw [hvc] at hix
        have HEL : Hid (∀ j, j < (frI s7 N c).length → ∃ (g : Nat) (x : Nat), fa = some ⟨g, 0, none⟩ ∧ g < w11.heap.size ∧ lb < g ∧ x < N ∧ (frI s7 N c).getD j 0 = (x : Int) ∧ w11.cell? ⟨g, j, none⟩ = some (.int .i64 (x : Int))) := Lib.hid fun j hj => by
          obtain ⟨g, e1, e2, e3, e4⟩ := hel j hj hj
          have hm : (frs s7 c N).getD j 0 < N := by
            have hj' : j < (frs s7 c N).length := by rw [← frI_length]; exact hj
            exact ((mem_frs s7 c _ N).1 (show (frs s7 c N).getD j 0 ∈ frs s7 c N by simp [hj'])).1
          exact ⟨g, (frs s7 c N).getD j 0, e1, e3, by omega, hm, frI_getD _ _ _ _, by rw [e4, frI_getD]⟩
        have HWD11 : Hid (WordsAt w11 lb N (lkIn (frI s7 N c) (lkTo s7 N c) 0)) := Lib.hid (HWD.out.kept hs11 (.inl HWD.out.lt))
        have HON11 := Lib.hid (HON.out.andStill hs11)
        have HNX : Hid (∀ W, WordsAt W lb N (lkIn (frI s7 N c) (lkTo s7 N c) (frI s7 N c).length) → WordsAt W lb N (lkTo s7 N (c + 1))) := Lib.hid fun W h => h
        have hln : (frI s7 N c).length ≤ 1000 := by rw [frI_length]; have := frs_len s7 c N; omega
        obtain ⟨l, hl⟩ : ∃ l, (frI s7 N c).length = l := ⟨_, rfl⟩
        have HL := Lib.hid hl
        rw [hl] at hix HEL HNX hln
        have hlI : (l : Int) ≤ 1000 := by omega
        clear hvc hel hrows hs11 hWr hl hlbr
        go_wp2_with fail
        clear hix
        go_loopw [13] (fun y W => ∃ i : Nat, y = .int .i64 (i : Int) ∧ i ≤ l ∧ Only lb (lb + 1) w10 W ∧ WordsAt W lb N (lkIn (frI s7 N c) (lkTo s7 N c) i) ∧ Only lb (lb + 1) w11 W) (fun y _ => l + 1 - (intOf y).toNat)
        case atStart => exact ⟨0, rfl, Nat.zero_le _, HON11.out, HWD11.out, Only.refl _ _ _⟩
        case round =>
          obtain ⟨i, rfl, hi, hon, hwd, hon2⟩ := hrel
          have hi0 : (0 : Int) ≤ (i : Int) := by omega
          by_cases hil : i < l
          · have hiI : (i : Int) < (l : Int) := by omega
            obtain ⟨g, x, rfl, hg1, hg2, hxN, hxe, hgc⟩ := HEL.out i hil
            have e1 : wr.cell? ⟨g, i, none⟩ = some (.int .i64 (x : Int)) := (hon2.cell (p := ⟨g, i, none⟩) hg1 (.inr hg2)).trans hgc
            have gl : g < wr.heap.size := Nat.lt_of_lt_of_le hg1 hon2.size
            have hw1 := hwd.cell x hxN
            have hw2 := hwd.frozen x
            have hw3 := hwd.lt
            have hx0 : (0 : Int) ≤ (x : Int) := by omega
            have hxI : (x : Int) < (N : Int) := by omega
            have hne : lb ≠ g := by omega
            have HW1 := Lib.hid (hwd.set x (-4))
            have HO1 := Lib.hid (hon.setCell (p := ⟨lb, x, none⟩) (.inl ⟨Nat.le_refl _, Nat.lt_succ_self _⟩) (.int .i64 (-4)))
            have HO2 := Lib.hid (hon2.setCell (p := ⟨lb, x, none⟩) (.inl ⟨Nat.le_refl _, Nat.lt_succ_self _⟩) (.int .i64 (-4)))
            generalize lkIn (frI s7 N c) (lkTo s7 N c) i x = y at *
            by_cases hil2 : i + 1 < l
            · have hiI2 : (i : Int) + 1 < (l : Int) := by omega
              obtain ⟨g', z, hgg, _, _, hzN, hze, hgc2⟩ := HEL.out (i + 1) hil2
              obtain rfl : g = g' := by injection hgg with e; injection e
              have e2 : wr.cell? ⟨g, i + 1, none⟩ = some (.int .i64 (z : Int)) := (hon2.cell (p := ⟨g, i + 1, none⟩) hg1 (.inr hg2)).trans hgc2
              have hz0 : (0 : Int) ≤ (z : Int) := by omega
              have hzI : (z : Int) < 1000 := by omega
              have hi10 : (0 : Int) ≤ (i : Int) + 1 := by omega
              have hwi1 : IntKind.i64.wrap ((i : Int) + 1) = (i : Int) + 1 := by rw [IntKind.wrap_i64]; omega
              have hti1 : ((i : Int) + 1).toNat = i + 1 := by omega
              have hdi1 : decide ((i : Int) + 1 < 0) = false := decide_eq_false (by omega)
              have hdi2 : decide ((l : Int) ≤ (i : Int) + 1) = false := decide_eq_false (by omega)
              have hdi3 : decide (l ≤ i + 1) = false := decide_eq_false (by omega)
              have hdi4 : decide ((l : Int) < (i : Int) + 1) = false := decide_eq_false (by omega)
              have HNW : Hid (∀ W, WordsAt W lb N (setW (setW (lkIn (frI s7 N c) (lkTo s7 N c) i) x (-4)) x ((z : Int) * 8 + 4)) → WordsAt W lb N (lkIn (frI s7 N c) (lkTo s7 N c) (i + 1))) := Lib.hid fun W h => by
                rw [setW_twice] at h
                show WordsAt W lb N (setW _ _ _)
                rw [HL.out, if_pos hil2, hxe, hze, Int.toNat_natCast]
                exact h
              clear hon hwd hon2 hgc hgc2 hgg hxe hze hxN hzN hg1 hg2
              go_wp2_with fail
              have z1 : (wr.setCell ⟨lb, x, none⟩ (.int .i64 (-4))).cell? ⟨g, i, none⟩ = some (.int .i64 (x : Int)) := set_cell e1 (fun e => hne e.symm)
              have z2 : (wr.setCell ⟨lb, x, none⟩ (.int .i64 (-4))).cell? ⟨g, i + 1, none⟩ = some (.int .i64 (z : Int)) := set_cell e2 (fun e => hne e.symm)
              have HWZ := Lib.hid (HW1.out.set x ((z : Int) * 8 + 4))
              have HOZ := Lib.hid (HO1.out.setCell (p := ⟨lb, x, none⟩) (.inl ⟨Nat.le_refl _, Nat.lt_succ_self _⟩) (.int .i64 ((z : Int) * 8 + 4)))
              have HOZ2 := Lib.hid (HO2.out.setCell (p := ⟨lb, x, none⟩) (.inl ⟨Nat.le_refl _, Nat.lt_succ_self _⟩) (.int .i64 ((z : Int) * 8 + 4)))
              have z3 : (wr.setCell ⟨lb, x, none⟩ (.int .i64 (-4))).cell? ⟨lb, x, none⟩ = some (.int .i64 (-4)) := World.cell?_setCell_same _ _ _ hw1
              have z4 := HW1.out.frozen x
              have z5 := HW1.out.lt
              have z6 : g < (wr.setCell ⟨lb, x, none⟩ (.int .i64 (-4))).heap.size := by simpa [World.setCell] using gl
              generalize wr.setCell ⟨lb, x, none⟩ (.int .i64 (-4)) = wz at *
              clear e1 e2 hw1 hw2 hw3 gl HW1 HO1 HO2
              go_region_held3 (fun w' => w'.cell? ⟨g, i, none⟩ = some (.int .i64 (x : Int)) ∧ w'.cell? ⟨g, i + 1, none⟩ = some (.int .i64 (z : Int)) ∧ (∃ y, w'.cell? ⟨lb, x, none⟩ = some (.int .i64 y)) ∧ w'.frozen? ⟨lb, x, none⟩ = false) (first | exact ⟨z1, z2, ⟨_, z3⟩, z4⟩ | exact ⟨set_cell z1 (fun e => hne e.symm), set_cell z2 (fun e => hne e.symm), ⟨_, World.cell?_setCell_same _ _ _ z3⟩, (World.frozen?_setCell _ _ _ _).trans z4⟩) (fail)
              rename_i hHeld
              clear hHeld
              go_wp2_with fail
              exact ⟨⟨i + 1, by go_num, hil, HOZ.out.drew, HNW.out _ HWZ.out, HOZ2.out.drew⟩, by simp [intOf]; omega⟩
            · have hiI2 : (l : Int) ≤ (i : Int) + 1 := by omega
              have HNW : Hid (∀ W, WordsAt W lb N (setW (lkIn (frI s7 N c) (lkTo s7 N c) i) x (-4)) → WordsAt W lb N (lkIn (frI s7 N c) (lkTo s7 N c) (i + 1))) := Lib.hid fun W h => by
                show WordsAt W lb N (setW _ _ _)
                rw [HL.out, if_neg hil2, hxe, Int.toNat_natCast]
                exact h
              clear hon hwd hon2 hgc hxe hxN hg1 hg2
              go_wp2_with fail
              exact ⟨⟨i + 1, by go_num, hil, HO1.out, HNW.out _ HW1.out, HO2.out⟩, by simp [intOf]; omega⟩
          · obtain rfl : i = l := by omega
            have HFI := Lib.hid (HNX.out _ hwd)
            have HON2 := Lib.hid hon
            clear hon hwd hon2
            go_wp2_with fail
            exact ⟨⟨c + 1, by go_num, hc8, HON2.out, HFI.out⟩, by simp [intOf]; omega⟩
      · obtain rfl : c = 8 := by omega
        have c0 := hWr.out.c0
        have cl := hWr.out.lt
        have hmk := make_bools s7.n (by omega) wr
        clear hon hwd
        go_wp2_with fail
        have hb12 := heap_alloc_new wr (.cells (boolCells [] s7.n) 4)
        have hs12 : Still wr (wr.alloc (.cells (boolCells [] s7.n) 4)) := (Only.refl _ _ wr).alloc _
        obtain ⟨ub, hub⟩ : ∃ ub, wr.heap.size = ub := ⟨_, rfl⟩
        rw [hub] at hb12 ⊢
        generalize wr.alloc (.cells (boolCells [] s7.n) 4) = w12 at *
        have HB12 := Lib.hid hb12
        have HBE12 : Hid (Below w.heap.size w w12) := Lib.hid ((HBE10.out.trans (below_le (HON.out.below (Nat.le_of_lt HB10.out.lt)) HLB.out.1)).trans (below_le hs12.below (by have := HBE10.out.size; have := HON.out.size; omega)))
        have HC3 : Hid (∀ W, Only ub (ub + 1) w12 W → Wld W L s7 wb os7 v7 ∧ (∀ x, x < N → W.cell? ⟨gw, x, none⟩ = some (.int .i64 (s5.W x))) ∧ WordsAt W ob N (ownTo os7 os7.length) ∧ WordsAt W lb N (lkTo s7 N 8)) := Lib.hid fun W ho => by
          have h2 := (Still.any hs12 ub (ub + 1)).trans ho
          obtain ⟨g1, g2, g3⟩ := HC.out _ HON.out
          have hgl : gw < ub := by have := HLB.out; omega
          refine ⟨g1.beyond h2 (by have := HLB.out; omega) (fun g hg => by have := (g1.row.lt g hg).2; omega), fun x hx => ?_, g3.kept h2 (.inl (by have := HLB.out; omega)), HWD.out.kept h2 (.inl (by have := HLB.out; omega))⟩
          rw [h2.cell (p := ⟨gw, x, none⟩) (by show gw < wr.heap.size; omega) (.inl hgl)]
          exact g2 x hx
        have HUB : Hid (w.heap.size ≤ ub ∧ gw < ub ∧ ob < ub ∧ lb < ub) := Lib.hid (by have := HLB.out; omega)
        clear hb12 hs12 hub hmk c0 cl hWr hlbr HON HWD HC HB10 HBE10 HOW HWAS9
        have HKV : Hid (∀ x, x < N → (0 ≤ ownTo os7 os7.length x → s7.W x = s5.W x) ∧ (ownTo os7 os7.length x < 0 → s7.W x = lkTo s7 N 8 x)) := Lib.hid fun x hx => by
          have hag := (HC3.out _ (Only.refl _ _ _)).1.agree
          refine ⟨fun h => HK.out.room x ((own_room hag x).1 h), fun h => ?_⟩
          have h2 := HK.out.rest (x := x) (by rw [HN7.out]; exact hx) (fun hr => by have := (own_room hag x).2 hr; omega)
          rw [HN7.out] at h2
          exact h2
        go_loopw [15] (fun y W => ∃ a0 : Nat, y = .int .i64 (a0 : Int) ∧ a0 ≤ N ∧ Only ub (ub + 1) w12 W ∧ BoolsAt W ub s7.n (usedL (ownTo os7 os7.length) a0)) (fun y _ => N + 1 - (intOf y).toNat)
        case atStart => exact ⟨0, rfl, Nat.zero_le _, Only.refl _ _ _, HB12.out⟩
        case round =>
          obtain ⟨a0, rfl, ha, hon, hub⟩ := hrel
          have ha0 : (0 : Int) ≤ (a0 : Int) := by omega
          have HON := Lib.hid hon
          have HUBX := Lib.hid hub
          obtain ⟨hWr, hwas, how, hlk⟩ := HC3.out _ hon
          have c0 := hWr.c0
          have c1 := hWr.c1
          have cl := hWr.lt
          have hmul : IntKind.i64.wrap (64 * (s7.n : Int)) = (N : Int) := by rw [IntKind.wrap_i64]; have := HN7.out; omega
          by_cases haN : a0 < N
          · have haI : (a0 : Int) < (N : Int) := by omega
            have HPE := Lib.hid (peek_in wr L s7 hWr.sp a0 (by have := HN7.out; omega))
            have x1 := hwas a0 haN
            have x2 := how.cell a0 haN
            have x3 := hlk.cell a0 haN
            have l1 := how.lt
            have l2 := hlk.lt
            have l3 : gw < wr.heap.size := by have := HUB.out; have := (Array.getElem?_eq_some_iff.1 hub).1; omega
            obtain ⟨p, hp⟩ : ∃ p, a0 / 64 = p := ⟨_, rfl⟩
            have hpn : p < s7.n := by have := HN7.out; omega
            have hp0 : (0 : Int) ≤ (p : Int) := by omega
            have hpI : (p : Int) < (s7.n : Int) := by omega
            have htd : (a0 : Int).tdiv 64 = (p : Int) := by rw [Int.tdiv_eq_ediv_of_nonneg (by omega)]; omega
            have x4 := bool_cell hub hpn
            have f4 := frozen_of (show wr.heap[ub]? = some (.cells _ _ _) from hub) p
            have l4 := (Array.getElem?_eq_some_iff.1 hub).1
            obtain ⟨k1, k2⟩ := HKV.out a0 haN
            have HNU : Hid (∀ o, ownTo os7 os7.length a0 = o → usedL (ownTo os7 os7.length) (a0 + 1) = if 0 ≤ o then usedL (ownTo os7 os7.length) a0 ++ [p] else usedL (ownTo os7 os7.length) a0) := Lib.hid fun o h => by
              show (if _ then _ else _) = _
              rw [h, hp]
            obtain ⟨o, hoo⟩ : ∃ o, ownTo os7 os7.length a0 = o := ⟨_, rfl⟩
            have HNU2 := Lib.hid (HNU.out o hoo)
            rw [hoo] at x2 k1 k2
            obtain ⟨b, hb⟩ : ∃ b, decide (p ∈ usedL (ownTo os7 os7.length) a0) = b := ⟨_, rfl⟩
            rw [hb] at x4
            have HBB := Lib.hid hb
            obtain ⟨u, hu⟩ : ∃ u, s7.W a0 = u := ⟨_, rfl⟩
            rw [hu] at HPE k1 k2
            clear hon hub hwas how hlk hWr hp hoo hb hu HNU
            by_cases ho : 0 ≤ o
            · rw [← k1 ho] at x1
              rw [if_pos ho] at HNU2
              have hs1 := cells_set HUBX.out p (.bool true)
              rw [bool_set, ← HNU2.out] at hs1
              have HS1 : Hid (BoolsAt (wr.setCell ⟨ub, p, none⟩ (.bool true)) ub s7.n (usedL (ownTo os7 os7.length) (a0 + 1))) := Lib.hid hs1
              clear hs1
              have HO1 := Lib.hid (HON.out.setCell (p := ⟨ub, p, none⟩) (.inl ⟨Nat.le_refl _, Nat.lt_succ_self _⟩) (.bool true))
              clear k1 k2 x3
              go_wp2_with fail
              refine HPE.out.mono ?_
              rintro e w13 ⟨rfl, rfl⟩
              cases b with
              | true =>
                go_wp2_with fail
                exact ⟨⟨a0 + 1, by go_num, haN, HO1.out, HS1.out⟩, by simp [intOf]; omega⟩
              | false =>
                go_wp2_with fail
                exact ⟨⟨a0 + 1, by go_num, haN, HO1.out, HS1.out⟩, by simp [intOf]; omega⟩
            · have ho' : o < 0 := by omega
              rw [← k2 ho'] at x3
              rw [if_neg ho] at HNU2
              have hs1 := cells_set HUBX.out p (.bool (decide (p ∈ usedL (ownTo os7 os7.length) a0)))
              rw [bool_same, HBB.out, ← HNU2.out] at hs1
              have HS1 : Hid (BoolsAt (wr.setCell ⟨ub, p, none⟩ (.bool b)) ub s7.n (usedL (ownTo os7 os7.length) (a0 + 1))) := Lib.hid hs1
              clear hs1
              have HO1 := Lib.hid (HON.out.setCell (p := ⟨ub, p, none⟩) (.inl ⟨Nat.le_refl _, Nat.lt_succ_self _⟩) (.bool b))
              clear k1 k2 x1 ho
              go_wp2_with fail
              refine HPE.out.mono ?_
              rintro e w13 ⟨rfl, rfl⟩
              cases b with
              | true =>
                go_wp2_with fail
                exact ⟨⟨a0 + 1, by go_num, haN, HO1.out, HS1.out⟩, by simp [intOf]; omega⟩
              | false =>
                go_wp2_with fail
                exact ⟨⟨a0 + 1, by go_num, haN, HO1.out, HS1.out⟩, by simp [intOf]; omega⟩
          · obtain rfl : a0 = N := by omega
            have HWr := Lib.hid hWr
            clear hon hub hwas how hlk hWr
            go_wp2_with fail
            refine dump_any wr L s7 HWr.out.sp _ (fun v1 v2 v3 w13 hls hs13 => ?_)
            obtain ⟨gp, cp, hv2, hg1, hg2, hgc⟩ := pgs_at hls.r2 (by omega)
            subst hv2
            obtain ⟨a1, n1, p1, rfl⟩ := own_slice hls.r1
            obtain ⟨a3, n3, p3, rfl⟩ := own_slice hls.r3
            have HGC := Lib.hid hgc
            have HS13 := Lib.hid hs13
            clear hgc c0 c1 cl hls hs13
            go_wp2_with fail
            have hdb := heap_alloc_new w13 (.cells #[.slice a1 n1 p1, .slice (some ⟨gp, 0, none⟩) s7.n cp, .slice a3 n3 p3, .int .i64 (s7.hd0 0), .int .i64 (s7.hd0 1), .int .i64 (s7.hd0 2), .int .i64 (s7.hd0 3), .int .i64 (s7.hd0 4), .int .i64 (s7.hd0 5), .int .i64 (s7.hd0 6), .int .i64 (s7.hd0 7), .int .i64 s7.ser] 48)
            have hs14 : Still w13 (w13.alloc (.cells #[.slice a1 n1 p1, .slice (some ⟨gp, 0, none⟩) s7.n cp, .slice a3 n3 p3, .int .i64 (s7.hd0 0), .int .i64 (s7.hd0 1), .int .i64 (s7.hd0 2), .int .i64 (s7.hd0 3), .int .i64 (s7.hd0 4), .int .i64 (s7.hd0 5), .int .i64 (s7.hd0 6), .int .i64 (s7.hd0 7), .int .i64 s7.ser] 48)) := (Only.refl _ _ w13).alloc _
            generalize w13.alloc (.cells #[.slice a1 n1 p1, .slice (some ⟨gp, 0, none⟩) s7.n cp, .slice a3 n3 p3, .int .i64 (s7.hd0 0), .int .i64 (s7.hd0 1), .int .i64 (s7.hd0 2), .int .i64 (s7.hd0 3), .int .i64 (s7.hd0 4), .int .i64 (s7.hd0 5), .int .i64 (s7.hd0 6), .int .i64 (s7.hd0 7), .int .i64 s7.ser] 48) = w14 at *
            obtain ⟨db, hdbe⟩ : ∃ db, w13.heap.size = db := ⟨_, rfl⟩
            rw [hdbe] at hdb ⊢
            have hs1 := Still.trans HS13.out hs14
            have HW14 := Lib.hid (HWr.out.still hs1)
            have HBE14 : Hid (Below w.heap.size w w14) := Lib.hid ((HBE12.out.trans (below_le (HON.out.below (Nat.le_of_lt (Array.getElem?_eq_some_iff.1 HB12.out).1)) HUB.out.1)).trans (below_le hs1.below (by have := HBE12.out.size; have := HON.out.size; omega)))
            have HUB14 := Lib.hid (at_only hs1 HUBX.out (.inl (Array.getElem?_eq_some_iff.1 HUBX.out).1))
            have HDB := Lib.hid hdb
            have HGP : Hid (gp < w14.heap.size ∧ ∀ p, p < s7.n → w14.cell? ⟨gp, p * 3, none⟩ = some (.int .i64 (s7.P p).k)) := Lib.hid ⟨Nat.lt_of_lt_of_le hg2 hs14.size, fun p hp => (hs14.cell (p := ⟨gp, p * 3, none⟩) hg2 (.inl hg2)).trans (HGC.out p hp).1⟩
            clear hdb hs14 hs1 hdbe hg1 hg2 HGC HS13 HWr HUBX HON HBE12
            go_loopw [19] (fun y W => ∃ p : Nat, y = .int .i64 (p : Int) ∧ p ≤ s7.n ∧ Still w14 W) (fun y _ => s7.n + 1 - (intOf y).toNat)
            case atStart => exact ⟨0, rfl, Nat.zero_le _, Only.refl _ _ _⟩
            case round =>
              obtain ⟨p, rfl, hp, hst⟩ := hrel
              have HST3 := Lib.hid hst
              have hp0 : (0 : Int) ≤ (p : Int) := by omega
              have hW15 := HW14.out.still hst
              have c0 := hW15.c0
              have c1 := hW15.c1
              have cl := hW15.lt
              by_cases hpn : p < s7.n
              · have hpI : (p : Int) < (s7.n : Int) := by omega
                have d1 := cell_of (v := .slice (some ⟨gp, 0, none⟩) s7.n cp) (at_only hst HDB.out (.inl (Array.getElem?_eq_some_iff.1 HDB.out).1)) 1 rfl
                have dl : db < wr.heap.size := Nat.lt_of_lt_of_le (Array.getElem?_eq_some_iff.1 HDB.out).1 hst.size
                have g1 : wr.cell? ⟨gp, p * 3, none⟩ = some (.int .i64 (s7.P p).k) := (hst.cell (p := ⟨gp, p * 3, none⟩) HGP.out.1 (.inl HGP.out.1)).trans (HGP.out.2 p hpn)
                have gl : gp < wr.heap.size := Nat.lt_of_lt_of_le HGP.out.1 hst.size
                have u1 := bool_cell (at_only hst HUB14.out (.inl (Array.getElem?_eq_some_iff.1 HUB14.out).1)) hpn
                have ul : ub < wr.heap.size := Nat.lt_of_lt_of_le (Array.getElem?_eq_some_iff.1 HUB14.out).1 hst.size
                have hpg := HK.out.pages HW14.out.agree hpn
                rw [HN7.out] at hpg
                rw [hpg] at u1
                have hku : ((s7.P p).k != 0) = decide ((s7.P p).k ≠ 0) := by
                  by_cases e : (s7.P p).k = 0
                  · simp [e]
                  · simp [e]
                generalize decide ((s7.P p).k ≠ 0) = u at *
                generalize (s7.P p).k = kk at *
                clear hst hW15 hpg
                go_wp2_with fail
                go_quiet (fail)
                go_wp2_with fail
                exact ⟨⟨p + 1, by go_num, hpn, HST3.out.drewN _⟩, by simp [intOf]; omega⟩
              · obtain rfl : p = s7.n := by omega
                have HWG := Lib.hid (wrong_any wr L s7 hW15.sp HW14.out.inv.fine)
                clear hst hW15
                go_wp2_with fail
                refine HWG.out.mono ?_
                rintro e w16 ⟨⟨m', hm', rfl⟩, hs16⟩
                rw [if_pos (HW14.out.inv.least hm')]
                have hfin : Below w.heap.size w w16 := HBE14.out.trans (below_le (Still.trans HST3.out hs16).below (by have := HBE14.out.size; omega))
                go_wp2_with fail
                go_ret
                exact ⟨rfl, hfin⟩
end Go.Proofs.YtiniadochjeieaaDoor
