/-
  The walk of SpaceWide.
-/
import Derived.Test.YtiniadochjeieaaDoorQN35
import Derived.Deep.Cut
import Derived.Deep.CutRange
import Derived.Deep.CutBlock
namespace Go.Proofs.YtiniadochjeieaaDoor
open Go Go.RowKit

/-- Where a list of objects lies. -/
theorem own_obs {w : World} {base : Nat} {v : Value} {os : List Ob} (h : w.ownsRow base 34 5 v os.length (obCells os)) (h0 : 0 < os.length) :
    ∃ g cp, v = .slice (some ⟨g, 0, none⟩) os.length cp ∧ base ≤ g ∧ g < w.heap.size ∧ ∀ i c, i < os.length → c < 5 → w.cell? ⟨g, i * 5 + c, none⟩ = (os.getD i ob0).cells[c]? := by
  rcases h.2 with ⟨_, h1⟩ | ⟨g, cap', cur, hv, hb, hg, hnc, hcm, hs, ht⟩
  · omega
  · refine ⟨g, cap', hv, hb, (Array.getElem?_eq_some_iff.1 hg).1, fun i c hi hc => ?_⟩
    have hob := obCells_at os i c hi hc
    have h5 : c < (os.getD i ob0).cells.length := hc
    rw [List.getElem?_eq_getElem h5] at hob ⊢
    have := h.cells (g := g) (by rw [hv]; rfl) (i * 5 + c) _ hob
    rwa [add_at] at this
theorem hold_le (s : St) {z : Int} (hz : 1 ≤ z ∧ z ≤ 1024) : s.hold z ≤ 128 * s.n := by
  unfold St.hold
  by_cases h8 : Sp.cls z = 8
  · rw [if_pos h8]
    have := scan_le s.P (Sp.pgs z).toNat s.n
    omega
  · rw [if_neg h8]
    rcases Sp.wide_of hz.1 hz.2 with ⟨_, h, _⟩ | ⟨c, hc, _, hcz, _⟩
    · exact absurd h h8
    · have hb := bk_le c hc
      have h1 : Sp.bk c * fpg s.P s.n ≤ 64 * s.n := Nat.mul_le_mul (by omega) (fpg_le _ _)
      rw [hcz, Int.toNat_natCast]
      have := cnt_le (s.B (c + 1)) (64 * s.n)
      omega
set_option maxRecDepth 100000 in
set_option maxHeartbeats 12800000 in
theorem swide_any (n : Int) (la : Option Addr) (ll lc : Nat) (zs : Nat → Int) (ev pt : Int) (w : World) (hn : (Lit.int .i64 n).wf = true) (hz : IsRowI w la ll lc zs ∧ ∀ x, la = some x → 0 < ll → x.block < w.heap.size) (he : (Lit.int .i64 ev).wf = true) (hp : (Lit.int .i64 pt).wf = true) (hT : Tab w) (h0 : 0 < w.heap.size) :
    Calls Tryd.prog 10 #[.int .i64 n, .slice la ll lc, .int .i64 ev, .int .i64 pt] w fun e w' => e = .returned (.bool true) ∧ Below w.heap.size w w' := by
  obtain ⟨hn1, hn2⟩ := wf_i64 hn
  obtain ⟨he1, he2⟩ := wf_i64 he
  obtain ⟨hp1, hp2⟩ := wf_i64 hp
  have HT := Lib.hid hT
  have H0 := Lib.hid h0
  have HZ := Lib.hid hz
  have hll := hz.1.1
  have HBG := Lib.hid (opened_any n w hn1 hn2 hT h0)
  clear hT hn h0 hz he hp
  have hllI : (ll : Int) ≤ 9223372036854775807 := by omega
  have hll0 : (0 : Int) ≤ (ll : Int) := by omega
  go_enter Tryd.func10, Tryd.ntmps10
  go_wp2_with fail
  refine HBG.out _ (fun w1 L wb m hm1 hm2 hwb hW hst => ?_)
  have HST := Lib.hid hst
  have HW := Lib.hid hW
  have HWB := Lib.hid hwb
  clear hst hW HBG hwb
  go_wp2_with fail
  refine (alive_any w1 (HT.out.only HST.out H0.out) (by have := HW.out.lt; omega)).mono ?_
  rintro e w2 ⟨rfl, hs2⟩
  have HST2 := Lib.hid (Still.trans HST.out hs2)
  have HW2 := Lib.hid (HW.out.still hs2)
  clear HST HW hs2
  by_cases hbad : ll = 0 ∨ 30 < ll
  · rcases hbad with rfl | hbad
    · go_wp2_with fail
      refine (alive_any w2 (HT.out.only HST2.out H0.out) (by have := HW2.out.lt; omega)).mono ?_
      rintro e w3 ⟨rfl, hs3⟩
      have HFI := Lib.hid (HST2.out.below.trans (below_le hs3.below HST2.out.size))
      clear hs3
      go_wp2_with fail
      go_ret
      exact ⟨rfl, HFI.out⟩
    · have hl1 : (30 : Int) < (ll : Int) := by omega
      have hl2 : ((ll : Int) == 0) = false := by simp; omega
      go_wp2_with fail
      refine (alive_any w2 (HT.out.only HST2.out H0.out) (by have := HW2.out.lt; omega)).mono ?_
      rintro e w3 ⟨rfl, hs3⟩
      have HFI := Lib.hid (HST2.out.below.trans (below_le hs3.below HST2.out.size))
      clear hs3
      go_wp2_with fail
      go_ret
      exact ⟨rfl, HFI.out⟩
  · have hl1 : (ll : Int) ≤ 30 := by omega
    have hl3 : (1 : Int) ≤ (ll : Int) := by omega
    have hl2 : ((ll : Int) == 0) = false := by simp; omega
    have hmI1 : (1 : Int) ≤ (m : Int) := by omega
    have hmI2 : (m : Int) ≤ 4096 := by omega
    have HWD : Hid (Wdw w w2 L (St.new m) wb [] (.slice none 0 0)) := Lib.hid ⟨HW2.out.pos, HW2.out.lo, HWB.out, HW2.out.head, HW2.out.row, HW2.out.sp, HW2.out.inv, HW2.out.agree, rfl, fun o ho => (by cases ho), Nat.zero_le _, HST2.out.below⟩
    clear hbad HW2
    go_upto_block 0 with fail
    go_cut [10, 11, 12, 13] from 55 to 121 (fun s10 s11 s12 s13 wx => ∃ (s : St) (os : List Ob) (v : Value), Wdw w wx L s wb os v ∧ s.n = m ∧ os.length ≤ 163840)
    case first =>
      go_wp2_with fail
      go_loopw [10] (fun y W => ∃ (i : Nat) (s : St) (os : List Ob) (v : Value), y = .int .i64 (i : Int) ∧ i ≤ 40 * m ∧ os.length ≤ i ∧ s.n = m ∧ Wdw w W L s wb os v) (fun y _ => 40 * m + 1 - (intOf y).toNat)
      case atStart => exact ⟨0, _, _, _, rfl, Nat.zero_le _, Nat.le_refl _, rfl, HWD.out⟩
      case round =>
        obtain ⟨i, s, os, v, rfl, hi, hol, hsn, hw⟩ := hrel
        have hi0 : (0 : Int) ≤ (i : Int) := by omega
        have HW := Lib.hid hw
        have HSN := Lib.hid hsn
        obtain ⟨ao, cp, hv⟩ : ∃ ao cp, v = .slice ao os.length cp := by
          rcases hw.row.2 with ⟨h1, h2⟩ | ⟨g, cap, cur, h1, _⟩
          · rw [h2]; exact ⟨_, _, h1⟩
          · exact ⟨_, _, h1⟩
        subst hv
        have c0 := hw.c0
        have c1 := hw.c1
        have cl := hw.lt
        rw [hsn] at c0
        have hmul : IntKind.i64.wrap (40 * (m : Int)) = 40 * (m : Int) := by rw [IntKind.wrap_i64]; omega
        have hiB : (i : Int) ≤ 163840 := by omega
        clear hw hsn
        by_cases him : i < 40 * m
        · have himI : (i : Int) < 40 * (m : Int) := by omega
          have hmd : i % ll < ll := Nat.mod_lt _ (by omega)
          obtain ⟨ad, rfl, had, hzw⟩ := HZ.out.1.2 (i % ll) hmd
          have hbk := HZ.out.2 ad rfl (by omega)
          have had2 : wr.cell? (ad.add (i % ll)) = some (.int .i64 (zs (i % ll))) := by
            rw [← had]
            exact World.cell?_of_block (w := w) (by rw [add_block]; exact HW.out.below.block _ hbk)
          obtain ⟨hx1, hx2⟩ := wf_i64 hzw
          have hwi := wi_range (zs (i % ll)) 1024 (by omega)
          have HWN := Lib.hid (fun w' => within_any (zs (i % ll)) 1024 w' hx1 hx2 (by omega) (by omega))
          obtain ⟨y, hy⟩ : ∃ y, wi (zs (i % ll)) 1024 = y := ⟨_, rfl⟩
          rw [hy] at HWN hwi
          generalize zs (i % ll) = x at *
          have htm : (i : Int).tmod (ll : Int) = ((i % ll : Nat) : Int) := by rw [Int.tmod_eq_emod_of_nonneg (by omega)]; rfl
          obtain ⟨md, hmde⟩ : ∃ md, i % ll = md := ⟨_, rfl⟩
          rw [hmde] at htm hmd had2
          have hmdI : (md : Int) < (ll : Int) := by omega
          have hmd0 : (0 : Int) ≤ (md : Int) := by omega
          have hy1 := hwi.1
          have hy2 := hwi.2
          clear had hbk hzw hwi hy hx1 hx2 hmde
          go_wp2_with fail
          refine (HWN.out _).mono ?_
          rintro e w3 ⟨rfl, rfl⟩
          clear HWN had2
          have HAL := Lib.hid (alloc_inv wr L s HW.out.sp HW.out.inv 3 (1 + y) (i : Int) (wf_of (by omega)) (by have := HW.out.acts; omega))
          go_wp2_with fail
          obtain ⟨z, hz⟩ : ∃ z, 1 + y = z := ⟨_, rfl⟩
          have hz1 : 1 ≤ z := by omega
          have hz2 : z ≤ 1024 := by omega
          rw [hz] at HAL ⊢
          clear hy1 hy2 hz
          refine HAL.out _ (fun hf w4 h1 ho => ?_) (fun l w4 hf e h1 hil ho => ?_) (fun s1 a w4 hf e htk h1 hinv ho => ?_)
          · rw [fits3 ⟨hz1, hz2⟩] at hf; cases hf
          · have hw4 := HW.out.turned ho h1 rfl rfl (Nat.le_refl _) hil ⟨HW.out.agree.here, HW.out.agree.all, HW.out.agree.once⟩
            have hh0 := (HW.out.inv.holdTake HW.out.sp.lowle ⟨hz1, hz2⟩).1 _ e
            have hfo := hil.fitsOne h1.lowle ⟨hz1, hz2⟩ (by exact hh0)
            have hsa : Still w4 (w4.alloc (.cells #[.int .i64 20, .int .i64 0] 56)) := (Only.refl _ _ w4).alloc _
            have HW5 := Lib.hid (hw4.still hsa)
            have HN5 : Hid (({ s with low := l } : St).n = m) := Lib.hid HSN.out
            have HFT : Hid (∀ (W : World) (b : Nat), SpaceAt W L { s with low := l } → IsRowI W (some ⟨b, 0, none⟩) 1 1 (fun _ => z) → Calls Tryd.prog 27 #[.pointer (some ⟨L.sb, 0, none⟩), .slice (some ⟨b, 0, none⟩) 1 1] W fun e w' => e = .returned (.bool false) ∧ Still W w') := Lib.hid fun W b h1 h2 => by
              refine (sfits_any W L _ h1 _ 1 1 _ h2 (by omega)).mono ?_
              rintro e w' ⟨rfl, hs⟩
              exact ⟨by rw [hfo], hs⟩
            have d1 := HW5.out.c1
            have dl := HW5.out.lt
            have fb := cell_of (v := .int .i64 20) (heap_alloc_new w4 (.cells #[.int .i64 20, .int .i64 0] 56)) 0 rfl
            have fbl : w4.heap.size < (w4.alloc (.cells #[.int .i64 20, .int .i64 0] 56)).heap.size := by simp
            clear hw4 hh0 hfo h1 hil ho e c0 c1 cl hsa
            have hsl : ((w4.alloc (.cells #[.int .i64 20, .int .i64 0] 56)).alloc (.cells #[.int .i64 z] 3)).heap[w4.heap.size + 1]? = some (.cells #[.int .i64 z] 3 (0, 0)) := by
              have := heap_alloc_new (w4.alloc (.cells #[.int .i64 20, .int .i64 0] 56)) (.cells #[.int .i64 z] 3)
              rwa [World.size_alloc] at this
            have HSL := Lib.hid hsl
            clear hsl
            go_wp2_with fail
            refine (HFT.out _ _ (HW5.out.sp.still ((Only.refl _ _ _).alloc _)) (row_one2 HSL.out (wf_of (by omega)))).mono ?_
            rintro e w6 ⟨rfl, hs6⟩
            have HW6 := Lib.hid ((HW5.out.still ((Only.refl _ _ _).alloc (.cells #[.int .i64 z] 3))).still hs6)
            clear hs6 HW5 HSL HFT HAL fb fbl d1 dl
            by_cases hmd0' : md = 0
            · subst hmd0'
              go_wp2_with fail
              go_meet
              exact ⟨_, os, _, HW6.out, HN5.out, by omega⟩
            · have hme : ((md : Int) == 0) = false := by simp; omega
              clear hmd0'
              go_wp2_with fail
              exact ⟨⟨i + 1, ({ s with low := l } : St), os, _, by go_num, him, by omega, HN5.out, HW6.out⟩, by simp [intOf]; omega⟩
          · have hsa : Still w4 (w4.alloc (.cells #[.int .i64 0, .int .i64 0] 56)) := (Only.refl _ _ w4).alloc _
            have hh := HW.out.put htk ho h1 hinv
            have HH5 := Lib.hid (hh.still (Still.trans hsa ((Only.refl _ _ _).drew : Still (w4.alloc (.cells #[.int .i64 0, .int .i64 0] 56)) (w4.alloc (.cells #[.int .i64 0, .int .i64 0] 56)).drew)))
            have HH4 := Lib.hid (hh.still hsa)
            have HN5 : Hid ((s1.put a 3 z (i : Int)).n = m) := Lib.hid (htk.n.trans HSN.out)
            have fb := cell_of (v := .int .i64 0) (heap_alloc_new w4 (.cells #[.int .i64 0, .int .i64 0] 56)) 0 rfl
            have fbl : w4.heap.size < (w4.alloc (.cells #[.int .i64 0, .int .i64 0] 56)).heap.size := by simp
            have ha0 : (0 : Int) ≤ (a : Int) := by omega
            obtain ⟨nl, hnl⟩ : ∃ nl, os.length = nl := ⟨_, rfl⟩
            have hnlI : (nl : Int) ≤ 163840 := by omega
            have hnl0 : (0 : Int) ≤ (nl : Int) := by omega
            have HNL := Lib.hid hnl
            clear hh hsa h1 hinv ho e htk c0 c1 cl
            go_upto_region 10 with fail
            generalize w4.alloc (.cells #[.int .i64 0, .int .i64 0] 56) = w5 at *
            obtain ⟨v', w6, happ, hown, ho6, hs6, hk6, hkv⟩ := ob_append w5.drew L.hi os (.slice ao os.length cp) HH5.out.row HH5.out.sp.top (by omega) ⟨a, ⟨3, z, (os.length : Int) + 1, (i : Int)⟩⟩
            have x2 : w5.cell? ⟨wb, 2, none⟩ = some (.slice ao os.length cp) := cell_of HH4.out.head 2 rfl
            have xl := HH4.out.lt
            have hlo := HH5.out.lo
            have hlh : L.lo ≤ L.hi := by have := HH5.out.sp.ok.inn 0 (by omega); omega
            have hb6 : w6.heap[wb]? = w5.heap[wb]? := ho6.block wb HH5.out.lt (.inl (by omega))
            have z2 : w6.cell? ⟨wb, 2, none⟩ = some (.slice ao os.length cp) := cell_of (hb6.trans HH4.out.head) 2 rfl
            have zf : w6.frozen? ⟨wb, 2, none⟩ = false := frozen_of (hb6.trans HH4.out.head) 2
            have zl : wb < w6.heap.size := Nat.lt_trans HH5.out.lt hs6
            obtain ⟨a6, l6, c6, rfl⟩ := own_slice hown
            rw [hnl] at happ x2 z2
            have HAPP := Lib.hid happ
            have HFW := Lib.hid (HH5.out.up ho6 hown)
            clear happ hown ho6 hs6 hk6 hkv hb6 hnl hlo hlh
            have hwr : IntKind.i64.wrap ((nl : Int) + 1) = (nl : Int) + 1 := by rw [IntKind.wrap_i64]; omega
            go_region_law (first | (refine step_append_eq rfl (.tmp 90) (.tmp 101) 28 rfl (.slice ao nl cp) (.slice (some ⟨w5.heap.size, 0, none⟩) 1 1) (.slice a6 l6 c6) w6 rfl rfl (by (try rw [hwr]); exact HAPP.out) ?_))
            all_goals
              go_wp2_with fail
              exact ⟨⟨i + 1, _, os ++ [⟨a, ⟨3, z, (os.length : Int) + 1, (i : Int)⟩⟩], _, by go_num, him, by rw [List.length_append]; show os.length + 1 ≤ i + 1; omega, HN5.out, HFW.out⟩, by simp [intOf]; omega⟩
        · obtain rfl : i = 40 * m := by omega
          have himI : (((40 * m : Nat)) : Int) = 40 * (m : Int) := by omega
          go_wp2_with fail
          go_meet
          exact ⟨_, os, _, HW.out, HSN.out, by omega⟩
    case rest =>
      obtain ⟨s, os, v, hw, hsn, hol⟩ := hcut
      obtain ⟨w9, hw9⟩ : ∃ w9, w9 = wc := ⟨_, rfl⟩
      subst hw9
      have HW := Lib.hid hw
      have HSN := Lib.hid hsn
      obtain ⟨ao, cp, hv⟩ : ∃ ao cp, v = .slice ao os.length cp := by
        rcases hw.row.2 with ⟨h1, h2⟩ | ⟨g, cap, cur, h1, _⟩
        · rw [h2]; exact ⟨_, _, h1⟩
        · exact ⟨_, _, h1⟩
      subst hv
      obtain ⟨nn, hnn⟩ : ∃ nn, os.length = nn := ⟨_, rfl⟩
      have HNN := Lib.hid hnn
      have hnI : (nn : Int) ≤ 163840 := by omega
      have hn0 : (0 : Int) ≤ (nn : Int) := by omega
      have hwi := wi_range ev 9 (by omega)
      have HWN := Lib.hid (fun w' => within_any ev 9 w' he1 he2 (by omega) (by omega))
      obtain ⟨k0, hk0⟩ : ∃ k0 : Nat, wi ev 9 = (k0 : Int) := ⟨(wi ev 9).toNat, by omega⟩
      rw [hk0] at HWN hwi
      have hk9 : (k0 : Int) < 9 := hwi.2
      have hk00 : (0 : Int) ≤ (k0 : Int) := hwi.1
      obtain ⟨k, hk⟩ : ∃ k, k0 + 1 = k := ⟨_, rfl⟩
      have hkI : 1 + (k0 : Int) = (k : Int) := by omega
      have hk1 : (1 : Int) ≤ (k : Int) := by omega
      have hk2 : (k : Int) ≤ 9 := by omega
      have HK1 : Hid (1 ≤ k) := Lib.hid (by omega)
      clear hw hsn hwi hk0 hk hnn HWD
      go_wp2_with fail
      refine (HWN.out _).mono ?_
      rintro e w10 ⟨rfl, rfl⟩
      clear HWN
      go_wp2_with fail
      go_loopw [15, 16, 17] (fun x y z W => ∃ i : Nat, z = .int .i64 (i : Int) ∧ i % k = 0 ∧ i ≤ nn + k ∧ Still w9 W ∧ W.ownsRow w9.heap.size 34 5 x (leftTo os (ksTo k nn) (min i nn)).length (obCells (leftTo os (ksTo k nn) (min i nn))) ∧ W.ownsRow w9.heap.size 3 1 y (placesOf os (ksTo k (min i nn))).length ((placesOf os (ksTo k (min i nn))).map (Value.int .i64))) (fun _ _ z _ => nn + k + 1 - (intOf z).toNat)
      case atStart =>
        refine ⟨0, rfl, Nat.zero_mod _, by omega, Only.refl _ _ _, ?_, ?_⟩
        · rw [Nat.min_eq_left (Nat.zero_le _)]; exact World.ownsRow_nil _ _ _ _
        · rw [Nat.min_eq_left (Nat.zero_le _)]; exact World.ownsRow_nil _ _ _ _
      case round =>
        obtain ⟨i, rfl, hik, hi, hst, hr1, hr2⟩ := hrel
        have hi0 : (0 : Int) ≤ (i : Int) := by omega
        have hi1 : (i : Int) ≤ 200000 := by omega
        have HST := Lib.hid hst
        have hW2 := HW.out.still hst
        have c1 := hW2.c1
        have c2 := hW2.c2
        have cl := hW2.lt
        rw [HNN.out] at c2
        by_cases hin : i < nn
        · have hiI : (i : Int) < (nn : Int) := by omega
          rw [Nat.min_eq_left (by omega)] at hr1 hr2
          obtain ⟨g, cp2, hve, hgb, hgl, hgc⟩ := own_obs HW.out.row (by rw [HNN.out]; omega)
          injection hve with hve _ hcp
          subst hve
          subst hcp
          have hob : ∀ W, Still w9 W → g < W.heap.size ∧ ∀ c, c < 5 → W.cell? ⟨g, i * 5 + c, none⟩ = (os.getD i ob0).cells[c]? := fun W h => ⟨Nat.lt_of_lt_of_le hgl h.size, fun c hc => by
            rw [h.cell (p := ⟨g, i * 5 + c, none⟩) hgl (.inl hgl)]
            exact hgc i c (by rw [HNN.out]; exact hin) hc⟩
          have hle1 : (leftTo os (ksTo k nn) i).length ≤ 163840 := by have := leftTo_le os (ksTo k nn) i; omega
          have hle2 : (placesOf os (ksTo k i)).length ≤ 163840 := by
            unfold placesOf ksTo
            rw [List.length_map]
            have := List.length_filter_le (fun x => x % k == 0) (List.range i)
            rw [List.length_range] at this
            omega
          obtain ⟨o, ho⟩ : ∃ o, os.getD i ob0 = o := ⟨_, rfl⟩
          have hls := leftTo_step os (n := nn) HK1.out hik hin
          have hps : placesOf os (ksTo k (min (i + k) nn)) = placesOf os (ksTo k i) ++ [(o.at' : Int)] := by
            rw [ksTo_step HK1.out hik hin]
            unfold placesOf
            rw [List.map_append]
            show _ ++ [((os.getD i ob0).at' : Int)] = _
            rw [ho]
          rw [ho] at hob hls
          obtain ⟨x', w5, happ1, hown1, ho5, hs5, hk5, _⟩ := ob_append wr w9.heap.size (leftTo os (ksTo k nn) i) u15 hr1 hst.size (by omega) o
          have hr25 : w5.ownsRow w9.heap.size 3 1 u16 (placesOf os (ksTo k i)).length ((placesOf os (ksTo k i)).map (Value.int .i64)) := ownsRow_of_block hr2 fun g' hg' => hk5 g' (hr2.lt g' hg').2 (own_apart hr2 hr1 (by decide) g' hg')
          have hst5 : Still w9 w5 := hst.trans' ho5 (.inr (Nat.le_refl _)) (.inr (Nat.le_refl _))
          obtain ⟨y', w6, happ2, hown2, ho6, hs6, hk6, _⟩ := int_append2 w5 w9.heap.size (placesOf os (ksTo k i)) u16 hr25 hst5.size (by omega) (o.at' : Int) w5.heap.size rfl
          have hr16 : w6.ownsRow w9.heap.size 34 5 x' (leftTo os (ksTo k nn) i ++ [o]).length (obCells (leftTo os (ksTo k nn) i ++ [o])) := ownsRow_of_block hown1 fun g' hg' => hk6 g' (hown1.lt g' hg').2 (own_apart hown1 hr25 (by decide) g' hg')
          have HST6 : Hid (Still w9 w6) := Lib.hid (hst5.trans' ho6 (.inr (Nat.le_refl _)) (.inr (Nat.le_refl _)))
          rw [← hls] at hr16
          rw [← hps] at hown2
          have HR1 := Lib.hid hr16
          have HR2 := Lib.hid hown2
          have HAPP1 := Lib.hid happ1
          have HAPP2 := Lib.hid happ2
          obtain ⟨gl, hcells⟩ := hob wr hst
          have a0 : wr.cell? ⟨g, i * 5, none⟩ = some (.int .i64 (o.at' : Int)) := hcells 0 (by omega)
          have a1 : wr.cell? ⟨g, i * 5 + 1, none⟩ = some (.int .i64 o.sh.k) := hcells 1 (by omega)
          have a2 : wr.cell? ⟨g, i * 5 + 2, none⟩ = some (.int .i64 o.sh.z) := hcells 2 (by omega)
          have a3 : wr.cell? ⟨g, i * 5 + 3, none⟩ = some (.int .i64 o.sh.s) := hcells 3 (by omega)
          have a4 : wr.cell? ⟨g, i * 5 + 4, none⟩ = some (.int .i64 o.sh.t) := hcells 4 (by omega)
          obtain ⟨gl5, hcells5⟩ := hob w5 hst5
          have b0 : w5.cell? ⟨g, i * 5, none⟩ = some (.int .i64 (o.at' : Int)) := hcells5 0 (by omega)
          have hW5 := HW.out.still hst5
          have d2 := hW5.c2
          have dl := hW5.lt
          rw [HNN.out] at d2
          have HIK : Hid ((i + k) % k = 0) := Lib.hid (by rw [Nat.add_mod_right]; exact hik)
          clear hcells hcells5 hW5 hob happ1 happ2 hown1 hown2 hr16 hr25 hst5 hls hps ho hk5 hk6 ho5 ho6 hs5 hs6 hr1 hr2 hst hgc hgb hW2 hik
          go_wp2_with (first | (at_builtin; refine wpList_append_eq rfl _ _ 28 rfl _ _ _ _ rfl rfl HAPP1.out ?_) | (at_builtin; refine wpList_append_eq rfl _ _ 41 rfl _ _ _ _ rfl rfl HAPP2.out ?_))
          refine ⟨⟨i + k, by go_num, HIK.out, by omega, HST6.out, HR1.out, HR2.out⟩, by simp [intOf]; omega⟩
        · have hniI : (nn : Int) ≤ (i : Int) := by omega
          rw [Nat.min_eq_right (by omega)] at hr1 hr2
          obtain ⟨ks, hks⟩ : ∃ ks, ksTo k nn = ks := ⟨_, rfl⟩
          rw [hks] at hr1 hr2
          have hkl : ∀ x ∈ ks, x < os.length := fun x hx => by rw [HNN.out]; rw [← hks] at hx; exact ((mem_ksTo k nn x).1 hx).1
          obtain ⟨st, hste⟩ : ∃ st, leftTo os ks nn = st := ⟨_, rfl⟩
          rw [hste] at hr1
          have hsl : st.length ≤ nn := by rw [← hste]; exact leftTo_le os ks nn
          obtain ⟨ax, px, hxe⟩ : ∃ ax px, u15 = .slice ax st.length px := by
            rcases hr1.2 with ⟨h1, h2⟩ | ⟨g, cap, cur, h1, _⟩
            · rw [h2]; exact ⟨_, _, h1⟩
            · exact ⟨_, _, h1⟩
          subst hxe
          have hpl : (placesOf os ks).length ≤ 163840 := by
            rw [← hks]
            unfold placesOf ksTo
            rw [List.length_map]
            have := List.length_filter_le (fun x => x % k == 0) (List.range nn)
            rw [List.length_range] at this
            omega
          have hints : IntsAt wr u16 (placesOf os ks) := ints_of_row (ownsRow_le hr2 (Nat.zero_le _)) (by omega)
          have hhas : ∀ q, q < (placesOf os ks).length → s.has ((placesOf os ks).getD q 0) = true := fun q hq => by
            have hq2 : q < ks.length := by unfold placesOf at hq; rwa [List.length_map] at hq
            have he : (placesOf os ks).getD q 0 = ((os.getD ks[q] ob0).at' : Int) := by
              unfold placesOf
              rw [List.getD_eq_getElem?_getD, List.getElem?_map, List.getElem?_eq_getElem hq2]; rfl
            rw [he]
            unfold St.has
            rw [decide_eq_true (by omega), Int.toNat_natCast]
            exact (HW.out.agree.here _ (getD_mem os _ (hkl _ (List.getElem_mem hq2)))).1
          have HKP := Lib.hid (keep_inv wr L s hW2.sp HW.out.inv u16 (placesOf os ks) hints hhas)
          obtain ⟨sl, hsle⟩ : ∃ sl, st.length = sl := ⟨_, rfl⟩
          have HSL := Lib.hid hsle
          have HR1 := Lib.hid hr1
          have HKL := Lib.hid hkl
          have HSTE := Lib.hid hste
          have hslI : (sl : Int) ≤ (nn : Int) := by omega
          have hsl0 : (0 : Int) ≤ (sl : Int) := by omega
          have HWR := Lib.hid hW2
          rw [hsle]
          clear hks hkl hste hr1 hr2 hsl hpl hints hhas hsle hst hW2 hik
          go_wp2_with fail
          refine HKP.out _ (fun w11 t hkp hsp ho => ?_)
          have hag := HW.out.agree.keep HW.out.inv HKL.out hkp
          rw [HNN.out, HSTE.out, HSL.out] at hag
          obtain ⟨cN, hcN⟩ : ∃ cN, Bm.cnt (fun x => s.B 0 x && !stayTo (placesOf os ks) (placesOf os ks).length x) 0 (64 * s.n) = cN := ⟨_, rfl⟩
          rw [hcN] at hag ⊢
          have hsum := hag.2
          have hsub : IntKind.i64.wrap ((nn : Int) - (sl : Int)) = (cN : Int) := by rw [IntKind.wrap_i64]; omega
          have hsubz : (nn : Int) - (sl : Int) = (cN : Int) := by omega
          have HAG := Lib.hid hag.1
          have hb11 : w11.heap[wb]? = _ := (ho.block wb HWR.out.lt (.inl HWR.out.lo)).trans HWR.out.head
          have d1 := cell_of (v := .pointer (some ⟨L.sb, 0, none⟩)) hb11 1 rfl
          have d2 := cell_of (v := .slice ao os.length cp) hb11 2 rfl
          rw [HNN.out] at d2
          have dl := (Array.getElem?_eq_some_iff.1 hb11).1
          have HB11 := Lib.hid hb11
          have hrow : w11.ownsRow w9.heap.size 34 5 (.slice ax sl px) st.length (obCells st) := by
            have h0 := HR1.out
            rw [HSL.out] at h0 ⊢
            exact ownsRow_of_block h0 fun g hg => ho.block g (h0.lt g hg).2 (.inr (by have := (h0.lt g hg).1; have := HW.out.sp.top; omega))
          have HROW := Lib.hid hrow
          have HT11 := Lib.hid hsp
          have HKK := Lib.hid hkp
          have HWG := Lib.hid (wrong_any w11 L t hsp hkp.inv.fine)
          have HBE : Hid (Below w.heap.size w w11) := Lib.hid (HWR.out.below.trans (below_le (ho.below HWR.out.loLe) (by have := HWR.out.lo; have := HWR.out.wlo; omega)))
          clear hkp hsp ho hag hcN hsum hb11 hrow HR1 HKP
          go_wp2_with fail
          refine HWG.out.mono ?_
          rintro e w12 ⟨⟨m', hm', rfl⟩, hs12⟩
          rw [if_pos (HKK.out.inv.least hm')]
          have HS12 := Lib.hid hs12
          clear hs12 hm' d1 d2 dl HWG
          go_wp2_with fail
          have HC : Hid (∀ W, Still w12 W → W.cell? ⟨wb, 1, none⟩ = some (.pointer (some ⟨L.sb, 0, none⟩)) ∧ wb < W.heap.size ∧ SpaceAt W L t ∧ (∀ i, i < sl → ∃ g, ax = some ⟨g, 0, none⟩ ∧ g < W.heap.size ∧ ∀ c, c < 5 → W.cell? ⟨g, i * 5 + c, none⟩ = (st.getD i ob0).cells[c]?)) := Lib.hid fun W h => by
            have h1 := Still.trans HS12.out h
            have hb := at_only h1 HB11.out (.inl (Array.getElem?_eq_some_iff.1 HB11.out).1)
            refine ⟨cell_of (v := .pointer (some ⟨L.sb, 0, none⟩)) hb 1 rfl, (Array.getElem?_eq_some_iff.1 hb).1, HT11.out.still h1, fun i hi => ?_⟩
            have hro := ownsRow_still HROW.out h1
            have hsl := HSL.out
            obtain ⟨g, cp3, hve, _, hgl, hgc⟩ := own_obs hro (by omega)
            injection hve with hve _ _
            exact ⟨g, hve, hgl, fun c hc => hgc i c (by omega) hc⟩
          have HOBS : Hid (∀ i, i < sl → t.B 0 (st.getD i ob0).at' = true ∧ t.sh (st.getD i ob0).at' = (st.getD i ob0).sh ∧ t.Q (st.getD i ob0).sh.s = some ((st.getD i ob0).at' : Int)) := Lib.hid fun i hi => by
            have hi2 : i < st.length := by rw [HSL.out]; exact hi
            have h1 := HAG.out.ob hi2
            refine ⟨h1.1, h1.2, find_at HKK.out.inv HAG.out hi2 ?_⟩
            have hm : st.getD i ob0 ∈ st := getD_mem st i hi2
            rw [← HSTE.out] at hm
            obtain ⟨j, hj, _, e⟩ := (leftTo_mem os ks _ nn).1 hm
            rw [HSTE.out] at e
            rw [e]
            exact HW.out.sers _ (getD_mem os j (by rw [HNN.out]; exact hj))
          have HLOOP := Lib.hid (Only.refl w12.heap.size w12.heap.size w12 : Still w12 w12)
          go_loopw [20] (fun y W => ∃ i : Nat, y = .int .i64 (i : Int) ∧ i ≤ sl ∧ Still w12 W) (fun y _ => sl + 1 - (intOf y).toNat)
          case atStart => exact ⟨0, rfl, Nat.zero_le _, HLOOP.out⟩
          case round =>
            obtain ⟨i, rfl, hi, hst⟩ := hrel
            have hi0 : (0 : Int) ≤ (i : Int) := by omega
            have HST := Lib.hid hst
            obtain ⟨c1, cl, hsp, hrow⟩ := HC.out _ hst
            by_cases hin : i < sl
            · have hiI : (i : Int) < (sl : Int) := by omega
              obtain ⟨g, rfl, gl, hgc⟩ := hrow i hin
              obtain ⟨q1, q2, q3⟩ := HOBS.out i hin
              obtain ⟨o, ho⟩ : ∃ o, st.getD i ob0 = o := ⟨_, rfl⟩
              rw [ho] at hgc q1 q2 q3
              have HGC : Hid (∀ W, Still w12 W → g < W.heap.size ∧ ∀ c, c < 5 → W.cell? ⟨g, i * 5 + c, none⟩ = o.cells[c]?) := Lib.hid fun W h => by
                obtain ⟨_, _, _, hr⟩ := HC.out W h
                obtain ⟨g', e1, e2, e3⟩ := hr i hin
                injection e1 with e1
                injection e1 with e1 _
                subst e1
                exact ⟨e2, fun c hc => by rw [e3 c hc, ho]⟩
              obtain ⟨at0, kd, z, sr, tg⟩ := o
              dsimp only at q1 q2 q3
              have hlt := (HKK.out.inv.obj _ q1).2.lt.2
              have htn2 := HKK.out.inv.n2
              have hat1 : (at0 : Int) ≤ 300000 := by omega
              have hat0 : (0 : Int) ≤ (at0 : Int) := by omega
              have HBLK : Hid (∀ W, SpaceAt W L t → Calls Tryd.prog 25 #[.pointer (some ⟨L.sb, 0, none⟩), .int .i64 (at0 : Int)] W fun e w' => e = .returned (.tuple #[blockV (at0 : Int) ⟨kd, z, sr, tg⟩, .bool true]) ∧ Still W w') := Lib.hid fun W h => by
                have := block_yes W L t h (at0 : Int) (wf_of (by omega)) (by unfold St.has; rw [decide_eq_true (by omega), Int.toNat_natCast, q1]; rfl)
                rw [q2] at this
                exact this
              have hserb : -9223372036854775808 ≤ sr ∧ sr ≤ 9223372036854775807 := by
                have h1 := HKK.out.inv.sers _ q1
                rw [q2] at h1
                have h2 := HKK.out.inv.ser1
                have h3 := HT11.out.actsle
                dsimp only at h1
                omega
              have HFD : Hid (∀ W, SpaceAt W L t → Calls Tryd.prog 34 #[.pointer (some ⟨L.sb, 0, none⟩), .int .i64 sr] W fun e w' => e = .returned (.tuple #[.int .i64 (at0 : Int), .bool true]) ∧ W = w') := Lib.hid fun W h => by
                have := find_any W L t h sr (wf_of (by omega))
                rw [q3] at this
                exact this
              have a0 : wr.cell? ⟨g, i * 5, none⟩ = some (.int .i64 (at0 : Int)) := hgc 0 (by omega)
              have HS1 : Hid (∀ w', Still wr w' → w'.cell? ⟨wb, 1, none⟩ = some (.pointer (some ⟨L.sb, 0, none⟩)) ∧ w'.cell? ⟨g, i * 5, none⟩ = some (.int .i64 (at0 : Int))) := Lib.hid fun w' h =>
                ⟨(HC.out w' (Still.trans HST.out h)).1, ((HGC.out w' (Still.trans HST.out h)).2 0 (by omega))⟩
              have HSP := Lib.hid hsp
              clear hgc q1 q2 q3 ho hst hrow hsp hlt htn2
              go_wp2_with fail
              have hcut0 := cl
              go_cut [21, 22] from 187 to 241 (fun s21 s22 wx => ∃ pb, s21 = .pointer (some ⟨pb, 0, none⟩) ∧ s22 = .bool true ∧ Still wr wx ∧ wx.heap[pb]? = some (.cells #[.int .i64 (at0 : Int), .int .i64 kd, .int .i64 z, .int .i64 sr, .int .i64 tg] 34 (0, 0)))
              case first =>
                have hsW : Still wr wr := Only.refl _ _ _
                go_region_held3 (fun w' => w'.cell? ⟨wb, 1, none⟩ = some (.pointer (some ⟨L.sb, 0, none⟩)) ∧ w'.cell? ⟨g, i * 5, none⟩ = some (.int .i64 (at0 : Int)))
                  ((refine HS1.out _ ?_; repeat first | with_reducible exact hsW | with_reducible exact Only.refl _ _ _ | with_reducible apply Only.drew | with_reducible apply Only.drewN | with_reducible apply Only.alloc | (with_reducible refine Only.setCell ?_ (.inr ?_) _; rotate_left; (dsimp only; omega))))
                  (first | (go_at_call 25; refine (HBLK.out _ (HSP.out.still (by (repeat first | exact hsW | exact Only.refl _ _ _ | apply Only.drew | apply Only.drewN | apply Only.alloc)))).mono ?_; rintro e wp ⟨rfl, hcall⟩; (try (have hzb : wp.heap[_]? = some ob0.obj := fresh_still hcall rfl; have hlz := (Array.getElem?_eq_some_iff.1 hzb).1; have hz0 := cell_of (v := .int .i64 0) hzb 0 rfl; have hf0 := frozen_of hzb 0; have hz1 := cell_of (v := .int .i64 0) hzb 1 rfl; have hf1 := frozen_of hzb 1; have hz2 := cell_of (v := .int .i64 0) hzb 2 rfl; have hf2 := frozen_of hzb 2; have hz3 := cell_of (v := .int .i64 0) hzb 3 rfl; have hf3 := frozen_of hzb 3; have hz4 := cell_of (v := .int .i64 0) hzb 4 rfl; have hf4 := frozen_of hzb 4)); have hszC := Only.size (lo := wr.heap.size) (hi := wr.heap.size) (w := wr) (w' := wp) (Still.trans (by (repeat first | exact hsW | exact Only.refl _ _ _ | apply Only.drew | apply Only.drewN | apply Only.alloc)) hcall); have hsW : Still wr wp := Still.trans (by (repeat first | exact hsW | exact Only.refl _ _ _ | apply Only.drew | apply Only.drewN | apply Only.alloc)) hcall))
                all_goals
                  rename_i hHeld
                  clear hHeld
                  first
                  | (go_wp2_with fail; go_meet; exact ⟨_, rfl, rfl, hsW.alloc _, heap_alloc_new wp _⟩)
                  | (go_wp2_with fail; go_meet; exact ⟨_, rfl, rfl, only_box hsW (.inr (Nat.le_refl _)) _ _ _ _ _, ob_box hzb _ _ _ _ _⟩)
              case rest =>
                obtain ⟨pb, rfl, rfl, hsP, hbP⟩ := hcut
                have hst2 := Still.trans HST.out hsP
                obtain ⟨e1, el, esp, _⟩ := HC.out _ hst2
                obtain ⟨gl2, hgc2⟩ := HGC.out _ hst2
                have b0 : wc.cell? ⟨g, i * 5, none⟩ = some (.int .i64 (at0 : Int)) := hgc2 0 (by omega)
                have b1 : wc.cell? ⟨g, i * 5 + 1, none⟩ = some (.int .i64 kd) := hgc2 1 (by omega)
                have b2 : wc.cell? ⟨g, i * 5 + 2, none⟩ = some (.int .i64 z) := hgc2 2 (by omega)
                have b3 : wc.cell? ⟨g, i * 5 + 3, none⟩ = some (.int .i64 sr) := hgc2 3 (by omega)
                have b4 : wc.cell? ⟨g, i * 5 + 4, none⟩ = some (.int .i64 tg) := hgc2 4 (by omega)
                have p0 := cell_of (v := .int .i64 (at0 : Int)) hbP 0 rfl
                have p1 := cell_of (v := .int .i64 kd) hbP 1 rfl
                have p2 := cell_of (v := .int .i64 z) hbP 2 rfl
                have p3 := cell_of (v := .int .i64 sr) hbP 3 rfl
                have p4 := cell_of (v := .int .i64 tg) hbP 4 rfl
                have lp := (Array.getElem?_eq_some_iff.1 hbP).1
                have HST2 := Lib.hid hst2
                have HFN := Lib.hid (fun nq => HFD.out (wc.drewN nq) (esp.drewN nq))
                clear hsP hbP hgc2 esp hst2 c1 cl a0 gl
                go_wp2_with fail
                go_quiet (((go_at_call 34; exact quiet_eq (HFN.out _))))
                go_wp2_with fail
                go_quiet (fail)
                go_wp2_with fail
                refine ⟨⟨i + 1, by go_num, hin, ?_⟩, by simp [intOf]; omega⟩
                repeat first | exact HST2.out | apply Only.drewN
            · obtain rfl : i = sl := by omega
              have hct := HAG.out.count HKK.out.inv
              rw [HSL.out] at hct
              have hwip := wi_range pt 1024 (by omega)
              have HWN := Lib.hid (fun w' => within_any pt 1024 w' hp1 hp2 (by omega) (by omega))
              obtain ⟨y, hy⟩ : ∃ y, wi pt 1024 = y := ⟨_, rfl⟩
              rw [hy] at HWN hwip
              have hy1 := hwip.1
              have hy2 := hwip.2
              have HZ2 : Hid (1 ≤ 1 + y ∧ 1 + y ≤ 1024) := Lib.hid (by omega)
              have htn1 := HKK.out.inv.n1
              have htn2 := HKK.out.inv.n2
              have hac : t.acts ≤ 327680 := by rw [HKK.out.acts]; have := HW.out.acts; omega
              have HCT := Lib.hid (And.intro hct (And.intro htn1 (And.intro htn2 hac)))
              have HSP := Lib.hid hsp
              clear hwip hy hct htn1 htn2 hac hrow hsp hst hin hi
              go_wp2_with fail
              refine (HWN.out _).mono ?_
              rintro e w13 ⟨rfl, rfl⟩
              clear HWN
              go_wp2_with fail
              refine dump_any wr L t HSP.out _ (fun u1 u2 u3 w14 hls hs14 => ?_)
              have HRO := Lib.hid hls.rowsG
              obtain ⟨a1, q1, rfl⟩ := hls.rowsG.1.sliceG
              obtain ⟨a2, q2, rfl⟩ := hls.rowsG.2.1.sliceG
              obtain ⟨a3, q3, rfl⟩ := hls.rowsG.2.2.sliceG
              have HS14 := Lib.hid hs14
              clear hls hs14 c1 cl
              go_wp2_with fail
              refine (holds_any w14 t HKK.out.inv a1 a2 a3 q1 q2 q3 _ _ _ _ _ _ _ _ _ (1 + y) HRO.out.2.1 HRO.out.2.2 HZ2.out).mono ?_
              rintro e w15 ⟨rfl, hs15⟩
              have HS15 : Hid (Still w11 w15) := Lib.hid (Still.trans HS12.out (Still.trans HST.out (Still.trans HS14.out hs15)))
              have HM4 := Lib.hid (hold_le t HZ2.out)
              obtain ⟨M, hM⟩ : ∃ M, t.hold (1 + y) = M := ⟨_, rfl⟩
              rw [hM] at HM4 ⊢
              obtain ⟨A, hA⟩ : ∃ A, t.acts = A := ⟨_, rfl⟩
              have HF : Hid (Fl2 w15 L t.n (1 + y) M A i 0 t w15) := Lib.hid ⟨HT11.out.still HS15.out, HKK.out.inv, rfl, by omega, HCT.out.1, by omega, Only.refl _ _ _⟩
              have HA : Hid (A ≤ 327680) := Lib.hid (by rw [← hA]; exact HCT.out.2.2.2)
              have hM2 : M ≤ 524288 := by have := HM4.out; have := HCT.out.2.2.1; omega
              have hMI : (M : Int) ≤ 524288 := by omega
              have hM0 : (0 : Int) ≤ (M : Int) := by omega
              have hMIi : IntKind.i64.wrap ((i : Int) + (M : Int)) = (i : Int) + (M : Int) := by rw [IntKind.wrap_i64]; omega
              have HL : Hid (L.lo ≤ w15.heap.size) := Lib.hid (by have := HT11.out.top; have := HT11.out.ok.inn 0 (by omega); have := HS15.out.size; omega)
              have HFP : Hid (∀ W, Only L.lo L.hi w15 W → W.cell? ⟨wb, 1, none⟩ = some (.pointer (some ⟨L.sb, 0, none⟩)) ∧ wb < W.heap.size) := Lib.hid fun W h => by
                have hb := at_only HS15.out HB11.out (.inl (Array.getElem?_eq_some_iff.1 HB11.out).1)
                have hl := (Array.getElem?_eq_some_iff.1 hb).1
                exact ⟨(h.cell (p := ⟨wb, 1, none⟩) hl (.inl HWR.out.lo)).trans (cell_of (v := .pointer (some ⟨L.sb, 0, none⟩)) hb 1 rfl), Nat.lt_of_lt_of_le hl h.size⟩
              have HWZ : Hid ((Lit.int .i64 (1 + y)).wf = true) := Lib.hid (wf_of (by have := HZ2.out; omega))
              have HAL : Hid (∀ (j : Nat) (s : St) (W : World), j ≤ M → Fl2 w15 L t.n (1 + y) M A i j s W → ∀ Q : Ending → World → Prop,
                  (j < M → ∀ s' a W', Fl2 w15 L t.n (1 + y) M A i (j + 1) s' W' → Q (.returned (.tuple #[.int .i64 ((a : Nat) : Int), faultV 0 0])) W') →
                  (j = M → ∀ l W', s.take (1 + y) = ({ s with low := l }, 0, 20, 0) → Fl2 w15 L t.n (1 + y) M A i j { s with low := l } W' → Q (.returned (.tuple #[.int .i64 0, faultV 20 0])) W') →
                  Calls Tryd.prog 24 #[.pointer (some ⟨L.sb, 0, none⟩), .int .i64 3, .int .i64 (1 + y), .int .i64 (-1)] W Q) := Lib.hid fun j s W hjM h Q h1 h2 => by
                have hac : s.acts + 2 ≤ 1000000000000 := by
                  have := h.acts
                  have := HA.out
                  omega
                refine alloc_inv W L s h.sp h.inv 3 (1 + y) (-1) HWZ.out hac Q (fun hf => ?_) (fun l w' _ e hs hi ho => ?_) (fun s1 a w' _ e ht hs hi ho => ?_)
                · rw [fits3 HZ2.out] at hf; cases hf
                · obtain ⟨h3, h4⟩ := h.full HZ2.out e hs hi ho
                  exact h2 h3 _ _ e h4
                · obtain ⟨h3, h4⟩ := h.put HZ2.out e ht hs hi ho
                  exact h1 h3 _ _ _ h4
              clear hA hM hs15 HM4
              go_wp2_with fail
              go_loopw [27] (fun x W => ∃ j : Nat, x = .int .i64 (j : Int) ∧ j ≤ M ∧ ∃ s, Fl2 w15 L t.n (1 + y) M A i j s W) (fun x _ => M + 1 - (intOf x).toNat)
              case atStart => exact ⟨0, rfl, Nat.zero_le _, _, HF.out⟩
              case round =>
                obtain ⟨j, rfl, hj, s2, hfl⟩ := hrel
                have hj0 : (0 : Int) ≤ (j : Int) := by omega
                have HF2 := Lib.hid hfl
                obtain ⟨c1, cl⟩ := HFP.out _ hfl.on
                clear hfl
                by_cases hjM : j < M
                · have hjI : (j : Int) < (M : Int) := by omega
                  go_wp2_with fail
                  refine HAL.out j s2 _ hj HF2.out _ (fun _ s3 a3 w16 hf3 => ?_) (fun e => by omega)
                  have ha0 : (0 : Int) ≤ (a3 : Int) := by omega
                  have hsa : Still w16 (w16.alloc (.cells #[.int .i64 0, .int .i64 0] 56)) := (Only.refl _ _ w16).alloc _
                  have HF4 := Lib.hid (hf3.still hsa)
                  clear hf3 hsa
                  go_wp2_with fail
                  exact ⟨⟨j + 1, by go_num, hjM, _, HF4.out⟩, by simp [intOf]; omega⟩
                · obtain rfl : j = M := by omega
                  go_wp2_with fail
                  refine HAL.out j s2 _ hj HF2.out _ (fun e => by omega) (fun _ l w16 e hf3 => ?_)
                  have hh0 : s2.hold (1 + y) = 0 := by have := HF2.out.hold; omega
                  have hfb := heap_alloc_new w16 (.cells #[.int .i64 20, .int .i64 0] 56)
                  have hsa : Still w16 (w16.alloc (.cells #[.int .i64 20, .int .i64 0] 56)) := (Only.refl _ _ w16).alloc _
                  have hfo := hf3.inv.fitsOne hf3.sp.lowle HZ2.out (by exact hh0)
                  go_upto_region 41 with fail
                  generalize w16.alloc (.cells #[.int .i64 20, .int .i64 0] 56) = w5 at *
                  obtain ⟨fb, hfbe⟩ : ∃ fb, w16.heap.size = fb := ⟨_, rfl⟩
                  rw [hfbe] at hfb ⊢
                  obtain ⟨s3, hs3⟩ : ∃ s3, ({ s2 with low := l } : St) = s3 := ⟨_, rfl⟩
                  rw [hs3] at hf3 hfo
                  have HF5 := Lib.hid (hf3.still hsa)
                  have HFB := Lib.hid hfb
                  have HFT : Hid (∀ (W : World) (b : Nat), SpaceAt W L s3 → IsRowI W (some ⟨b, 0, none⟩) 1 1 (fun _ => 1 + y) → Calls Tryd.prog 27 #[.pointer (some ⟨L.sb, 0, none⟩), .slice (some ⟨b, 0, none⟩) 1 1] W fun e w' => e = .returned (.bool false) ∧ Still W w') := Lib.hid fun W b h1 h2 => by
                    refine (sfits_any W L s3 h1 _ 1 1 _ h2 (by omega)).mono ?_
                    rintro e w' ⟨rfl, hs⟩
                    exact ⟨by rw [hfo], hs⟩
                  have hbl : s3.blks.length = i + j := by
                    have h1 : (s3.blk (64 * s3.n)).length = _ := blk_cnt s3 (64 * s3.n)
                    rw [HF5.out.nn, HF5.out.cnt] at h1
                    rw [← h1, ← HF5.out.nn]
                    rfl
                  have HBL := Lib.hid hbl
                  have HS5 : Hid (∀ W, Still w5 W → W.cell? ⟨wb, 1, none⟩ = some (.pointer (some ⟨L.sb, 0, none⟩)) ∧ wb < W.heap.size ∧ W.cell? ⟨fb, 0, none⟩ = some (.int .i64 20)) := Lib.hid fun W h => by
                    obtain ⟨g1, g2⟩ := HFP.out W (HF5.out.on.andStill h)
                    exact ⟨g1, g2, cell_of (v := .int .i64 20) (at_only h HFB.out (.inl (Array.getElem?_eq_some_iff.1 HFB.out).1)) 0 rfl⟩
                  have hij : ((i + j : Nat) : Int) = (i : Int) + (j : Int) := by omega
                  clear e hf3 hh0 hfo hfbe hs3 hsa hfb c1 cl HF2 HAL
                  obtain ⟨c1, cl, f0⟩ := HS5.out _ (Only.refl _ _ w5)
                  go_wp2_with fail
                  refine (HFT.out _ _ (HF5.out.sp.still ((Only.refl _ _ _).alloc _)) (row_one2 (heap_alloc_new _ _) HWZ.out)).mono ?_
                  rintro e w6 ⟨rfl, hs6⟩
                  have HS6 : Hid (Still w5 w6) := Lib.hid (Still.trans ((Only.refl _ _ _).alloc _) hs6)
                  clear hs6 c1 cl f0
                  obtain ⟨c1, cl, f0⟩ := HS5.out _ HS6.out
                  go_wp2_with fail
                  refine (wrong_any w6 L s3 (HF5.out.sp.still HS6.out) HF5.out.inv.fine).mono ?_
                  rintro e w7 ⟨⟨m', hm', rfl⟩, hs7⟩
                  rw [if_pos (HF5.out.inv.least hm')]
                  have HS7 : Hid (Still w5 w7) := Lib.hid (Still.trans HS6.out hs7)
                  clear hs7 hm' c1 cl f0
                  obtain ⟨c1, cl, f0⟩ := HS5.out _ HS7.out
                  go_wp2_with fail
                  refine (sblocks_any w7 L s3 (HF5.out.sp.still HS7.out)).mono ?_
                  rintro e w8 ⟨⟨vb, rfl, hrb⟩, hs8⟩
                  obtain ⟨ab, pb, hvb⟩ : ∃ ab pb, vb = .slice ab s3.blks.length pb := by
                    rcases hrb.2 with ⟨h1, h2⟩ | ⟨g, cap, cur, h1, _⟩
                    · rw [h2]; exact ⟨_, _, h1⟩
                    · exact ⟨_, _, h1⟩
                  subst hvb
                  rw [HBL.out] at *
                  have HS8 : Hid (Still w5 w8) := Lib.hid (Still.trans HS7.out hs8)
                  have HFIN : Hid (Below w.heap.size w w8) := Lib.hid (by
                    have h1 := HBE.out.size
                    have h2 := HS15.out.size
                    have h3 := HF5.out.on.size
                    have h4 := HWR.out.lo
                    have h5 := HWR.out.wlo
                    exact ((HBE.out.trans (below_le HS15.out.below h1)).trans (below_le (HF5.out.on.below HL.out) (by omega))).trans (below_le HS8.out.below (by omega)))
                  clear hs8 hrb c1 cl f0
                  go_wp2_with fail
                  go_ret
                  exact ⟨rfl, HFIN.out⟩
end Go.Proofs.YtiniadochjeieaaDoor
