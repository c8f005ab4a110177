/-
  The walk of SpaceTrue.
-/
import Derived.Test.YtiniadochjeieaaDoorQX
import Derived.Deep.Cut
import Derived.Deep.CutRange
namespace Go.Proofs.YtiniadochjeieaaDoor
open Go Go.RowKit

/-- What a dump's lists hold. -/
def wdF (s : St) : Nat → Nat → Int := fun i _ => s.W i
def pgF (s : St) : Nat → Nat → Int := fun i d => if d = 0 then (s.P i).k else if d = 1 then (s.P i).c else (s.P i).r
def blF (s : St) : Nat → Nat → Int := fun i d => if d = 0 then ((s.blks.getD i ob0).at' : Int) else if d = 1 then (s.blks.getD i ob0).sh.k else if d = 2 then (s.blks.getD i ob0).sh.z else if d = 3 then (s.blks.getD i ob0).sh.s else (s.blks.getD i ob0).sh.t
theorem Lists.rows {w : World} {B : Nat} {s : St} {v1 v2 v3 : Value} (h : Lists w B s v1 v2 v3) : RowAt w v1 (64 * s.n) 1 (wdF s) ∧ RowAt w v2 s.n 3 (pgF s) ∧ RowAt w v3 s.blks.length 5 (blF s) := by
  refine ⟨row_at h.r1 fun i hi d hd => ?_, row_at h.r2 fun i hi d hd => ?_, row_at h.r3 fun i hi d hd => ?_⟩
  · obtain rfl : d = 0 := by omega
    rw [Nat.mul_one, Nat.add_zero, List.getElem?_map]
    unfold wdList
    rw [List.getElem?_map, List.getElem?_range hi]
    rfl
  · rw [Array.getElem?_toList]
    unfold pgCells
    rw [Array.getElem?_ofFn]
    have hlt : i * 3 + d < 3 * s.n := by omega
    simp only [hlt, dite_true]
    unfold pgF
    have h1 : (i * 3 + d) / 3 = i := by omega
    have h2 : (i * 3 + d) % 3 = d := by omega
    simp only [h1, h2]
  · rw [obCells_at s.blks i d hi hd]
    unfold blF Ob.cells
    have h5 : d = 0 ∨ d = 1 ∨ d = 2 ∨ d = 3 ∨ d = 4 := by omega
    rcases h5 with rfl | rfl | rfl | rfl | rfl <;> rfl
theorem RowAt.slice {w : World} {v : Value} {n W : Nat} {f : Nat → Nat → Int} (h : RowAt w v n W f) : ∃ a c, v = .slice a n c := by
  obtain ⟨a, c, e, _⟩ := h
  exact ⟨a, c, e⟩
def TruX (W0 : World) (L : Lay) (s : St) (zs : Nat → Int) (i : Nat) (x : Value) (W : World) : Prop := ∃ b, x = .bool b ∧ TruAt W0 L s zs i b W
theorem IsRowI.heap {w w' : World} {a : Option Addr} {len cap : Nat} {zs : Nat → Int} (h : IsRowI w a len cap zs) (e : w'.heap = w.heap) : IsRowI w' a len cap zs :=
  ⟨h.1, fun i hi => by
    obtain ⟨x, h1, h2, h3⟩ := h.2 i hi
    refine ⟨x, h1, ?_, h3⟩
    rw [← h2]
    exact World.cell?_of_block (w := w) (by rw [e])⟩
set_option maxRecDepth 100000 in
set_option maxHeartbeats 6400000 in
theorem true_any (n : Int) (a : Option Addr) (len cap : Nat) (ops : Nat → OpV) (la : Option Addr) (ll lc : Nat) (zs : Nat → Int) (w : World) (hn : (Lit.int .i64 n).wf = true) (ho : OpsB w w.heap.size a len ops) (hz : IsRowI w la ll lc zs ∧ ∀ x, la = some x → 0 < ll → x.block < w.heap.size) (hT : Tab w) (h0 : 0 < w.heap.size) :
    Calls Tryd.prog 9 #[.int .i64 n, .slice a len cap, .slice la ll lc] w fun e w' => e = .returned (.bool true) ∧ Below w.heap.size w w' := by
  obtain ⟨hn1, hn2⟩ := wf_i64 hn
  have HO := Lib.hid ho
  have HT := Lib.hid hT
  have H0 := Lib.hid h0
  have HZ := Lib.hid hz
  have hll := hz.1.1
  have HBG := Lib.hid (fun (w : World) (hT : Tab w) (h0 : 0 < w.heap.size) => begun_any n w hn1 hn2 hT h0)
  have HSM := Lib.hid (small_any a len cap ops w ho.is)
  obtain ⟨b, hb⟩ : ∃ b, smallB ops len = b := ⟨_, rfl⟩
  rw [hb] at HSM
  clear ho hT hn h0 hz
  have hllI : (ll : Int) ≤ 9223372036854775807 := by omega
  have hll0 : (0 : Int) ≤ (ll : Int) := by omega
  have HBB := Lib.hid hb
  clear hb
  go_enter Tryd.func9, Tryd.ntmps9
  go_wp2_with fail
  refine HSM.out.mono ?_
  rintro e w2' ⟨rfl, rfl⟩
  cases b with
  | false =>
    go_wp2_with fail
    refine (alive_any w HT.out H0.out).mono ?_
    rintro e w3 ⟨rfl, hs3⟩
    have HS3 := Lib.hid hs3
    clear hs3
    go_wp2_with fail
    go_ret
    exact ⟨rfl, HS3.out.below⟩
  | true =>
    by_cases hbl : 400 < ll
    · have hll4 : (400 : Int) < (ll : Int) := by omega
      go_wp2_with fail
      refine (alive_any w HT.out H0.out).mono ?_
      rintro e w3 ⟨rfl, hs3⟩
      have HS3 := Lib.hid hs3
      clear hs3
      go_wp2_with fail
      go_ret
      exact ⟨rfl, HS3.out.below⟩
    · have hll4 : (ll : Int) ≤ 400 := by omega
      have HLL := Lib.hid (smallB_ll HBB.out)
      clear hbl HSM
      go_wp2_with fail
      refine HBG.out w HT.out H0.out _ (fun w1 L1 wb1 hwb1 hW1 hst1 => ?_)
      have HST1 := Lib.hid hst1
      have HW1 := Lib.hid hW1
      have HWB1 := Lib.hid hwb1
      clear hst1 hW1 hwb1
      go_wp2_with fail
      refine HBG.out w1 (HT.out.only HST1.out H0.out) (by have := HW1.out.lt; omega) _ (fun w2 L2 wb2 hwb2 hW2 hst2 => ?_)
      have HST2 := Lib.hid (Still.trans HST1.out hst2)
      have HW2 := Lib.hid hW2
      have HWA2 := Lib.hid (HW1.out.still hst2)
      have HWB2 : Hid (w.heap.size ≤ wb2 ∧ L1.hi ≤ wb2 ∧ wb1 < wb2 ∧ wb1 < L1.hi) := Lib.hid ⟨Nat.le_trans HST1.out.size hwb2, Nat.le_trans HW1.out.sp.top hwb2, Nat.lt_of_lt_of_le HW1.out.lt hwb2, by have := HW1.out.lo; have := HW1.out.sp.ok.inn 0 (by omega); omega⟩
      clear hst2 hW2 hwb2 HBG HST1 HW1
      go_wp2_with fail
      refine (alive_any w2 (HT.out.only HST2.out H0.out) (by have := HW2.out.lt; omega)).mono ?_
      rintro e w3 ⟨rfl, hs3⟩
      have HST3 := Lib.hid (Still.trans HST2.out hs3)
      have HA3 := Lib.hid (HWA2.out.still hs3)
      have HB3 := Lib.hid (HW2.out.still hs3)
      have HO3 := Lib.hid ((HO.out.below HST3.out.below).mono HWB1.out)
      clear hs3 HST2 HWA2 HW2
      go_wp2_with fail
      refine played_f w3 L1 _ wb1 [] (.slice none 0 0) HA3.out a len cap ops HO3.out HLL.out (by show 0 ≤ 1000000; omega) (by simp) _ (fun w4 s4 os4 v4 h4 hn4 ha4 hl4 hf4 hq4 => ?_)
      have hlo1 := HA3.out.lo
      have hlh1 : L1.lo ≤ L1.hi := by have := HA3.out.sp.ok.inn 0 (by omega); omega
      have hon4 := hf4.only hlo1 hlh1
      have HB4 := Lib.hid (HB3.out.aside hon4 HA3.out.pos (.inr HWB2.out.2.1) (.inr (by have := HB3.out.lo; have := HWB2.out; omega)) (fun g hg => by cases hg))
      have HA4 := Lib.hid h4
      have HBE4 : Hid (Below w.heap.size w w4) := Lib.hid (HST3.out.below.trans (below_le hf4.b HWB1.out))
      have HO4 := Lib.hid ((HO.out.below HBE4.out).mono HWB2.out.1)
      have HQ4 := Lib.hid hq4
      have HV4 : Hid (∀ g, v4.ownBlock = some g → L2.hi ≤ g) := Lib.hid fun g hg => by
        have h1 := h4.row.lt g hg
        rcases Nat.lt_or_ge g w3.heap.size with h2 | h2
        · exact absurd hg (hf4.fresh h2 (by omega) (.inr h1.1))
        · exact Nat.le_trans HB3.out.sp.top h2
      have HAC4 : Hid (s4.acts ≤ 240 ∧ os4.length ≤ 120) := Lib.hid ⟨ha4, by simpa using hl4⟩
      have HN4 : Hid (s4.n ≤ 12) := Lib.hid (by have h := wi_range n 12 (by omega); have e : s4.n = 1 + (wi n 12).toNat := hn4; omega)
      clear h4 hn4 ha4 hl4 hf4 hq4 hon4 hlo1 hlh1 HA3 HB3 HO3 HST3
      go_wp2_with fail
      refine played_f w4 L2 _ wb2 [] (.slice none 0 0) HB4.out a len cap ops HO4.out HLL.out (by show 0 ≤ 1000000; omega) (by simp) _ (fun w5 s5 os5 v5 h5 hn5 ha5 hl5 hf5 hq5 => ?_)
      obtain ⟨rfl, rfl⟩ : s5 = s4 ∧ os5 = os4 := by
        have := hq5.trans HQ4.out.symm
        injection this with e1 e2
        exact ⟨e1, e2⟩
      have hlh2 : L2.lo ≤ L2.hi := by have := HB4.out.sp.ok.inn 0 (by omega); omega
      have hon5 := hf5.only HB4.out.lo hlh2
      have HA5 := Lib.hid (HA4.out.aside hon5 HB4.out.pos (.inl HWB2.out.2.2.1) (.inl HWB2.out.2.1) (fun g hg => .inr (HV4.out g hg)))
      have HB5 := Lib.hid h5
      have HBE5 : Hid (Below w.heap.size w w5) := Lib.hid (HBE4.out.trans (below_le hf5.b HWB2.out.1))
      have c1 := HA5.out.c1
      have cl := HA5.out.lt
      clear h5 hn5 ha5 hl5 hf5 hq5 hlh2 hon5 HA4 HB4 HO4 HBE4 HQ4 HV4 HLL
      go_wp2_with fail
      refine dump_any w5 L1 s5 HA5.out.sp _ (fun u1 u2 u3 w6 hls hs6 => ?_)
      obtain ⟨hr1, hr2, hr3⟩ := hls.rows
      obtain ⟨a1, p1, rfl⟩ := hr1.slice
      obtain ⟨a2, p2, rfl⟩ := hr2.slice
      obtain ⟨a3, p3, rfl⟩ := hr3.slice
      have HBL : Hid (s5.blks.length ≤ 120) := Lib.hid (by rw [blks_len HA5.out.inv HA5.out.agree]; exact HAC4.out.2)
      have hacl := HAC4.out
      have hn12 := HN4.out
      have hn1 := HA5.out.sp.n1
      clear c1 cl
      go_upto_region 8 with fail
      have hdb := heap_alloc_new w6 (.cells #[.slice a1 (64 * s5.n) p1, .slice a2 s5.n p2, .slice a3 s5.blks.length p3, .int .i64 (s5.hd0 0), .int .i64 (s5.hd0 1), .int .i64 (s5.hd0 2), .int .i64 (s5.hd0 3), .int .i64 (s5.hd0 4), .int .i64 (s5.hd0 5), .int .i64 (s5.hd0 6), .int .i64 (s5.hd0 7), .int .i64 s5.ser] 48)
      have hsd : Still w6 (w6.alloc (.cells #[.slice a1 (64 * s5.n) p1, .slice a2 s5.n p2, .slice a3 s5.blks.length p3, .int .i64 (s5.hd0 0), .int .i64 (s5.hd0 1), .int .i64 (s5.hd0 2), .int .i64 (s5.hd0 3), .int .i64 (s5.hd0 4), .int .i64 (s5.hd0 5), .int .i64 (s5.hd0 6), .int .i64 (s5.hd0 7), .int .i64 s5.ser] 48)) := (Only.refl _ _ w6).alloc _
      generalize w6.alloc (.cells #[.slice a1 (64 * s5.n) p1, .slice a2 s5.n p2, .slice a3 s5.blks.length p3, .int .i64 (s5.hd0 0), .int .i64 (s5.hd0 1), .int .i64 (s5.hd0 2), .int .i64 (s5.hd0 3), .int .i64 (s5.hd0 4), .int .i64 (s5.hd0 5), .int .i64 (s5.hd0 6), .int .i64 (s5.hd0 7), .int .i64 s5.ser] 48) = w7 at *
      obtain ⟨db1, hdbe⟩ : ∃ db1, w6.heap.size = db1 := ⟨_, rfl⟩
      rw [hdbe] at hdb ⊢
      have HD1 := Lib.hid hdb
      have HR1 := Lib.hid (And.intro (hr1.still hsd) (And.intro (hr2.still hsd) (hr3.still hsd)))
      have HA7 := Lib.hid (HA5.out.still (Still.trans hs6 hsd))
      have HB7 := Lib.hid (HB5.out.still (Still.trans hs6 hsd))
      have HBE7 : Hid (Below w.heap.size w w7) := Lib.hid (HBE5.out.trans (below_le (Still.trans hs6 hsd).below (by have := HBE5.out.size; omega)))
      obtain ⟨bb, hbb⟩ : ∃ bb, (s5.simTo zs ll).isSome = bb := ⟨_, rfl⟩
      have HBB2 := Lib.hid hbb
      have HCP : Hid (∀ W, Still w7 W → ∃ v' w', (Builtin.append_ #[41, 41] 41 #[.slice none 0 0, .slice la ll lc]).run Tryd.prog W = .ok v' w' ∧ ((∃ a c, v' = .slice a ll c ∧ IsRowI w' a ll c zs) ∧ Still W w')) := Lib.hid fun W h =>
        sizes_copy W la ll lc zs (HZ.out.1.below (HBE7.out.trans (below_le h.below (by have := HBE7.out.size; omega))) HZ.out.2) (by omega)
      have HFT : Hid (∀ (W : World) (ax : Option Addr) (cx : Nat), SpaceAt W L1 s5 → IsRowI W ax ll cx zs → Calls Tryd.prog 27 #[.pointer (some ⟨L1.sb, 0, none⟩), .slice ax ll cx] W fun e w' => e = .returned (.bool bb) ∧ Still W w') := Lib.hid fun W ax cx h1 h2 => by
        have := sfits_any W L1 s5 h1 ax ll cx zs h2 (by omega)
        rw [hbb] at this
        exact this
      have HS1 : Hid (∀ w', Still w7 w' → w'.cell? ⟨wb1, 1, none⟩ = some (.pointer (some ⟨L1.sb, 0, none⟩))) := Lib.hid fun w' h => (HA7.out.still h).c1
      have hsW : Still w7 w7 := Only.refl _ _ _
      clear hs6 hsd hdb hdbe hr1 hr2 hr3 hls hbb HA5 HB5 HBE5
      go_cut [10] from 56 to 62 (fun s10 wx => s10 = .bool bb ∧ Still w7 wx)
      case first =>
        go_region_held3 (fun w' => w'.cell? ⟨wb1, 1, none⟩ = some (.pointer (some ⟨L1.sb, 0, none⟩)))
          ((refine HS1.out _ ?_; (repeat first | with_reducible exact hsW | with_reducible exact Only.refl _ _ _ | with_reducible apply Only.drew | with_reducible apply Only.drewN | with_reducible apply Only.alloc)))
          (first
            | (refine step_append_some rfl _ _ 41 rfl _ _ rfl rfl (HCP.out _ (by (repeat first | with_reducible exact hsW | with_reducible exact Only.refl _ _ _ | with_reducible apply Only.drew | with_reducible apply Only.drewN | with_reducible apply Only.alloc))) (fun v1 wa hR => ?_); obtain ⟨⟨ax, cx, rfl, hrow⟩, hcall⟩ := hR; have hsW : Still w7 wa := Still.trans (by (repeat first | with_reducible exact hsW | with_reducible exact Only.refl _ _ _ | with_reducible apply Only.drew | with_reducible apply Only.drewN | with_reducible apply Only.alloc)) hcall)
            | (go_at_call 27; refine (HFT.out _ _ _ (HA7.out.sp.still (by (repeat first | with_reducible exact hsW | with_reducible exact Only.refl _ _ _ | with_reducible apply Only.drew | with_reducible apply Only.drewN | with_reducible apply Only.alloc))) (by exact hrow.heap rfl)).mono ?_; rintro e wp ⟨rfl, hcall⟩; have hsW : Still w7 wp := Still.trans (by (repeat first | with_reducible exact hsW | with_reducible exact Only.refl _ _ _ | with_reducible apply Only.drew | with_reducible apply Only.drewN | with_reducible apply Only.alloc)) hcall))
        all_goals
          rename_i hHeld
          clear hHeld
          go_wp2_with fail
          go_meet
          exact ⟨rfl, by (repeat first | with_reducible exact hsW | with_reducible exact Only.refl _ _ _ | with_reducible apply Only.drew | with_reducible apply Only.drewN | with_reducible apply Only.alloc)⟩
      case rest =>
        obtain ⟨rfl, hsc⟩ := hcut
        obtain ⟨w8, hw8⟩ : ∃ w8, w8 = wc := ⟨_, rfl⟩
        subst hw8
        have HA8 := Lib.hid (HA7.out.still hsc)
        have HB8 := Lib.hid (HB7.out.still hsc)
        have HBE8 : Hid (Below w.heap.size w w8) := Lib.hid (HBE7.out.trans (below_le hsc.below (by have := HBE7.out.size; omega)))
        have HD18 := Lib.hid (at_only hsc HD1.out (.inl (Array.getElem?_eq_some_iff.1 HD1.out).1))
        have HR18 := Lib.hid (And.intro (HR1.out.1.still hsc) (And.intro (HR1.out.2.1.still hsc) (HR1.out.2.2.still hsc)))
        have c1 := HA8.out.c1
        have cl := HA8.out.lt
        clear hsc HA7 HB7 HBE7 HD1 HR1 HCP HFT HS1 hsW
        go_wp2_with fail
        refine dump_any w8 L1 s5 HA8.out.sp _ (fun x1 x2 x3 w9 hls hs9 => ?_)
        obtain ⟨hr1, hr2, hr3⟩ := hls.rows
        obtain ⟨b1, bp1, rfl⟩ := hr1.slice
        obtain ⟨b2, bp2, rfl⟩ := hr2.slice
        obtain ⟨b3, bp3, rfl⟩ := hr3.slice
        clear c1 cl
        go_upto_region 10 with fail
        have hdb := heap_alloc_new w9 (.cells #[.slice b1 (64 * s5.n) bp1, .slice b2 s5.n bp2, .slice b3 s5.blks.length bp3, .int .i64 (s5.hd0 0), .int .i64 (s5.hd0 1), .int .i64 (s5.hd0 2), .int .i64 (s5.hd0 3), .int .i64 (s5.hd0 4), .int .i64 (s5.hd0 5), .int .i64 (s5.hd0 6), .int .i64 (s5.hd0 7), .int .i64 s5.ser] 48)
        have hsd : Still w9 (w9.alloc (.cells #[.slice b1 (64 * s5.n) bp1, .slice b2 s5.n bp2, .slice b3 s5.blks.length bp3, .int .i64 (s5.hd0 0), .int .i64 (s5.hd0 1), .int .i64 (s5.hd0 2), .int .i64 (s5.hd0 3), .int .i64 (s5.hd0 4), .int .i64 (s5.hd0 5), .int .i64 (s5.hd0 6), .int .i64 (s5.hd0 7), .int .i64 s5.ser] 48)) := (Only.refl _ _ w9).alloc _
        generalize w9.alloc (.cells #[.slice b1 (64 * s5.n) bp1, .slice b2 s5.n bp2, .slice b3 s5.blks.length bp3, .int .i64 (s5.hd0 0), .int .i64 (s5.hd0 1), .int .i64 (s5.hd0 2), .int .i64 (s5.hd0 3), .int .i64 (s5.hd0 4), .int .i64 (s5.hd0 5), .int .i64 (s5.hd0 6), .int .i64 (s5.hd0 7), .int .i64 s5.ser] 48) = w10 at *
        obtain ⟨db2, hdbe⟩ : ∃ db2, w9.heap.size = db2 := ⟨_, rfl⟩
        rw [hdbe] at hdb ⊢
        have HD2 := Lib.hid hdb
        have HR2 := Lib.hid (And.intro (hr1.still hsd) (And.intro (hr2.still hsd) (hr3.still hsd)))
        have hst := Still.trans hs9 hsd
        have HB10 := Lib.hid (HB8.out.still hst)
        have HBE10 : Hid (Below w.heap.size w w10) := Lib.hid (HBE8.out.trans (below_le hst.below (by have := HBE8.out.size; omega)))
        have HD1 := Lib.hid (at_only hst HD18.out (.inl (Array.getElem?_eq_some_iff.1 HD18.out).1))
        have HROW : Hid (∀ W, Still w10 W → RowAt W (.slice a1 (64 * s5.n) p1) (64 * s5.n) 1 (wdF s5) ∧ RowAt W (.slice b1 (64 * s5.n) bp1) (64 * s5.n) 1 (wdF s5) ∧ RowAt W (.slice a2 s5.n p2) s5.n 3 (pgF s5) ∧ RowAt W (.slice b2 s5.n bp2) s5.n 3 (pgF s5) ∧ RowAt W (.slice a3 s5.blks.length p3) s5.blks.length 5 (blF s5) ∧ RowAt W (.slice b3 s5.blks.length bp3) s5.blks.length 5 (blF s5)) := Lib.hid fun W h => by
          have h2 := Still.trans hst h
          exact ⟨HR18.out.1.still h2, HR2.out.1.still h, HR18.out.2.1.still h2, HR2.out.2.1.still h, HR18.out.2.2.still h2, HR2.out.2.2.still h⟩
        have HSI : Hid (∀ W v1 v2, RowAt W v1 (64 * s5.n) 1 (wdF s5) → RowAt W v2 (64 * s5.n) 1 (wdF s5) → Calls Tryd.prog 38 #[v1, v2] W fun e w' => e = .returned (.bool true) ∧ Still W w') := Lib.hid fun W v1 v2 h1 h2 => sameInts_eq W v1 v2 _ _ h1 h2 (by omega)
        have HSP : Hid (∀ W v1 v2, RowAt W v1 s5.n 3 (pgF s5) → RowAt W v2 s5.n 3 (pgF s5) → Calls Tryd.prog 39 #[v1, v2] W fun e w' => e = .returned (.bool true) ∧ Still W w') := Lib.hid fun W v1 v2 h1 h2 => samePages_eq W v1 v2 _ _ h1 h2 (by omega)
        have HSB : Hid (∀ W v1 v2, RowAt W v1 s5.blks.length 5 (blF s5) → RowAt W v2 s5.blks.length 5 (blF s5) → Calls Tryd.prog 40 #[v1, v2] W fun e w' => e = .returned (.bool true) ∧ Still W w') := Lib.hid fun W v1 v2 h1 h2 => sameBlocks_eq W v1 v2 _ _ h1 h2 (by have := HBL.out; omega)
        have HDU : Hid (∀ W, SpaceAt W L2 s5 → Calls Tryd.prog 22 #[.pointer (some ⟨L2.sb, 0, none⟩)] W fun e w' => (∃ y1 y2 y3, e = .returned (.agg #[y1, y2, y3, .int .i64 (s5.hd0 0), .int .i64 (s5.hd0 1), .int .i64 (s5.hd0 2), .int .i64 (s5.hd0 3), .int .i64 (s5.hd0 4), .int .i64 (s5.hd0 5), .int .i64 (s5.hd0 6), .int .i64 (s5.hd0 7), .int .i64 s5.ser]) ∧ RowAt w' y1 (64 * s5.n) 1 (wdF s5)) ∧ Still W w') := Lib.hid fun W h =>
          dump_any W L2 s5 h _ (fun y1 y2 y3 w' h1 h2 => ⟨⟨y1, y2, y3, rfl, h1.rows.1⟩, h2⟩)
        have hfd : ∀ (x1 x2 x3 : Value) (y0 y1 y2 y3 y4 y5 y6 y7 y8 : Int) W, (Instr.field 48 (.agg #[x1, x2, x3, .int .i64 y0, .int .i64 y1, .int .i64 y2, .int .i64 y3, .int .i64 y4, .int .i64 y5, .int .i64 y6, .int .i64 y7, .int .i64 y8]) 0).run Tryd.prog W = .ok x1 W := fun _ _ _ _ _ _ _ _ _ _ _ _ _ => by kernel_rfl
        have HS1 : Hid (∀ w', Still w10 w' → w'.cell? ⟨db1, 0, none⟩ = some (.slice a1 (64 * s5.n) p1) ∧ w'.cell? ⟨db1, 1, none⟩ = some (.slice a2 s5.n p2) ∧ w'.cell? ⟨db1, 2, none⟩ = some (.slice a3 s5.blks.length p3) ∧ w'.cell? ⟨db1, 11, none⟩ = some (.int .i64 s5.ser) ∧ w'.cell? ⟨db2, 0, none⟩ = some (.slice b1 (64 * s5.n) bp1) ∧ w'.cell? ⟨db2, 1, none⟩ = some (.slice b2 s5.n bp2) ∧ w'.cell? ⟨db2, 2, none⟩ = some (.slice b3 s5.blks.length bp3) ∧ w'.cell? ⟨db2, 11, none⟩ = some (.int .i64 s5.ser) ∧ w'.cell? ⟨wb2, 1, none⟩ = some (.pointer (some ⟨L2.sb, 0, none⟩))) := Lib.hid fun w' h => by
          have e1 := at_only h HD1.out (.inl (Array.getElem?_eq_some_iff.1 HD1.out).1)
          have e2 := at_only h HD2.out (.inl (Array.getElem?_eq_some_iff.1 HD2.out).1)
          exact ⟨cell_of (v := .slice a1 (64 * s5.n) p1) e1 0 rfl, cell_of (v := .slice a2 s5.n p2) e1 1 rfl, cell_of (v := .slice a3 s5.blks.length p3) e1 2 rfl, cell_of (v := .int .i64 s5.ser) e1 11 rfl, cell_of (v := .slice b1 (64 * s5.n) bp1) e2 0 rfl, cell_of (v := .slice b2 s5.n bp2) e2 1 rfl, cell_of (v := .slice b3 s5.blks.length bp3) e2 2 rfl, cell_of (v := .int .i64 s5.ser) e2 11 rfl, (HB10.out.still h).c1⟩
        have hsW : Still w10 w10 := Only.refl _ _ _
        clear hst hs9 hsd hdb hdbe hr1 hr2 hr3 hls HD18 HR18 HR2 HA8 HB8 HBE8
        go_cut [108] from 68 to 108 (fun s108 wx => s108 = .bool false ∧ Still w10 wx)
        case first =>
          go_region_held3 (fun w' => w'.cell? ⟨db1, 0, none⟩ = some (.slice a1 (64 * s5.n) p1) ∧ w'.cell? ⟨db1, 1, none⟩ = some (.slice a2 s5.n p2) ∧ w'.cell? ⟨db1, 2, none⟩ = some (.slice a3 s5.blks.length p3) ∧ w'.cell? ⟨db1, 11, none⟩ = some (.int .i64 s5.ser) ∧ w'.cell? ⟨db2, 0, none⟩ = some (.slice b1 (64 * s5.n) bp1) ∧ w'.cell? ⟨db2, 1, none⟩ = some (.slice b2 s5.n bp2) ∧ w'.cell? ⟨db2, 2, none⟩ = some (.slice b3 s5.blks.length bp3) ∧ w'.cell? ⟨db2, 11, none⟩ = some (.int .i64 s5.ser) ∧ w'.cell? ⟨wb2, 1, none⟩ = some (.pointer (some ⟨L2.sb, 0, none⟩)))
            ((refine HS1.out _ ?_; (repeat first | with_reducible exact hsW | with_reducible exact Only.refl _ _ _ | with_reducible apply Only.drew | with_reducible apply Only.drewN | with_reducible apply Only.alloc)))
            (first
              | (go_at_call 38; refine (HSI.out _ _ _ (by first | exact (HROW.out _ (by (repeat first | with_reducible exact hsW | with_reducible exact Only.refl _ _ _ | with_reducible apply Only.drew | with_reducible apply Only.drewN | with_reducible apply Only.alloc))).1 | exact (HROW.out _ (by (repeat first | with_reducible exact hsW | with_reducible exact Only.refl _ _ _ | with_reducible apply Only.drew | with_reducible apply Only.drewN | with_reducible apply Only.alloc))).2.1) (by first | exact (HROW.out _ (by (repeat first | with_reducible exact hsW | with_reducible exact Only.refl _ _ _ | with_reducible apply Only.drew | with_reducible apply Only.drewN | with_reducible apply Only.alloc))).2.1 | exact hry.still (by (repeat first | with_reducible exact Only.refl _ _ _ | with_reducible apply Only.drew | with_reducible apply Only.drewN | with_reducible apply Only.alloc)))).mono ?_; rintro e wp ⟨rfl, hcall⟩; have hsW : Still w10 wp := Still.trans (by (repeat first | with_reducible exact hsW | with_reducible exact Only.refl _ _ _ | with_reducible apply Only.drew | with_reducible apply Only.drewN | with_reducible apply Only.alloc)) hcall)
              | (go_at_call 39; refine (HSP.out _ _ _ (by exact (HROW.out _ (by (repeat first | with_reducible exact hsW | with_reducible exact Only.refl _ _ _ | with_reducible apply Only.drew | with_reducible apply Only.drewN | with_reducible apply Only.alloc))).2.2.1) (by exact (HROW.out _ (by (repeat first | with_reducible exact hsW | with_reducible exact Only.refl _ _ _ | with_reducible apply Only.drew | with_reducible apply Only.drewN | with_reducible apply Only.alloc))).2.2.2.1)).mono ?_; rintro e wq ⟨rfl, hcall⟩; have hsW : Still w10 wq := Still.trans (by (repeat first | with_reducible exact hsW | with_reducible exact Only.refl _ _ _ | with_reducible apply Only.drew | with_reducible apply Only.drewN | with_reducible apply Only.alloc)) hcall)
              | (go_at_call 40; refine (HSB.out _ _ _ (by exact (HROW.out _ (by (repeat first | with_reducible exact hsW | with_reducible exact Only.refl _ _ _ | with_reducible apply Only.drew | with_reducible apply Only.drewN | with_reducible apply Only.alloc))).2.2.2.2.1) (by exact (HROW.out _ (by (repeat first | with_reducible exact hsW | with_reducible exact Only.refl _ _ _ | with_reducible apply Only.drew | with_reducible apply Only.drewN | with_reducible apply Only.alloc))).2.2.2.2.2)).mono ?_; rintro e wr ⟨rfl, hcall⟩; have hsW : Still w10 wr := Still.trans (by (repeat first | with_reducible exact hsW | with_reducible exact Only.refl _ _ _ | with_reducible apply Only.drew | with_reducible apply Only.drewN | with_reducible apply Only.alloc)) hcall)
              | (go_at_call 22; refine (HDU.out _ (HB10.out.sp.still (by (repeat first | with_reducible exact hsW | with_reducible exact Only.refl _ _ _ | with_reducible apply Only.drew | with_reducible apply Only.drewN | with_reducible apply Only.alloc)))).mono ?_; rintro e wd ⟨⟨y1, y2, y3, rfl, hry⟩, hcall⟩; have hsW : Still w10 wd := Still.trans (by (repeat first | with_reducible exact hsW | with_reducible exact Only.refl _ _ _ | with_reducible apply Only.drew | with_reducible apply Only.drewN | with_reducible apply Only.alloc)) hcall))
          all_goals
            rename_i hHeld
            clear hHeld
            go_wp2_with fail
            go_meet
            exact ⟨rfl, by (repeat first | with_reducible exact hsW | with_reducible exact Only.refl _ _ _ | with_reducible apply Only.drew | with_reducible apply Only.drewN | with_reducible apply Only.alloc)⟩
        case rest =>
          obtain ⟨rfl, hsc⟩ := hcut
          obtain ⟨w11, hw11⟩ : ∃ w11, w11 = wc := ⟨_, rfl⟩
          subst hw11
          have HB11 := Lib.hid (HB10.out.still hsc)
          have HBE11 : Hid (Below w.heap.size w w11) := Lib.hid (HBE10.out.trans (below_le hsc.below (by have := HBE10.out.size; omega)))
          have HC : Hid (∀ W, Only L2.lo L2.hi w11 W → W.cell? ⟨wb2, 1, none⟩ = some (.pointer (some ⟨L2.sb, 0, none⟩)) ∧ (∀ j, j < ll → ∃ ad, la = some ad ∧ W.cell? (ad.add j) = some (.int .i64 (zs j)) ∧ (Lit.int .i64 (zs j)).wf = true)) := Lib.hid fun W h => by
            refine ⟨(h.cell (p := ⟨wb2, 1, none⟩) HB11.out.lt (.inl HB11.out.lo)).trans HB11.out.c1, fun j hj => ?_⟩
            obtain ⟨ad, e1, e2, e3⟩ := HZ.out.1.2 j hj
            have hbk := HZ.out.2 ad e1 (by omega)
            have hb2 := HWB2.out.1
            have hlo := HB11.out.lo
            refine ⟨ad, e1, ?_, e3⟩
            rw [← e2]
            exact World.cell?_of_block (w := w) (by rw [add_block]; exact (h.block _ (Nat.lt_of_lt_of_le hbk HBE11.out.size) (.inl (by omega))).trans (HBE11.out.block _ hbk))
          have HTR : Hid (TruX w11 L2 s5 zs 0 (.bool true) w11) := Lib.hid ⟨true, rfl, Only.refl _ _ _, ⟨s5, HB11.out.sp, HB11.out.inv, by omega, fun _ => ⟨_, rfl, Sim.Ok.start s5⟩⟩, fun h => by cases h⟩
          clear hsc HB10 HBE10 HROW HSI HSP HSB HDU hfd HS1 hsW HD1 HD2
          go_wp2_with fail
          go_loopw [12, 13] (fun x y W => ∃ i : Nat, y = .int .i64 (i : Int) ∧ i ≤ ll ∧ TruX w11 L2 s5 zs i x W) (fun _ y _ => ll + 1 - (intOf y).toNat)
          case atStart => exact ⟨0, rfl, Nat.zero_le _, HTR.out⟩
          case round =>
            obtain ⟨i, rfl, hi, b, rfl, htr⟩ := hrel
            have hi0 : (0 : Int) ≤ (i : Int) := by omega
            have HTT := Lib.hid htr
            clear htr HTR
            by_cases hgo : i < ll ∧ b = true
            · obtain ⟨hil, rfl⟩ := hgo
              have hiI : (i : Int) < (ll : Int) := by omega
              obtain ⟨t, hsp, hinv, hact, hyy⟩ := HTT.out.sp
              obtain ⟨y, hy1, hy2⟩ := hyy rfl
              obtain ⟨c1, hsz⟩ := HC.out _ HTT.out.on
              obtain ⟨ad, rfl, had, hzw⟩ := hsz i hil
              have HAL : Hid (∀ W, Still wr W → Calls Tryd.prog 24 #[.pointer (some ⟨L2.sb, 0, none⟩), .int .i64 3, .int .i64 (zs i), .int .i64 0] W fun e w' =>
                  ∃ (a r : Int), e = .returned (.tuple #[.int .i64 a, faultV r 0]) ∧ Only L2.lo L2.hi W w' ∧ ∃ t' : St, SpaceAt w' L2 t' ∧ t'.Inv ∧ t'.acts ≤ t.acts + 2 ∧ ((r = 0 ∧ ∃ y', y.step s5 (zs i) = some y' ∧ y'.Ok s5 t') ∨ (r ≠ 0 ∧ y.step s5 (zs i) = none))) := Lib.hid fun W h =>
                alloc_sim W L2 s5 t y hy2 (hsp.still h) hinv (zs i) hzw (by omega)
              have HNX : Hid (s5.simTo zs (i + 1) = y.step s5 (zs i)) := Lib.hid (by show (s5.simTo zs i).bind _ = _; rw [hy1]; rfl)
              have HACT := Lib.hid hact
              have HTOP := Lib.hid hsp.top
              have HS2 : Hid (∀ w', Only L2.lo L2.hi wr w' → w'.cell? ⟨wb2, 1, none⟩ = some (.pointer (some ⟨L2.sb, 0, none⟩)) ∧ w'.cell? (ad.add i) = some (.int .i64 (zs i))) := Lib.hid fun w' h => by
                obtain ⟨g1, g2⟩ := HC.out w' (HTT.out.on.trans h)
                obtain ⟨ad', e1, e2, _⟩ := g2 i hil
                injection e1 with e1
                subst e1
                exact ⟨g1, e2⟩
              have hOW : Only L2.lo L2.hi wr wr := Only.refl _ _ _
              obtain ⟨z, hze⟩ : ∃ z, zs i = z := ⟨_, rfl⟩
              rw [hze] at HAL HNX HS2 had
              clear hsp hinv hact hyy hy1 hy2 hsz hzw hze
              go_wp2_with fail
              go_cut [14, 15] from 109 to 132 (fun s14 s15 wx => ∃ (fb : Nat) (a r : Int), s14 = .int .i64 a ∧ s15 = .pointer (some ⟨fb, 0, none⟩) ∧ wx.heap[fb]? = some (.cells #[.int .i64 r, .int .i64 0] 56 (0, 0)) ∧ Only L2.lo L2.hi wr wx ∧ ∃ t' : St, SpaceAt wx L2 t' ∧ t'.Inv ∧ t'.acts ≤ t.acts + 2 ∧ ((r = 0 ∧ ∃ y', y.step s5 z = some y' ∧ y'.Ok s5 t') ∨ (r ≠ 0 ∧ y.step s5 z = none)))
              case first =>
                go_region_held3 (fun w' => w'.cell? ⟨wb2, 1, none⟩ = some (.pointer (some ⟨L2.sb, 0, none⟩)) ∧ w'.cell? (ad.add i) = some (.int .i64 z))
                  ((refine HS2.out _ ?_; (repeat first | with_reducible exact hOW | with_reducible exact Only.refl _ _ _ | with_reducible apply Only.drew | with_reducible apply Only.drewN | with_reducible apply Only.alloc | (with_reducible refine Only.setCell ?_ (.inr (Nat.le_refl _)) _))))
                  (first
                    | (go_at_call 24; refine (HAL.out _ (by (repeat first | with_reducible exact Only.refl _ _ _ | with_reducible apply Only.drew | with_reducible apply Only.drewN | with_reducible apply Only.alloc))).mono ?_; rintro e w12 ⟨a3, r, rfl, ho12, t', h1, h2, h3, h4⟩; have hOW : Only L2.lo L2.hi wr w12 := Only.trans (by (repeat first | with_reducible exact hOW | with_reducible exact Only.refl _ _ _ | with_reducible apply Only.drew | with_reducible apply Only.drewN | with_reducible apply Only.alloc | (with_reducible refine Only.setCell ?_ (.inr (Nat.le_refl _)) _))) ho12; (try (have hzb := fresh_after ho12 wr (.cells #[.int .i64 0, .int .i64 0] 56) rfl HTOP.out; have hz0 := cell_of (v := .int .i64 0) hzb 0 rfl; have hz1 := cell_of (v := .int .i64 0) hzb 1 rfl; have hf0 := frozen_of hzb 0; have hf1 := frozen_of hzb 1; have hlz := (Array.getElem?_eq_some_iff.1 hzb).1))))
                all_goals
                  rename_i hHeld
                  clear hHeld
                  first
                  | (have hres : ∃ (fb : Nat) (a' r' : Int), (.int .i64 a3 : Value) = .int .i64 a' ∧ (.pointer (some ⟨w12.heap.size, 0, none⟩) : Value) = .pointer (some ⟨fb, 0, none⟩) ∧ (w12.alloc (.cells #[.int .i64 r, .int .i64 0] 56)).heap[fb]? = some (.cells #[.int .i64 r', .int .i64 0] 56 (0, 0)) ∧ Only L2.lo L2.hi wr (w12.alloc (.cells #[.int .i64 r, .int .i64 0] 56)) ∧ ∃ t' : St, SpaceAt (w12.alloc (.cells #[.int .i64 r, .int .i64 0] 56)) L2 t' ∧ t'.Inv ∧ t'.acts ≤ t.acts + 2 ∧ ((r' = 0 ∧ ∃ y', y.step s5 z = some y' ∧ y'.Ok s5 t') ∨ (r' ≠ 0 ∧ y.step s5 z = none)) :=
                      ⟨w12.heap.size, a3, r, rfl, rfl, heap_alloc_new w12 _, hOW.alloc _, t', h1.alloc _, h2, h3, h4⟩
                     have HRES := Lib.hid hres
                     clear hres h1 h2 h3 h4 ho12
                     go_wp2_with fail
                     go_meet
                     exact HRES.out)
                  | (have hres : ∃ (fb : Nat) (a' r' : Int), (.int .i64 a3 : Value) = .int .i64 a' ∧ (.pointer (some ⟨wr.heap.size, 0, none⟩) : Value) = .pointer (some ⟨fb, 0, none⟩) ∧ ((w12.setCell ⟨wr.heap.size, 0, none⟩ (.int .i64 r)).setCell ⟨wr.heap.size, 1, none⟩ (.int .i64 0)).heap[fb]? = some (.cells #[.int .i64 r', .int .i64 0] 56 (0, 0)) ∧ Only L2.lo L2.hi wr ((w12.setCell ⟨wr.heap.size, 0, none⟩ (.int .i64 r)).setCell ⟨wr.heap.size, 1, none⟩ (.int .i64 0)) ∧ ∃ t' : St, SpaceAt ((w12.setCell ⟨wr.heap.size, 0, none⟩ (.int .i64 r)).setCell ⟨wr.heap.size, 1, none⟩ (.int .i64 0)) L2 t' ∧ t'.Inv ∧ t'.acts ≤ t.acts + 2 ∧ ((r' = 0 ∧ ∃ y', y.step s5 z = some y' ∧ y'.Ok s5 t') ∨ (r' ≠ 0 ∧ y.step s5 z = none)) :=
                      ⟨wr.heap.size, a3, r, rfl, rfl, cells_set (cells_set hzb 0 (.int .i64 r)) 1 (.int .i64 0), (hOW.setCell (p := ⟨wr.heap.size, 0, none⟩) (.inr (Nat.le_refl _)) _).setCell (p := ⟨wr.heap.size, 1, none⟩) (.inr (Nat.le_refl _)) _, t', (h1.setNew HTOP.out 0 _).setNew HTOP.out 1 _, h2, h3, h4⟩
                     have HRES := Lib.hid hres
                     clear hres h1 h2 h3 h4 ho12
                     go_wp2_with fail
                     go_meet
                     exact HRES.out)
              case rest =>
                obtain ⟨fb, a3, r, rfl, rfl, hbx, honx, t', h1, h2, h3, h4⟩ := hcut
                have x0 := cell_of (v := .int .i64 r) hbx 0 rfl
                have xl := (Array.getElem?_eq_some_iff.1 hbx).1
                have hac : t'.acts ≤ s5.acts + 2 * (i + 1) := by have := HACT.out; omega
                rcases h4 with ⟨rfl, y', e1, e2⟩ | ⟨hr0, e1⟩
                · have HTN : Hid (TruX w11 L2 s5 zs (i + 1) (.bool true) wc) := Lib.hid ⟨true, rfl, HTT.out.on.trans honx, ⟨t', h1, h2, hac, fun _ => ⟨y', HNX.out.trans e1, e2⟩⟩, fun h => by cases h⟩
                  clear hbx honx h1 h2 h3 e1 e2 hac
                  go_wp2_with fail
                  refine ⟨⟨i + 1, by go_num, hil, HTN.out⟩, by simp [intOf]; omega⟩
                · have HTN : Hid (TruX w11 L2 s5 zs (i + 1) (.bool false) wc) := Lib.hid ⟨false, rfl, HTT.out.on.trans honx, ⟨t', h1, h2, hac, fun h => by cases h⟩, fun _ => HNX.out.trans e1⟩
                  have hre : (r == 0) = false := by simpa using hr0
                  clear hbx honx h1 h2 h3 e1 hac hr0
                  go_wp2_with fail
                  refine ⟨⟨i + 1, by go_num, hil, HTN.out⟩, by simp [intOf]; omega⟩
            · have hbb : bb = b := by
                rw [← HBB2.out]
                cases b with
                | true =>
                  obtain rfl : i = ll := by
                    rcases Nat.lt_or_ge i ll with h | h
                    · exact absurd ⟨h, rfl⟩ hgo
                    · omega
                  obtain ⟨_, _, _, _, hyy⟩ := HTT.out.sp
                  obtain ⟨y, hy1, _⟩ := hyy rfl
                  rw [hy1]; rfl
                | false =>
                  have h1 := s5.simTo_none zs (i := i) (ll - i) (HTT.out.bad rfl)
                  rw [show i + (ll - i) = ll by omega] at h1
                  rw [h1]; rfl
              subst hbb
              have hfin : Below w.heap.size w wr := HBE11.out.trans (below_le (HTT.out.on.below HB11.out.loLe) (by have := HB11.out.lo; have := HWB2.out.1; omega))
              have HFIN := Lib.hid hfin
              clear hfin
              cases bb with
              | true =>
                obtain rfl : i = ll := by
                  rcases Nat.lt_or_ge i ll with h | h
                  · exact absurd ⟨h, rfl⟩ hgo
                  · omega
                clear hgo
                go_wp2_with fail
                go_ret
                exact ⟨rfl, HFIN.out⟩
              | false =>
                clear hgo
                by_cases hil : i < ll
                · have hiI : (i : Int) < (ll : Int) := by omega
                  go_wp2_with fail
                  go_ret
                  exact ⟨rfl, HFIN.out⟩
                · have hiI : (ll : Int) ≤ (i : Int) := by omega
                  go_wp2_with fail
                  go_ret
                  exact ⟨rfl, HFIN.out⟩
end Go.Proofs.YtiniadochjeieaaDoor
