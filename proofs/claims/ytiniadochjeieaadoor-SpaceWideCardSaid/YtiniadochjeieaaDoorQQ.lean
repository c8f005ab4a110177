/-
  Writing under the invariant; the walk of world.played.
-/
import Derived.Test.YtiniadochjeieaaDoorQP
namespace Go.Proofs.YtiniadochjeieaaDoor
open Go Go.RowKit

set_option maxHeartbeats 1600000 in
theorem Sp.cls_le {z : Int} {c : Nat} (hc : c < 8) (h : Sp.cls z = (c : Int)) : z ≤ (Sp.cw c : Int) := by
  unfold Sp.cls at h
  have hcc : c = 0 ∨ c = 1 ∨ c = 2 ∨ c = 3 ∨ c = 4 ∨ c = 5 ∨ c = 6 ∨ c = 7 := by omega
  rcases hcc with rfl | rfl | rfl | rfl | rfl | rfl | rfl | rfl
  · show z ≤ ((2 : Nat) : Int); repeat' split at h
    all_goals omega
  · show z ≤ ((4 : Nat) : Int); repeat' split at h
    all_goals omega
  · show z ≤ ((6 : Nat) : Int); repeat' split at h
    all_goals omega
  · show z ≤ ((8 : Nat) : Int); repeat' split at h
    all_goals omega
  · show z ≤ ((12 : Nat) : Int); repeat' split at h
    all_goals omega
  · show z ≤ ((16 : Nat) : Int); repeat' split at h
    all_goals omega
  · show z ≤ ((20 : Nat) : Int); repeat' split at h
    all_goals omega
  · show z ≤ ((32 : Nat) : Int); repeat' split at h
    all_goals omega
/-- A word of an object's own is written. -/
theorem St.InvX.write {s : St} (h : s.Inv) {a i : Nat} (ha : s.B 0 a = true) (h1 : 1 ≤ i) (h2 : (i : Int) < (s.sh a).z) (x : Int) : ({ s with W := setW s.W (a + i) x } : St).Inv := by
  have hob := h.obj a ha
  have hw : (i : Int) < Sp.wide (s.sh a).z := by
    have hz := hob.1
    have hz1 := hz.2.2.2.2.1
    have hz2 := hz.2.2.2.2.2
    refine Int.lt_of_lt_of_le h2 ?_
    rcases hob.2 with ⟨c, hc, hcz, _⟩ | ⟨h8, _⟩
    · rw [Sp.wide_blk hc hcz]
      exact Sp.cls_le hc hcz
    · rw [(Sp.wide_run h8).1]
      unfold Sp.pgs
      rw [if_pos h8]
      omega
  have hno : ∀ y, s.Beg y → y ≠ a + i := fun y hy e => by
    have := hob.2.apart hy (by omega)
    omega
  have hW : ∀ y, s.Beg y → ({ s with W := setW s.W (a + i) x } : St).W y = s.W y := fun y hy => by
    show setW s.W (a + i) x y = _
    unfold setW; rw [if_neg (hno y hy)]
  refine ⟨h.n1, h.n2, h.pages, h.obj, h.runs, h.free, fun y hy => ?_, fun c hc y hy => ?_, h.side, h.ser0, h.ser1, h.sers, h.room, h.room2, h.idx.of rfl rfl rfl, h.lowf.of rfl rfl⟩
  · rw [hW y (h.obj y hy).2.beg]; exact h.hdr y hy
  · rw [hW y (.inl ⟨c, hc, ((h.free c hc y).1 hy).1⟩)]; exact h.lnk c hc y hy
theorem St.InvX.chk0 {s : St} (h : s.Inv) {a : Nat} (ha : s.B 0 a = true) : s.chk (a : Int) = (0, 0) := by
  unfold St.chk St.has
  rw [decide_eq_true (by omega), Int.toNat_natCast, ha, if_pos (by rfl), if_pos (h.hdr a ha)]
/-- Write, at an object of a law's world. -/
theorem ob_write (w : World) (L : Lay) (s : St) (wb : Nat) (os : List Ob) (v : Value) (hW : Wld w L s wb os v) (o : Ob) (ho : o ∈ os) (B C : Int) :
    Calls Tryd.prog 47 #[.pointer (some ⟨L.sb, 0, none⟩), .int .i64 (o.at' : Int), .int .i64 B, .int .i64 C] w fun e w' =>
      ∃ r1 r2 s', e = .returned (.agg #[.int .i64 r1, .int .i64 r2]) ∧ (decide (r1 = 0) = decide (1 ≤ B ∧ B < o.sh.z)) ∧ Wld w' L s' wb os v ∧ s'.n = s.n ∧ s'.acts = s.acts ∧ Only L.lo L.hi w w' := by
  obtain ⟨hb, hsh⟩ := hW.agree.here o ho
  have hf := hW.inv.fine
  have hchk := hW.inv.chk0 hb
  have hN := (hW.inv.obj _ hb).2.lt
  by_cases h : 1 ≤ B ∧ B < o.sh.z
  · obtain ⟨b, rfl⟩ := Int.eq_ofNat_of_zero_le (show 0 ≤ B by omega)
    have hwrd : s.wrd (o.at' : Int) (b : Int) = (0, 0) := by
      unfold St.wrd
      rw [hchk, if_pos rfl, hsh, if_neg (by omega)]
    have hin : o.at' + b < 64 * s.n := by
      have hob := hW.inv.obj _ hb
      have hz := hob.1
      have hw : (b : Int) < Sp.wide (s.sh o.at').z := by
        have hz1 := hz.2.2.2.2.1
        have hz2 := hz.2.2.2.2.2
        refine Int.lt_of_lt_of_le (b := (s.sh o.at').z) (by rw [hsh]; exact h.2) ?_
        rcases hob.2 with ⟨c, hc, hcz, _⟩ | ⟨h8, _⟩
        · rw [Sp.wide_blk hc hcz]
          exact Sp.cls_le hc hcz
        · rw [(Sp.wide_run h8).1]
          unfold Sp.pgs
          rw [if_pos h8]
          omega
      omega
    refine write_ok w L s hW.sp o.at' b C hf hwrd hin _ (fun w' hs hon => ⟨0, 0, _, rfl, ?_, hW.turned (hW.only hon hs) hs rfl rfl (hW.inv.write hb (by omega) (by rw [hsh]; exact h.2) C) ⟨hW.agree.here, hW.agree.all, hW.agree.once⟩, rfl, rfl, hon⟩)
    rw [decide_eq_true h]; rfl
  · have hwrd : s.wrd (o.at' : Int) B = (23, 0) := by
      unfold St.wrd
      rw [hchk, if_pos rfl, hsh, if_pos (by omega)]
    have h1 := write_bad w L s hW.sp o.at' B C (wf_of (by have := hW.sp.n2; omega)) hf (by rw [hwrd]; decide)
    rw [hwrd] at h1
    refine h1.mono ?_
    rintro e w' ⟨rfl, hs⟩
    refine ⟨23, 0, s, rfl, ?_, hW.still hs, rfl, rfl, hs.any _ _⟩
    rw [decide_eq_false h]; rfl
/-- A box that was laid ahead of a call is there behind it. -/
theorem fresh_after {lo hi : Nat} {W w' : World} (ho : Only lo hi W w') (w : World) (o : Obj) (hW : W.heap = (w.alloc o).heap) (h : hi ≤ w.heap.size) : w'.heap[w.heap.size]? = some o :=
  (ho.block _ (by rw [hW]; simp) (.inr h)).trans (by rw [hW]; exact heap_alloc_new w o)
/-- A store beyond a law's world. -/
theorem Wld.box {w : World} {L : Lay} {s : St} {wb : Nat} {os : List Ob} {v : Value} (h : Wld w L s wb os v) {b : Nat} (hg : ∀ g, v.ownBlock = some g → g ≠ b) (hb : L.hi ≤ b) (o : Nat) (u : Value) : Wld (w.setCell ⟨b, o, none⟩ u) L s wb os v := by
  have hlo := h.lo
  have hlh := h.sp.ok.inn 0 (by omega)
  refine ⟨h.pos, h.lo, ?_, ownsRow_of_block h.row fun g hg' => ?_, h.sp.setNew hb o u, h.inv, h.agree⟩
  · rw [Below.heap_setCell _ _ _ _ (by show wb ≠ b; omega)]; exact h.head
  · exact Below.heap_setCell _ _ _ _ (hg g hg')
/-- A script that lies below a block. -/
def OpsB (w : World) (B : Nat) (a : Option Addr) (len : Nat) (os : Nat → OpV) : Prop :=
  len ≤ 9223372036854775807 ∧ ∀ i, i < len → ∃ x, a = some x ∧ x.block < B ∧ OpAt w (x.add (i * 6)) (os i) ∧ ∀ y, (os i).la = some y → 0 < (os i).ll → y.block < B
theorem add_block (x : Addr) (j : Nat) : (x.add j).block = x.block := by unfold Addr.add; split <;> rfl
theorem OpsB.below {w w' : World} {B : Nat} {a : Option Addr} {len : Nat} {os : Nat → OpV} (h : OpsB w B a len os) (hb : Below B w w') : OpsB w' B a len os := by
  have hc : ∀ p : Addr, p.block < B → w'.cell? p = w.cell? p := fun p hp => World.cell?_of_block (w := w) (hb.block p.block hp)
  refine ⟨h.1, fun i hi => ?_⟩
  obtain ⟨x, h1, h2, ⟨⟨who, k0⟩, k1, k2, k3, k4, k5, k6, k7, k8, k9⟩, h4⟩ := h.2 i hi
  have hx : (x.add (i * 6)).block < B := by rw [add_block]; exact h2
  refine ⟨x, h1, h2, ⟨⟨who, (hc _ hx).trans k0⟩, (hc ⟨_, _, none⟩ hx).trans k1, (hc ⟨_, _, none⟩ hx).trans k2, (hc ⟨_, _, none⟩ hx).trans k3, (hc ⟨_, _, none⟩ hx).trans k4, (hc ⟨_, _, none⟩ hx).trans k5, k6, k7, k8, k9.1, fun j hj => ?_⟩, h4⟩
  obtain ⟨y, e1, e2, e3⟩ := k9.2 j hj
  exact ⟨y, e1, (hc _ (by rw [add_block]; exact h4 y e1 (by omega))).trans e2, e3⟩
end Go.Proofs.YtiniadochjeieaaDoor

namespace Go.Proofs.YtiniadochjeieaaDoor
open Go Go.RowKit

set_option maxRecDepth 100000 in
set_option maxHeartbeats 3200000 in
theorem played_any (w : World) (L : Lay) (s : St) (wb : Nat) (os : List Ob) (v : Value) (hW : Wld w L s wb os v) (a : Option Addr) (len cap : Nat) (ops : Nat → OpV) (ho : OpsB w wb a len ops) (hsm : ∀ i, i < len → i < 120 → (ops i).ll ≤ 400) (ha : s.acts ≤ 1000000) (hl : os.length ≤ 1000) (Q : Ending → World → Prop)
    (hQ : ∀ w' s' os' v', Wld w' L s' wb os' v' → s'.n = s.n → s'.acts ≤ s.acts + 240 → os'.length ≤ os.length + 120 → Frm wb L w v w' v' → Q (.returned (.bool true)) w') :
    Calls Tryd.prog 14 #[.pointer (some ⟨wb, 0, none⟩), .slice a len cap] w Q := by
  have HQ := Lib.hid hQ
  have HW := Lib.hid hW
  have HO := Lib.hid ho
  have HSM := Lib.hid hsm
  have hle : (len : Int) ≤ 9223372036854775807 := by have := ho.1; omega
  clear hQ hW ho hsm
  go_enter Tryd.func14, Tryd.ntmps14
  go_wp2_with fail
  go_loopw [5] (fun y wr => ∃ (i : Nat) (s' : St) (os' : List Ob) (v' : Value), y = .int .i64 (i : Int) ∧ i ≤ len ∧ i ≤ 120 ∧ Wld wr L s' wb os' v' ∧ s'.n = s.n ∧ s'.acts ≤ s.acts + 2 * i ∧ os'.length ≤ os.length + i ∧ Frm wb L w v wr v') (fun y _ => 121 - (intOf y).toNat)
  case atStart => exact ⟨0, s, os, v, rfl, by omega, by omega, HW.out, rfl, by omega, by omega, Frm.refl _ _ _ _⟩
  case round =>
    obtain ⟨i, s', os', v', rfl, hi, hi2, hw, hn, hac, hln, hbe⟩ := hrel
    have HWR := Lib.hid hw
    have HBE := Lib.hid hbe
    have HN := Lib.hid hn
    have HOR := Lib.hid (HO.out.below hbe.b)
    have hi0 : (0 : Int) ≤ (i : Int) := by omega
    clear hw hbe hn
    by_cases hgo : i < len ∧ i < 120
    · have g1 : decide ((i : Int) < (len : Int)) = true := decide_eq_true (by omega)
      have g2 : decide ((i : Int) < 120) = true := decide_eq_true (by omega)
      have g4 : (i : Int) < (len : Int) := by omega
      obtain ⟨x, rfl, hxb, ⟨⟨who, o0⟩, o1, o2, o3, o4, o5, w1, w2, w3, hrow⟩, hla⟩ := HOR.out.2 i hgo.1
      have HROW := Lib.hid hrow
      have HLA := Lib.hid hla
      have HSMI := Lib.hid (HSM.out i hgo.1 hgo.2)
      obtain ⟨⟨k, A, B, C, la, ll, lc, zs⟩, hop⟩ : ∃ o, ops i = o := ⟨_, rfl⟩
      rw [hop] at o1 o2 o3 o4 o5 w1 w2 w3 HROW HLA HSMI
      clear hop hrow hla
      generalize hxx : x.add (i * 6) = xa at *
      by_cases hk1 : k = 1
      · subst hk1
        go_wp2_with fail
        refine takes_any _ L s' wb os' v' (HWR.out.still ((Only.refl _ _ wr).alloc _)) A B C w1 w2 (by omega) (by omega) _ (fun w6 s6 os6 v6 h6 hn6 ha6 hl6 hb6 => ?_)
        have H6 := Lib.hid h6
        have HB6 : Hid (Frm wb L w v w6 v6) := Lib.hid (HBE.out.trans ((Frm.still _ ((Only.refl _ _ wr).alloc _) HWR.out.lt).trans hb6))
        have HN6 := Lib.hid (hn6.trans HN.out)
        clear h6 hb6 hn6
        go_wp2
        go_roundw
        case rel => exact ⟨i + 1, s6, os6, v6, by go_num, hgo.1, hgo.2, H6.out, HN6.out, by omega, by omega, HB6.out⟩
        case measure => simp [intOf]; omega
      · have k1 : decide (k = 1) = false := decide_eq_false hk1
        by_cases hk3 : k = 3
        · subst hk3
          have hv3 : ∃ ao cp, v' = .slice ao os'.length cp := by
            rcases HWR.out.row.2 with ⟨h1, h2⟩ | ⟨g, cap, cur, h1, _⟩
            · rw [h2]; exact ⟨_, _, h1⟩
            · exact ⟨_, _, h1⟩
          obtain ⟨ao, cp, rfl⟩ := hv3
          have hst1 : Still wr (wr.alloc (.cells #[.int .i64 who, .int .i64 3, .int .i64 A, .int .i64 B, .int .i64 C, .slice la ll lc] 94)) := (Only.refl _ _ wr).alloc _
          have hbx := heap_alloc_new wr (.cells #[.int .i64 who, .int .i64 3, .int .i64 A, .int .i64 B, .int .i64 C, .slice la ll lc] 94)
          have HH := Lib.hid (HWR.out.still hst1)
          have HB1 : Hid (Frm wb L w v (wr.alloc (.cells #[.int .i64 who, .int .i64 3, .int .i64 A, .int .i64 B, .int .i64 C, .slice la ll lc] 94)) (.slice ao os'.length cp)) := Lib.hid (HBE.out.trans (Frm.still _ hst1 HWR.out.lt))
          have c2 := HH.out.c2
          have c1 := HH.out.c1
          have cl := HH.out.lt
          obtain ⟨n, hnn⟩ : ∃ n, os'.length = n := ⟨_, rfl⟩
          have HNN := Lib.hid hnn
          rw [hnn] at c2
          have hn0 : (0 : Int) ≤ (n : Int) := by omega
          clear hst1
          by_cases hz : n = 0
          · have z1 : decide ((0 : Int) < (n : Int)) = false := decide_eq_false (by omega)
            have z2 : decide (0 < n) = false := decide_eq_false (by omega)
            have hln2 : os'.length ≤ os.length + (i + 1) := by omega
            clear hz hnn
            go_wp2
            go_roundw
            case rel => exact ⟨i + 1, s', os', .slice ao os'.length cp, by go_num, hgo.1, hgo.2, HH.out, HN.out, by omega, hln2, HB1.out⟩
            case measure => simp [intOf]; omega
          · have hnp : (0 : Int) < (n : Int) := by omega
            have z1 : decide ((0 : Int) < (n : Int)) = true := decide_eq_true hnp
            obtain ⟨hA1, hA2⟩ := wf_i64 w1
            obtain ⟨kx, hkx⟩ : ∃ kx : Nat, wi A n = (kx : Int) := ⟨(wi A n).toNat, by have := wi_range A n hnp; omega⟩
            have hkr := wi_range A n hnp
            rw [hkx] at hkr
            have hkn : kx < n := by omega
            have hkI : (kx : Int) < (n : Int) := hkr.2
            have hk0 : (0 : Int) ≤ (kx : Int) := hkr.1
            have HWN := Lib.hid (fun w => within_any A n w hA1 hA2 hnp (by omega))
            rw [hkx] at HWN
            obtain ⟨g, rfl, hgh, hgl, hgc⟩ := HH.out.at (by rw [HNN.out]; omega)
            have hcell := fun c hc => hgc kx c (by rw [HNN.out]; exact hkn) hc
            have hmem := getD_mem os' kx (by rw [HNN.out]; exact hkn)
            obtain ⟨ob, hob⟩ : ∃ ob, os'.getD kx ob0 = ob := ⟨_, rfl⟩
            rw [hob] at hcell hmem
            have HMEM := Lib.hid hmem
            go_wp2_with fail
            generalize wr.alloc (.cells #[.int .i64 who, .int .i64 3, .int .i64 A, .int .i64 B, .int .i64 C, .slice la ll lc] 94) = w1' at *
            have a0 : w1'.cell? ⟨g, kx * 5, none⟩ = some (.int .i64 (ob.at' : Int)) := hcell 0 (by omega)
            have a1 : w1'.cell? ⟨g, kx * 5 + 1, none⟩ = some (.int .i64 ob.sh.k) := hcell 1 (by omega)
            have a2 : w1'.cell? ⟨g, kx * 5 + 2, none⟩ = some (.int .i64 ob.sh.z) := hcell 2 (by omega)
            have a3 : w1'.cell? ⟨g, kx * 5 + 3, none⟩ = some (.int .i64 ob.sh.s) := hcell 3 (by omega)
            have a4 : w1'.cell? ⟨g, kx * 5 + 4, none⟩ = some (.int .i64 ob.sh.t) := hcell 4 (by omega)
            have b2 := cell_of (v := .int .i64 A) hbx 2 rfl
            clear hcell hgc hmem hkx hkr hz hnn
            go_region_held3 (fun w' => w'.cell? ⟨wb, 2, none⟩ = some (.slice (some ⟨g, 0, none⟩) n cp) ∧ w'.cell? ⟨wr.heap.size, 2, none⟩ = some (.int .i64 A) ∧ w'.cell? ⟨g, kx * 5, none⟩ = some (.int .i64 (ob.at' : Int)) ∧ w'.cell? ⟨g, kx * 5 + 1, none⟩ = some (.int .i64 ob.sh.k) ∧ w'.cell? ⟨g, kx * 5 + 2, none⟩ = some (.int .i64 ob.sh.z) ∧ w'.cell? ⟨g, kx * 5 + 3, none⟩ = some (.int .i64 ob.sh.s) ∧ w'.cell? ⟨g, kx * 5 + 4, none⟩ = some (.int .i64 ob.sh.t))
              (first | exact ⟨c2, b2, a0, a1, a2, a3, a4⟩ | exact ⟨Lib.cell?_alloc_some _ c2, Lib.cell?_alloc_some _ b2, Lib.cell?_alloc_some _ a0, Lib.cell?_alloc_some _ a1, Lib.cell?_alloc_some _ a2, Lib.cell?_alloc_some _ a3, Lib.cell?_alloc_some _ a4⟩)
              (first | (go_at_call 17; refine (HWN.out _).mono ?_; rintro e w9 ⟨rfl, rfl⟩))
            all_goals
              have hgo1 : wr.heap.size < w1'.heap.size := (Array.getElem?_eq_some_iff.1 hbx).1
              have hWl := HWR.out.sp.top
              have hWs := HH.out.sp.top
              have HWRT := Lib.hid (fun w (h : Wld w L s' wb os' (.slice (some ⟨g, 0, none⟩) os'.length cp)) => ob_write w L s' wb os' _ h ob HMEM.out B C)
              clear HWN
              clear c1 cl c2 hgl a0 a1 a2 a3 a4 b2
              rename_i hHeld
              clear hHeld
              have hst2 : Still w1' (w1'.alloc (.cells #[.int .i64 (ob.at' : Int), .int .i64 ob.sh.k, .int .i64 ob.sh.z, .int .i64 ob.sh.s, .int .i64 ob.sh.t] 34)).drew := ((Only.refl _ _ w1').alloc _).drew
              have hbo : (w1'.alloc (.cells #[.int .i64 (ob.at' : Int), .int .i64 ob.sh.k, .int .i64 ob.sh.z, .int .i64 ob.sh.s, .int .i64 ob.sh.t] 34)).drew.heap[w1'.heap.size]? = some (.cells #[.int .i64 (ob.at' : Int), .int .i64 ob.sh.k, .int .i64 ob.sh.z, .int .i64 ob.sh.s, .int .i64 ob.sh.t] 34) := heap_alloc_new w1' _
              generalize (w1'.alloc (.cells #[.int .i64 (ob.at' : Int), .int .i64 ob.sh.k, .int .i64 ob.sh.z, .int .i64 ob.sh.s, .int .i64 ob.sh.t] 34)).drew = w2 at *
              have HH2 := Lib.hid (HH.out.still hst2)
              have HB2 : Hid (Frm wb L w v w2 (.slice (some ⟨g, 0, none⟩) os'.length cp)) := Lib.hid (HB1.out.trans (Frm.still _ hst2 HH.out.lt))
              have hbx2 := (hst2.block _ hgo1 (.inl hgo1)).trans hbx
              have HBX : Hid (∀ w', Only L.lo L.hi w2 w' → w'.heap[w1'.heap.size]? = some (.cells #[.int .i64 (ob.at' : Int), .int .i64 ob.sh.k, .int .i64 ob.sh.z, .int .i64 ob.sh.s, .int .i64 ob.sh.t] 34) ∧ w'.heap[wr.heap.size]? = some (.cells #[.int .i64 who, .int .i64 3, .int .i64 A, .int .i64 B, .int .i64 C, .slice la ll lc] 94)) := Lib.hid fun w' ho =>
                ⟨(ho.block _ (Array.getElem?_eq_some_iff.1 hbo).1 (.inr (by omega))).trans hbo, (ho.block _ (Array.getElem?_eq_some_iff.1 hbx2).1 (.inr (by omega))).trans hbx2⟩
              have HLT2 : Hid (L.hi ≤ w2.heap.size) := Lib.hid HH2.out.sp.top
              have c1 := HH2.out.c1
              have cl := HH2.out.lt
              have x0 := cell_of (v := .int .i64 (ob.at' : Int)) hbo 0 rfl
              have x3 := cell_of (v := .int .i64 B) hbx2 3 rfl
              have x4 := cell_of (v := .int .i64 C) hbx2 4 rfl
              have hlx := (Array.getElem?_eq_some_iff.1 hbo).1
              have hly := (Array.getElem?_eq_some_iff.1 hbx2).1
              have HNB : Hid (wb ≠ w2.heap.size ∧ w1'.heap.size ≠ w2.heap.size ∧ wr.heap.size ≠ w2.heap.size) := Lib.hid ⟨by omega, by omega, by omega⟩
              clear hst2 hbo hbx2 HH HB1 hbx
              go_wp2_with fail
              go_region_held3 (fun w' => w'.cell? ⟨wb, 1, none⟩ = some (.pointer (some ⟨L.sb, 0, none⟩)) ∧ w'.cell? ⟨w1'.heap.size, 0, none⟩ = some (.int .i64 (ob.at' : Int)) ∧ w'.cell? ⟨wr.heap.size, 3, none⟩ = some (.int .i64 B) ∧ w'.cell? ⟨wr.heap.size, 4, none⟩ = some (.int .i64 C))
                (first | exact ⟨c1, x0, x3, x4⟩ | exact ⟨Lib.cell?_alloc_some _ c1, Lib.cell?_alloc_some _ x0, Lib.cell?_alloc_some _ x3, Lib.cell?_alloc_some _ x4⟩ | exact ⟨y1, y0, y3, y4⟩ | exact ⟨Lib.cell?_alloc_some _ y1, Lib.cell?_alloc_some _ y0, Lib.cell?_alloc_some _ y3, Lib.cell?_alloc_some _ y4⟩ | exact ⟨set_cell (set_cell y1 HNB.out.1) HNB.out.1, set_cell (set_cell y0 HNB.out.2.1) HNB.out.2.1, set_cell (set_cell y3 HNB.out.2.2) HNB.out.2.2, set_cell (set_cell y4 HNB.out.2.2) HNB.out.2.2⟩)
                (first | (go_at_call 47; refine (HWRT.out _ (HH2.out.still (by repeat first | exact Only.refl _ _ _ | apply Only.drew | apply Only.drewN | apply Only.alloc))).mono ?_; rintro e w9 ⟨r1, r2, s9, rfl, hr, h9, hn9, ha9, ho9⟩; have HO9 : Hid (Only L.lo L.hi w2 w9) := Lib.hid (Only.trans (by repeat first | exact Only.refl _ _ _ | apply Only.drew | apply Only.drewN | apply Only.alloc) ho9); (try (have hzb := fresh_after ho9 w2 (.cells #[.int .i64 0, .int .i64 0] 56) rfl HLT2.out; have hz0 := cell_of (v := .int .i64 0) hzb 0 rfl; have hz1 := cell_of (v := .int .i64 0) hzb 1 rfl; have hf0 := frozen_of hzb 0; have hf1 := frozen_of hzb 1; have hlz := (Array.getElem?_eq_some_iff.1 hzb).1)); have y1 := h9.c1; have y0 := cell_of (v := .int .i64 (ob.at' : Int)) (HBX.out _ HO9.out).1 0 rfl; have y3 := cell_of (v := .int .i64 B) (HBX.out _ HO9.out).2 3 rfl; have y4 := cell_of (v := .int .i64 C) (HBX.out _ HO9.out).2 4 rfl))
              all_goals
                rename_i hHeld
                clear hHeld
                have HHR := Lib.hid hr
                have HH9 := Lib.hid h9
                have HNA := Lib.hid (And.intro hn9 ha9)
                clear hr h9 hn9 ha9 ho9 c1 x0 x3 x4 y1 y0 y4
                have HBL : Hid (Frm wb L w v w9 (.slice (some ⟨g, 0, none⟩) os'.length cp)) := Lib.hid (HB2.out.trans (Frm.space _ HO9.out HH2.out.lo HH2.out.loLe))
                have y2 := cell_of (v := .int .i64 ob.sh.z) (HBX.out _ HO9.out).1 2 rfl
                have hl9 := HO9.out.size
                clear HBX HWRT
              · have hF := HH9.out.still ((Only.refl _ _ w9).alloc (.cells #[.int .i64 r1, .int .i64 r2] 56))
                have HBF : Hid (Frm wb L w v (w9.alloc (.cells #[.int .i64 r1, .int .i64 r2] 56)) (.slice (some ⟨g, 0, none⟩) os'.length cp)) := Lib.hid (HBL.out.trans (Frm.still _ ((Only.refl _ _ w9).alloc _) HH9.out.lt))
                have u3 := Lib.cell?_alloc_some (.cells #[.int .i64 r1, .int .i64 r2] 56) y3
                have u2 := Lib.cell?_alloc_some (.cells #[.int .i64 r1, .int .i64 r2] 56) y2
                have hb9 := heap_alloc_new w9 (.cells #[.int .i64 r1, .int .i64 r2] 56)
                have u0 := cell_of (v := .int .i64 r1) hb9 0 rfl
                have HF := Lib.hid hF
                clear hF hb9 y3 y2
                generalize w9.alloc (.cells #[.int .i64 r1, .int .i64 r2] 56) = W9 at *
                by_cases hB1 : 1 ≤ B
                · have k3 : decide (1 ≤ B) = true := decide_eq_true hB1
                  by_cases hB2 : B < ob.sh.z
                  · have k4 : decide (B < ob.sh.z) = true := decide_eq_true hB2
                    have k5 : (r1 == 0) = true := by have h := HHR.out; rw [decide_eq_true (And.intro hB1 hB2), decide_eq_true_eq] at h; rw [h]; rfl
                    clear hB1 hB2
                    go_wp2
                    go_roundw
                    case rel => exact ⟨i + 1, s9, os', _, by go_num, hgo.1, hgo.2, HF.out, HNA.out.1.trans HN.out, by rw [HNA.out.2]; omega, by omega, HBF.out⟩
                    case measure => simp [intOf]; omega
                  · have k4 : decide (B < ob.sh.z) = false := decide_eq_false hB2
                    have k5 : (r1 == 0) = false := by have h := HHR.out; rw [decide_eq_false (p := 1 ≤ B ∧ B < ob.sh.z) (fun h => hB2 h.2), decide_eq_false_iff_not] at h; simpa using h
                    clear hB1 hB2
                    go_wp2
                    go_roundw
                    case rel => exact ⟨i + 1, s9, os', _, by go_num, hgo.1, hgo.2, HF.out, HNA.out.1.trans HN.out, by rw [HNA.out.2]; omega, by omega, HBF.out⟩
                    case measure => simp [intOf]; omega
                · have k3 : decide (1 ≤ B) = false := decide_eq_false hB1
                  have k5 : (r1 == 0) = false := by have h := HHR.out; rw [decide_eq_false (p := 1 ≤ B ∧ B < ob.sh.z) (fun h => hB1 h.1), decide_eq_false_iff_not] at h; simpa using h
                  clear hB1
                  go_wp2
                  go_roundw
                  case rel => exact ⟨i + 1, s9, os', _, by go_num, hgo.1, hgo.2, HF.out, HNA.out.1.trans HN.out, by rw [HNA.out.2]; omega, by omega, HBF.out⟩
                  case measure => simp [intOf]; omega
              · have hF : Wld ((w9.setCell ⟨w2.heap.size, 0, none⟩ (.int .i64 r1)).setCell ⟨w2.heap.size, 1, none⟩ (.int .i64 r2)) L s9 wb os' (.slice (some ⟨g, 0, none⟩) os'.length cp) := (HH9.out.box (fun g' e => Nat.ne_of_lt (HH2.out.row.lt g' e).2) HLT2.out 0 _).box (fun g' e => Nat.ne_of_lt (HH2.out.row.lt g' e).2) HLT2.out 1 _
                have HBF : Hid (Frm wb L w v ((w9.setCell ⟨w2.heap.size, 0, none⟩ (.int .i64 r1)).setCell ⟨w2.heap.size, 1, none⟩ (.int .i64 r2)) (.slice (some ⟨g, 0, none⟩) os'.length cp)) := Lib.hid ((HBL.out.box HB2.out.b.size HW.out.lt 0 _).box HB2.out.b.size HW.out.lt 1 _)
                have u3 := set_cell (u := .int .i64 r2) (q := ⟨w2.heap.size, 1, none⟩) (set_cell (u := .int .i64 r1) (q := ⟨w2.heap.size, 0, none⟩) y3 HNB.out.2.2) HNB.out.2.2
                have u2 := set_cell (u := .int .i64 r2) (q := ⟨w2.heap.size, 1, none⟩) (set_cell (u := .int .i64 r1) (q := ⟨w2.heap.size, 0, none⟩) y2 HNB.out.2.1) HNB.out.2.1
                have u0 : ((w9.setCell ⟨w2.heap.size, 0, none⟩ (.int .i64 r1)).setCell ⟨w2.heap.size, 1, none⟩ (.int .i64 r2)).cell? ⟨w2.heap.size, 0, none⟩ = some (.int .i64 r1) := (World.cell?_setCell_other _ _ _ _ (by intro e; injection e with _ e; omega)).trans (World.cell?_setCell_same _ _ _ hz0)
                have HF := Lib.hid hF
                clear hF y3 y2 hz0 hz1 hf0 hf1 hzb
                generalize (w9.setCell ⟨w2.heap.size, 0, none⟩ (.int .i64 r1)).setCell ⟨w2.heap.size, 1, none⟩ (.int .i64 r2) = W9 at *
                by_cases hB1 : 1 ≤ B
                · have k3 : decide (1 ≤ B) = true := decide_eq_true hB1
                  by_cases hB2 : B < ob.sh.z
                  · have k4 : decide (B < ob.sh.z) = true := decide_eq_true hB2
                    have k5 : (r1 == 0) = true := by have h := HHR.out; rw [decide_eq_true (And.intro hB1 hB2), decide_eq_true_eq] at h; rw [h]; rfl
                    clear hB1 hB2
                    go_wp2
                    go_roundw
                    case rel => exact ⟨i + 1, s9, os', _, by go_num, hgo.1, hgo.2, HF.out, HNA.out.1.trans HN.out, by rw [HNA.out.2]; omega, by omega, HBF.out⟩
                    case measure => simp [intOf]; omega
                  · have k4 : decide (B < ob.sh.z) = false := decide_eq_false hB2
                    have k5 : (r1 == 0) = false := by have h := HHR.out; rw [decide_eq_false (p := 1 ≤ B ∧ B < ob.sh.z) (fun h => hB2 h.2), decide_eq_false_iff_not] at h; simpa using h
                    clear hB1 hB2
                    go_wp2
                    go_roundw
                    case rel => exact ⟨i + 1, s9, os', _, by go_num, hgo.1, hgo.2, HF.out, HNA.out.1.trans HN.out, by rw [HNA.out.2]; omega, by omega, HBF.out⟩
                    case measure => simp [intOf]; omega
                · have k3 : decide (1 ≤ B) = false := decide_eq_false hB1
                  have k5 : (r1 == 0) = false := by have h := HHR.out; rw [decide_eq_false (p := 1 ≤ B ∧ B < ob.sh.z) (fun h => hB1 h.1), decide_eq_false_iff_not] at h; simpa using h
                  clear hB1
                  go_wp2
                  go_roundw
                  case rel => exact ⟨i + 1, s9, os', _, by go_num, hgo.1, hgo.2, HF.out, HNA.out.1.trans HN.out, by rw [HNA.out.2]; omega, by omega, HBF.out⟩
                  case measure => simp [intOf]; omega
        · by_cases hk7 : k = 7
          · subst hk7
            go_wp2_with fail
            refine keeps_any _ L s' wb os' v' (HWR.out.still ((Only.refl _ _ wr).alloc _)) la ll lc zs ?_ (by have := HSMI.out; omega) (by omega) HLA.out _ (fun w6 s6 os6 v6 h6 hn6 ha6 hl6 hb6 _ => ?_)
            · refine ⟨HROW.out.1, fun j hj => ?_⟩
              obtain ⟨y, e1, e2, e3⟩ := HROW.out.2 j hj
              exact ⟨y, e1, (World.cell?_of_block (w := wr) (Below.heap_alloc _ _ _ (by rw [add_block]; exact Nat.lt_trans (HLA.out y e1 (by omega)) HWR.out.lt))).trans e2, e3⟩
            have H6 := Lib.hid h6
            have HB6 : Hid (Frm wb L w v w6 v6) := Lib.hid (HBE.out.trans ((Frm.still _ ((Only.refl _ _ wr).alloc _) HWR.out.lt).trans hb6))
            have HN6 := Lib.hid (hn6.trans HN.out)
            clear h6 hb6 hn6
            go_wp2
            go_roundw
            case rel => exact ⟨i + 1, s6, os6, v6, by go_num, hgo.1, hgo.2, H6.out, HN6.out, by omega, by omega, HB6.out⟩
            case measure => simp [intOf]; omega
          · have H6 := Lib.hid (HWR.out.still ((Only.refl _ _ wr).alloc (.cells #[.int .i64 who, .int .i64 k, .int .i64 A, .int .i64 B, .int .i64 C, .slice la ll lc] 94)))
            have HB6 : Hid (Frm wb L w v (wr.alloc (.cells #[.int .i64 who, .int .i64 k, .int .i64 A, .int .i64 B, .int .i64 C, .slice la ll lc] 94)) v') := Lib.hid (HBE.out.trans (Frm.still _ ((Only.refl _ _ wr).alloc _) HWR.out.lt))
            go_wp2
            go_roundw
            case rel => exact ⟨i + 1, s', os', v', by go_num, hgo.1, hgo.2, H6.out, HN.out, by omega, by omega, HB6.out⟩
            case measure => simp [intOf]; omega
    · by_cases h1 : i < len
      · have g1 : decide ((i : Int) < (len : Int)) = true := decide_eq_true (by omega)
        have g2 : decide ((i : Int) < 120) = false := decide_eq_false (by omega)
        clear hgo
        go_wp2
        show Q (.returned (.bool true)) _
        exact HQ.out _ s' os' v' HWR.out HN.out (by omega) (by omega) HBE.out
      · have g1 : decide ((i : Int) < (len : Int)) = false := decide_eq_false (by omega)
        clear hgo
        go_wp2
        show Q (.returned (.bool true)) _
        exact HQ.out _ s' os' v' HWR.out HN.out (by omega) (by omega) HBE.out
end Go.Proofs.YtiniadochjeieaaDoor
