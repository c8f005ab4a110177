/-
  What a step makes of a space and its list, as a function; the walk of world.takes, told so. (Printed by gen_det.py.)
-/
import Derived.Test.YtiniadochjeieaaDoorQQ
namespace Go.Proofs.YtiniadochjeieaaDoor
open Go Go.RowKit

/-- A taking. -/
def tkF (x : St × List Ob) (k z t : Int) : St × List Ob :=
  if Sp.fits k z then
    (if (x.1.take z).2.2.1 = 0 then ((x.1.take z).1.put (x.1.take z).2.1.toNat k z t, x.2 ++ [⟨(x.1.take z).2.1.toNat, ⟨k, z, if Sp.numbered k then (x.1.take z).1.ser + 1 else 0, t⟩⟩])
     else ((x.1.take z).1, x.2))
  else x
theorem tkF_24 {s : St} {os : List Ob} {k z t : Int} (h : Sp.fits k z = false) : tkF (s, os) k z t = (s, os) := by
  unfold tkF; rw [h, if_neg (by decide)]
theorem tkF_20 {s s1 : St} {os : List Ob} {k z t : Int} (h : Sp.fits k z = true) (e : s.take z = (s1, 0, 20, 0)) : tkF (s, os) k z t = (s1, os) := by
  unfold tkF; rw [h, if_pos rfl, e, if_neg (by show ¬(20 : Int) = 0; decide)]
theorem tkF_ok {s s1 : St} {os : List Ob} {k z t : Int} {a : Nat} (h : Sp.fits k z = true) (e : s.take z = (s1, (a : Int), 0, 0)) : tkF (s, os) k z t = (s1.put a k z t, os ++ [⟨a, ⟨k, z, if Sp.numbered k then s1.ser + 1 else 0, t⟩⟩]) := by
  unfold tkF; rw [h, if_pos rfl, e, if_pos rfl]; rfl
/-- A writing. -/
def wrF (s : St) (o : Ob) (B C : Int) : St := if 1 ≤ B ∧ B < o.sh.z then { s with W := setW s.W (o.at' + B.toNat) C } else s
/-- A keeping. -/
def kpF (x : St × List Ob) (zs : Nat → Int) (ll : Nat) : St × List Ob :=
  (x.1.keep (stayTo (placesOf x.2 (ksOf zs x.2.length (if x.2.length = 0 then 0 else ll))) (placesOf x.2 (ksOf zs x.2.length (if x.2.length = 0 then 0 else ll))).length), leftTo x.2 (ksOf zs x.2.length (if x.2.length = 0 then 0 else ll)) x.2.length)
/-- A step of a script. -/
def opF (o : OpV) (x : St × List Ob) : St × List Ob :=
  if o.k = 1 then tkF x o.a o.b o.c
  else if o.k = 3 then (if x.2.length = 0 then x else (wrF x.1 (x.2.getD (wi o.a x.2.length).toNat ob0) o.b o.c, x.2))
  else if o.k = 7 then kpF x o.zs o.ll
  else x
def playF (ops : Nat → OpV) (x : St × List Ob) : Nat → St × List Ob
  | 0 => x
  | i + 1 => opF (ops i) (playF ops x i)
/-- Keep, and what it makes. -/
theorem keep_invF (w : World) (L : Lay) (s : St) (h : SpaceAt w L s) (hi : s.Inv) (v : Value) (zs : List Int) (hz : IntsAt w v zs) (hh : ∀ j, j < zs.length → s.has (zs.getD j 0) = true) (Q : Ending → World → Prop)
    (hQ : ∀ w' t, t = s.keep (stayTo zs zs.length) → s.Kept t (stayTo zs zs.length) → SpaceAt w' L t → Only L.lo L.hi w w' → Q (.returned (.tuple #[.int .i64 (Bm.cnt (fun x => s.B 0 x && !stayTo zs zs.length x) 0 (64 * s.n) : Nat), .int .i64 0])) w') :
    Calls Tryd.prog 29 #[.pointer (some ⟨L.sb, 0, none⟩), v] w Q := by
  obtain ⟨h1, h2⟩ := hi.keepOk h.actsle (stayTo zs zs.length)
  refine keep_ok w L s h v zs hz hh hi.fine h1 h2 Q fun w' hs ho => ?_
  rw [St.dropN_cnt hi.mid]
  exact hQ w' _ rfl (hi.keep _) hs ho
/-- Write, at an object of a law's world. -/
theorem ob_writeF (w : World) (L : Lay) (s : St) (wb : Nat) (os : List Ob) (v : Value) (hW : Wld w L s wb os v) (o : Ob) (ho : o ∈ os) (B C : Int) :
    Calls Tryd.prog 47 #[.pointer (some ⟨L.sb, 0, none⟩), .int .i64 (o.at' : Int), .int .i64 B, .int .i64 C] w fun e w' =>
      ∃ r1 r2 s', e = .returned (.agg #[.int .i64 r1, .int .i64 r2]) ∧ (decide (r1 = 0) = decide (1 ≤ B ∧ B < o.sh.z)) ∧ Wld w' L s' wb os v ∧ s'.n = s.n ∧ s'.acts = s.acts ∧ Only L.lo L.hi w w' ∧ s' = wrF s o B C := by
  obtain ⟨hb, hsh⟩ := hW.agree.here o ho
  have hf := hW.inv.fine
  have hchk := hW.inv.chk0 hb
  have hN := (hW.inv.obj _ hb).2.lt
  by_cases h : 1 ≤ B ∧ B < o.sh.z
  · obtain ⟨b, rfl⟩ := Int.eq_ofNat_of_zero_le (show 0 ≤ B by omega)
    have hwrd : s.wrd (o.at' : Int) (b : Int) = (0, 0) := by
      unfold St.wrd
      rw [hchk, if_pos rfl, hsh, if_neg (by omega)]
    have hin : o.at' + b < 64 * s.n := by
      have hob := hW.inv.obj _ hb
      have hz := hob.1
      have hw : (b : Int) < Sp.wide (s.sh o.at').z := by
        have hz1 := hz.2.2.2.2.1
        have hz2 := hz.2.2.2.2.2
        refine Int.lt_of_lt_of_le (b := (s.sh o.at').z) (by rw [hsh]; exact h.2) ?_
        rcases hob.2 with ⟨c, hc, hcz, _⟩ | ⟨h8, _⟩
        · rw [Sp.wide_blk hc hcz]
          exact Sp.cls_le hc hcz
        · rw [(Sp.wide_run h8).1]
          unfold Sp.pgs
          rw [if_pos h8]
          omega
      omega
    refine write_ok w L s hW.sp o.at' b C hf hwrd hin _ (fun w' hs hon => ⟨0, 0, _, rfl, ?_, hW.turned (hW.only hon hs) hs rfl rfl (hW.inv.write hb (by omega) (by rw [hsh]; exact h.2) C) ⟨hW.agree.here, hW.agree.all, hW.agree.once⟩, rfl, rfl, hon, (if_pos h).symm⟩)
    rw [decide_eq_true h]; rfl
  · have hwrd : s.wrd (o.at' : Int) B = (23, 0) := by
      unfold St.wrd
      rw [hchk, if_pos rfl, hsh, if_pos (by omega)]
    have h1 := write_bad w L s hW.sp o.at' B C (wf_of (by have := hW.sp.n2; omega)) hf (by rw [hwrd]; decide)
    rw [hwrd] at h1
    refine h1.mono ?_
    rintro e w' ⟨rfl, hs⟩
    refine ⟨23, 0, s, rfl, ?_, hW.still hs, rfl, rfl, hs.any _ _, (if_neg h).symm⟩
    rw [decide_eq_false h]; rfl
set_option maxRecDepth 100000 in
set_option maxHeartbeats 1600000 in
theorem takes_f (w : World) (L : Lay) (s : St) (wb : Nat) (os : List Ob) (v : Value) (hW : Wld w L s wb os v) (k z t : Int) (_hk : (Lit.int .i64 k).wf = true) (hz : (Lit.int .i64 z).wf = true) (ha : s.acts + 2 ≤ 1000000000000) (hl : os.length ≤ 1000000) (Q : Ending → World → Prop)
    (hQ : ∀ w' s' os' v', Wld w' L s' wb os' v' → s'.n = s.n → s'.acts ≤ s.acts + 2 → os'.length ≤ os.length + 1 → Frm wb L w v w' v' → (s', os') = tkF (s, os) k z t → Q (.returned (.bool true)) w') :
    Calls Tryd.prog 46 #[.pointer (some ⟨wb, 0, none⟩), .int .i64 k, .int .i64 z, .int .i64 t] w Q := by
  have HQ := Lib.hid hQ
  have HW := Lib.hid hW
  have c1 := hW.c1
  have hwl := hW.lt
  have HAL := Lib.hid (alloc_inv w L s hW.sp hW.inv k z t hz ha)
  clear hQ hW
  go_enter Tryd.func46, Tryd.ntmps46
  go_wp2_with fail
  refine HAL.out _ (fun hf w1 h1 ho => ?_) (fun l w1 hf e h1 hi ho => ?_) (fun s1 a w1 hf e htk h1 hi ho => ?_)
  · have HH := Lib.hid (HW.out.only ho h1)
    have H1 := Lib.hid h1
    have HO := Lib.hid ho
    have HE : Hid ((s, os) = tkF (s, os) k z t) := Lib.hid (tkF_24 hf).symm
    clear h1 ho
    go_wp2_with fail
    refine HQ.out _ s os v ((HW.out.turned HH.out H1.out rfl rfl HW.out.inv HW.out.agree).still ((Only.refl _ _ w1).alloc _)) rfl (by omega) (by omega) ?_ HE.out
    exact Frm.space v (HO.out.alloc _) HW.out.lo HW.out.loLe
  · have HH := Lib.hid (HW.out.only ho h1)
    have H1 := Lib.hid h1
    have HO := Lib.hid ho
    have HI := Lib.hid hi
    have HE : Hid ((({ s with low := l } : St), os) = tkF (s, os) k z t) := Lib.hid (tkF_20 hf e).symm
    clear h1 ho e hi
    go_wp2_with fail
    refine HQ.out _ _ os v ((HW.out.turned HH.out H1.out rfl rfl HI.out ⟨HW.out.agree.here, HW.out.agree.all, HW.out.agree.once⟩).still ((Only.refl _ _ w1).alloc _)) rfl (Nat.le_add_right _ _) (by omega) ?_ HE.out
    exact Frm.space v (HO.out.alloc _) HW.out.lo HW.out.loLe
  · have HH := Lib.hid (HW.out.only ho h1)
    have H1 := Lib.hid h1
    have HO := Lib.hid ho
    have HI := Lib.hid hi
    have HT := Lib.hid htk
    have HAG := Lib.hid (HW.out.agree.put htk k t)
    have HE : Hid ((s1.put a k z t, os ++ [⟨a, ⟨k, z, if Sp.numbered k then s1.ser + 1 else 0, t⟩⟩]) = tkF (s, os) k z t) := Lib.hid (tkF_ok hf e).symm
    have hb1 : w1.heap[wb]? = _ := HH.out.1.trans HW.out.head
    have HB1 := Lib.hid hb1
    have HHAS : Hid ((s1.put a k z t).has (a : Int) = true) := Lib.hid (by unfold St.has; rw [decide_eq_true (by omega), Int.toNat_natCast, put_has, if_pos rfl]; rfl)
    have haI : (a : Int) < 262144 := by have h2 := htk.fit.lt.2; have h3 := h1.n2; have h3 : s1.n ≤ 4096 := h3; omega
    have ha0 : (0 : Int) ≤ (a : Int) := by omega
    have HBLK := Lib.hid (fun w' (hw : SpaceAt w' L (s1.put a k z t)) => block_yes w' L _ hw (a : Int) (wf_of (by omega)) HHAS.out)
    rw [put_sh, if_pos rfl] at HBLK
    have hs0 := HW.out.inv.ser0
    have hs1 := HW.out.inv.ser1
    have hsb : s.ser ≤ 1000000000000 := by omega
    have hfz : ∀ j, w1.frozen? ⟨wb, j, none⟩ = false := fun j => frozen_of hb1 j
    have d1 := cell_of (v := .pointer (some ⟨L.sb, 0, none⟩)) hb1 1 rfl
    have d2 := cell_of (v := v) hb1 2 rfl
    have d3 := cell_of (v := .int .i64 s.ser) hb1 3 rfl
    have f3 := hfz 3
    have hwl1 := (Array.getElem?_eq_some_iff.1 hb1).1
    clear h1 ho e hi htk hb1 hfz
    by_cases hnum : 1 ≤ k ∧ k ≤ 11
    · have n1 : decide (1 ≤ k) = true := decide_eq_true hnum.1
      have n2 : decide (k ≤ 11) = true := decide_eq_true hnum.2
      have hnb : Sp.numbered k = true := by unfold Sp.numbered; rw [n1, n2]; rfl
      have hwr : IntKind.i64.wrap (s.ser + 1) = s.ser + 1 := by rw [IntKind.wrap_i64]; omega
      have HNB := Lib.hid hnb
      rw [hnb, if_pos rfl, HT.out.ser] at HBLK
      rw [hnb, if_pos rfl, HT.out.ser] at HAG
      clear hnum hnb
      go_wp2_with fail
      have HHF : Hid (Half (w1.setCell ⟨wb, 3, none⟩ (.int .i64 (s.ser + 1))) L (s1.put a k z t) wb os v) := Lib.hid (by
        have e : (s1.put a k z t).ser = s.ser + 1 := by show (if Sp.numbered k then s1.ser + 1 else s1.ser) = _; rw [HNB.out, if_pos rfl, HT.out.ser]
        have := Half.ser (t := s1.put a k z t) HW.out.pos HW.out.lo HB1.out HH.out.2 H1.out HT.out.n
        rw [e] at this
        exact this)
      have HBW : Hid (Frm wb L w v (w1.setCell ⟨wb, 3, none⟩ (.int .i64 (s.ser + 1))) v) := Lib.hid ((Frm.space v HO.out HW.out.lo HW.out.loLe).trans (Frm.own w1 v hwl1 3 _))
      have hwb : (w1.setCell ⟨wb, 3, none⟩ (.int .i64 (s.ser + 1))).heap.size = w1.heap.size := by simp [World.setCell]
      generalize hWg : w1.setCell ⟨wb, 3, none⟩ (.int .i64 (s.ser + 1)) = W at *
      have HWS := Lib.hid hwb
      have hb2 : ((W.alloc (.cells #[.int .i64 0, .int .i64 0] 56)).alloc (.cells #[.int .i64 (a : Int), .int .i64 k, .int .i64 z, .int .i64 (s.ser + 1), .int .i64 t] 34)).heap[w1.heap.size + 1]? = some (.cells #[.int .i64 (a : Int), .int .i64 k, .int .i64 z, .int .i64 (s.ser + 1), .int .i64 t] 34) := by
        have := heap_alloc_new (W.alloc (.cells #[.int .i64 0, .int .i64 0] 56)) (.cells #[.int .i64 (a : Int), .int .i64 k, .int .i64 z, .int .i64 (s.ser + 1), .int .i64 t] 34)
        rw [World.size_alloc, hwb] at this
        exact this
      have hst2 : Still W ((W.alloc (.cells #[.int .i64 0, .int .i64 0] 56)).alloc (.cells #[.int .i64 (a : Int), .int .i64 k, .int .i64 z, .int .i64 (s.ser + 1), .int .i64 t] 34)) := ((Only.refl _ _ W).alloc _).alloc _
      generalize (W.alloc (.cells #[.int .i64 0, .int .i64 0] 56)).alloc (.cells #[.int .i64 (a : Int), .int .i64 k, .int .i64 z, .int .i64 (s.ser + 1), .int .i64 t] 34) = w2 at *
      have HST2 := Lib.hid hst2
      have HB2 := Lib.hid hb2
      clear hst2 hb2 hwb hWg
      refine (HBLK.out w2 (HHF.out.still HST2.out).sp).mono ?_
      rintro e w3 ⟨rfl, hs3⟩
      go_wp2_with fail
      have hb3 := heap_alloc_new w3 (.cells #[.int .i64 (a : Int), .int .i64 k, .int .i64 z, .int .i64 (s.ser + 1), .int .i64 t] 34)
      have hl2 := (Array.getElem?_eq_some_iff.1 HB2.out).1
      have hst4 : Still w2 (w3.alloc (.cells #[.int .i64 (a : Int), .int .i64 k, .int .i64 z, .int .i64 (s.ser + 1), .int .i64 t] 34)) := hs3.alloc _
      have HST4 := Lib.hid (Still.trans HST2.out hst4)
      have hb4 := (hst4.block _ hl2 (.inl hl2)).trans HB2.out
      have HSZ : Hid (w3.heap.size < (w3.alloc (.cells #[.int .i64 (a : Int), .int .i64 k, .int .i64 z, .int .i64 (s.ser + 1), .int .i64 t] 34)).heap.size) := Lib.hid (by simp)
      have HS3 : Hid (w1.heap.size + 1 < w3.heap.size) := Lib.hid (Nat.lt_of_lt_of_le hl2 hs3.size)
      generalize w3.alloc (.cells #[.int .i64 (a : Int), .int .i64 k, .int .i64 z, .int .i64 (s.ser + 1), .int .i64 t] 34) = w4 at *
      have HH4 := Lib.hid (HHF.out.still HST4.out)
      obtain ⟨v', w5, happ, hown, ho5, hs5, hk5, hkv⟩ := ob_append w4.drew L.hi os v HH4.out.row.drew HH4.out.sp.top hl ⟨a, ⟨k, z, (s.ser + 1), t⟩⟩
      have hh4 : w4.heap[wb]? = _ := HH4.out.head
      have x2 : w4.cell? ⟨wb, 2, none⟩ = some v := cell_of hh4 2 rfl
      have hwl4 := (Array.getElem?_eq_some_iff.1 hh4).1
      have y0 := cell_of (v := .int .i64 (a : Int)) hb4 0 rfl
      have y1 := cell_of (v := .int .i64 k) hb4 1 rfl
      have y2 := cell_of (v := .int .i64 z) hb4 2 rfl
      have y3 := cell_of (v := .int .i64 (s.ser + 1)) hb4 3 rfl
      have y4 := cell_of (v := .int .i64 t) hb4 4 rfl
      have hlo := HH4.out.lo
      have hlh : L.lo ≤ L.hi := by have := HH4.out.sp.ok.inn 0 (by omega); omega
      have hb5 : w5.heap[wb]? = w4.heap[wb]? := ho5.block wb hwl4 (.inl (by omega))
      have z2 : w5.cell? ⟨wb, 2, none⟩ = some v := cell_of (hb5.trans hh4) 2 rfl
      have zf : w5.frozen? ⟨wb, 2, none⟩ = false := frozen_of (hb5.trans hh4) 2
      have hwl5 : wb < w5.heap.size := Nat.lt_trans hwl4 hs5
      have HAPP := Lib.hid happ
      have HOWN := Lib.hid hown
      have HO5 := Lib.hid ho5
      have hsl : ∃ ao ln cp, v' = .slice ao ln cp := by
        rcases hown.2 with ⟨rfl, _⟩ | ⟨g, cap, cur, rfl, _⟩
        · exact ⟨_, _, _, rfl⟩
        · exact ⟨_, _, _, rfl⟩
      obtain ⟨ao, ln, cp, rfl⟩ := hsl
      have hg : ∀ g, v.ownBlock = some g → g < w.heap.size := fun g hg => (HW.out.row.lt g hg).2
      have hws : w.heap.size ≤ w1.heap.size := HO.out.size
      have HKA : Hid (w5.heap[w1.heap.size + 1]? = some (.cells #[.int .i64 (a : Int), .int .i64 k, .int .i64 z, .int .i64 (s.ser + 1), .int .i64 t] 34) ∧ w5.heap[w3.heap.size]? = some (.cells #[.int .i64 (a : Int), .int .i64 k, .int .i64 z, .int .i64 (s.ser + 1), .int .i64 t] 34)) := Lib.hid
        ⟨(hk5 _ (Array.getElem?_eq_some_iff.1 hb4).1 (fun e => by have := hg _ e; omega)).trans hb4, (hk5 _ HSZ.out (fun e => by have := hg _ e; have := HS3.out; omega)).trans hb3⟩
      have HK5 := Lib.hid hk5
      have HKV := Lib.hid hkv
      clear happ hown ho5 hb5 hk5 hkv
      go_region_law (first | (refine step_append_eq rfl (.tmp 81) (.tmp 83) 28 rfl v (.slice (some ⟨w4.heap.size, 0, none⟩) 1 1) (.slice ao ln cp) w5 rfl rfl HAPP.out ?_))
      all_goals
        have hq2 : (w5.setCell ⟨wb, 2, none⟩ (.slice ao ln cp)).heap[w1.heap.size + 1]? = some (.cells #[.int .i64 (a : Int), .int .i64 k, .int .i64 z, .int .i64 (s.ser + 1), .int .i64 t] 34) := by
          rw [Below.heap_setCell _ _ _ _ (by show w1.heap.size + 1 ≠ wb; omega)]
          exact HKA.out.1
        have hq3 : (w5.setCell ⟨wb, 2, none⟩ (.slice ao ln cp)).heap[w3.heap.size]? = some (.cells #[.int .i64 (a : Int), .int .i64 k, .int .i64 z, .int .i64 (s.ser + 1), .int .i64 t] 34) := by
          rw [Below.heap_setCell _ _ _ _ (by show w3.heap.size ≠ wb; have := HS3.out; omega)]
          exact HKA.out.2
        have hfin : Wld (w5.setCell ⟨wb, 2, none⟩ (.slice ao ln cp)) L (s1.put a k z t) wb (os ++ [⟨a, ⟨k, z, s.ser + 1, t⟩⟩]) (.slice ao ln cp) := (HH4.out.still (Only.refl _ _ w4).drew).up HO5.out HOWN.out HI.out HAG.out
        have hbel : Frm wb L w v (w5.setCell ⟨wb, 2, none⟩ (.slice ao ln cp)) (.slice ao ln cp) :=
          HBW.out.trans ((Frm.still v HST4.out HHF.out.lt).trans ((Frm.app HO5.out (by omega) HH4.out.sp.top HK5.out HKV.out).trans (Frm.own w5 _ hwl5 2 _)))
        generalize w5.setCell ⟨wb, 2, none⟩ (.slice ao ln cp) = w6 at *
        have p0 := cell_of (v := .int .i64 (a : Int)) hq2 0 rfl
        have p1 := cell_of (v := .int .i64 k) hq2 1 rfl
        have p2 := cell_of (v := .int .i64 z) hq2 2 rfl
        have p3 := cell_of (v := .int .i64 (s.ser + 1)) hq2 3 rfl
        have p4 := cell_of (v := .int .i64 t) hq2 4 rfl
        have q0 := cell_of (v := .int .i64 (a : Int)) hq3 0 rfl
        have q1 := cell_of (v := .int .i64 k) hq3 1 rfl
        have q2 := cell_of (v := .int .i64 z) hq3 2 rfl
        have q3 := cell_of (v := .int .i64 (s.ser + 1)) hq3 3 rfl
        have q4 := cell_of (v := .int .i64 t) hq3 4 rfl
        have HFIN := Lib.hid hfin
        have HBEL := Lib.hid hbel
        clear hfin hbel hq2 hq3
        go_wp2_with fail
        exact HQ.out w6 _ _ _ HFIN.out HT.out.n (by show s1.acts + 2 ≤ _; rw [HT.out.acts]; exact Nat.le_refl _) (by simp) HBEL.out (by have h := HE.out; rw [HNB.out, if_pos rfl, HT.out.ser] at h; exact h)
    · have hnb : Sp.numbered k = false := by
        unfold Sp.numbered
        by_cases h1 : 1 ≤ k
        · rw [decide_eq_false (p := k ≤ 11) (by omega), Bool.and_false]
        · rw [decide_eq_false h1]; rfl
      have HNB := Lib.hid hnb
      rw [hnb, if_neg (by decide)] at HBLK HAG
      have hkk : (1 ≤ k ∧ ¬k ≤ 11) ∨ ¬1 ≤ k := by omega
      clear hnum hnb
      rcases hkk with ⟨h1, h2⟩ | h1
      · have n1 : decide (1 ≤ k) = true := decide_eq_true h1
        have n2 : decide (k ≤ 11) = false := decide_eq_false h2
        clear h1 h2
        go_wp2_with fail
        have HHF : Hid (Half w1 L (s1.put a k z t) wb os v) := Lib.hid (by
          have e : (s1.put a k z t).ser = s.ser := by show (if Sp.numbered k then s1.ser + 1 else s1.ser) = _; rw [HNB.out, if_neg (by decide), HT.out.ser]
          refine ⟨HW.out.pos, HW.out.lo, ?_, HH.out.2, H1.out⟩
          rw [e, HB1.out, show (s1.put a k z t).n = s.n from HT.out.n])
        have HBW : Hid (Frm wb L w v w1 v) := Lib.hid (Frm.space v HO.out HW.out.lo HW.out.loLe)
        have hwb : w1.heap.size = w1.heap.size := rfl
        have HWS := Lib.hid hwb
        have hb2 : ((w1.alloc (.cells #[.int .i64 0, .int .i64 0] 56)).alloc (.cells #[.int .i64 (a : Int), .int .i64 k, .int .i64 z, .int .i64 0, .int .i64 t] 34)).heap[w1.heap.size + 1]? = some (.cells #[.int .i64 (a : Int), .int .i64 k, .int .i64 z, .int .i64 0, .int .i64 t] 34) := by
          have := heap_alloc_new (w1.alloc (.cells #[.int .i64 0, .int .i64 0] 56)) (.cells #[.int .i64 (a : Int), .int .i64 k, .int .i64 z, .int .i64 0, .int .i64 t] 34)
          rw [World.size_alloc] at this
          exact this
        have hst2 : Still w1 ((w1.alloc (.cells #[.int .i64 0, .int .i64 0] 56)).alloc (.cells #[.int .i64 (a : Int), .int .i64 k, .int .i64 z, .int .i64 0, .int .i64 t] 34)) := ((Only.refl _ _ w1).alloc _).alloc _
        generalize (w1.alloc (.cells #[.int .i64 0, .int .i64 0] 56)).alloc (.cells #[.int .i64 (a : Int), .int .i64 k, .int .i64 z, .int .i64 0, .int .i64 t] 34) = w2 at *
        have HST2 := Lib.hid hst2
        have HB2 := Lib.hid hb2
        clear hst2 hb2 hwb
        refine (HBLK.out w2 (HHF.out.still HST2.out).sp).mono ?_
        rintro e w3 ⟨rfl, hs3⟩
        go_wp2_with fail
        have hb3 := heap_alloc_new w3 (.cells #[.int .i64 (a : Int), .int .i64 k, .int .i64 z, .int .i64 0, .int .i64 t] 34)
        have hl2 := (Array.getElem?_eq_some_iff.1 HB2.out).1
        have hst4 : Still w2 (w3.alloc (.cells #[.int .i64 (a : Int), .int .i64 k, .int .i64 z, .int .i64 0, .int .i64 t] 34)) := hs3.alloc _
        have HST4 := Lib.hid (Still.trans HST2.out hst4)
        have hb4 := (hst4.block _ hl2 (.inl hl2)).trans HB2.out
        have HSZ : Hid (w3.heap.size < (w3.alloc (.cells #[.int .i64 (a : Int), .int .i64 k, .int .i64 z, .int .i64 0, .int .i64 t] 34)).heap.size) := Lib.hid (by simp)
        have HS3 : Hid (w1.heap.size + 1 < w3.heap.size) := Lib.hid (Nat.lt_of_lt_of_le hl2 hs3.size)
        generalize w3.alloc (.cells #[.int .i64 (a : Int), .int .i64 k, .int .i64 z, .int .i64 0, .int .i64 t] 34) = w4 at *
        have HH4 := Lib.hid (HHF.out.still HST4.out)
        obtain ⟨v', w5, happ, hown, ho5, hs5, hk5, hkv⟩ := ob_append w4.drew L.hi os v HH4.out.row.drew HH4.out.sp.top hl ⟨a, ⟨k, z, 0, t⟩⟩
        have hh4 : w4.heap[wb]? = _ := HH4.out.head
        have x2 : w4.cell? ⟨wb, 2, none⟩ = some v := cell_of hh4 2 rfl
        have hwl4 := (Array.getElem?_eq_some_iff.1 hh4).1
        have y0 := cell_of (v := .int .i64 (a : Int)) hb4 0 rfl
        have y1 := cell_of (v := .int .i64 k) hb4 1 rfl
        have y2 := cell_of (v := .int .i64 z) hb4 2 rfl
        have y3 := cell_of (v := .int .i64 0) hb4 3 rfl
        have y4 := cell_of (v := .int .i64 t) hb4 4 rfl
        have hlo := HH4.out.lo
        have hlh : L.lo ≤ L.hi := by have := HH4.out.sp.ok.inn 0 (by omega); omega
        have hb5 : w5.heap[wb]? = w4.heap[wb]? := ho5.block wb hwl4 (.inl (by omega))
        have z2 : w5.cell? ⟨wb, 2, none⟩ = some v := cell_of (hb5.trans hh4) 2 rfl
        have zf : w5.frozen? ⟨wb, 2, none⟩ = false := frozen_of (hb5.trans hh4) 2
        have hwl5 : wb < w5.heap.size := Nat.lt_trans hwl4 hs5
        have HAPP := Lib.hid happ
        have HOWN := Lib.hid hown
        have HO5 := Lib.hid ho5
        have hsl : ∃ ao ln cp, v' = .slice ao ln cp := by
          rcases hown.2 with ⟨rfl, _⟩ | ⟨g, cap, cur, rfl, _⟩
          · exact ⟨_, _, _, rfl⟩
          · exact ⟨_, _, _, rfl⟩
        obtain ⟨ao, ln, cp, rfl⟩ := hsl
        have hg : ∀ g, v.ownBlock = some g → g < w.heap.size := fun g hg => (HW.out.row.lt g hg).2
        have hws : w.heap.size ≤ w1.heap.size := HO.out.size
        have HKA : Hid (w5.heap[w1.heap.size + 1]? = some (.cells #[.int .i64 (a : Int), .int .i64 k, .int .i64 z, .int .i64 0, .int .i64 t] 34) ∧ w5.heap[w3.heap.size]? = some (.cells #[.int .i64 (a : Int), .int .i64 k, .int .i64 z, .int .i64 0, .int .i64 t] 34)) := Lib.hid
          ⟨(hk5 _ (Array.getElem?_eq_some_iff.1 hb4).1 (fun e => by have := hg _ e; omega)).trans hb4, (hk5 _ HSZ.out (fun e => by have := hg _ e; have := HS3.out; omega)).trans hb3⟩
        have HK5 := Lib.hid hk5
        have HKV := Lib.hid hkv
        clear happ hown ho5 hb5 hk5 hkv
        go_region_law (first | (refine step_append_eq rfl (.tmp 81) (.tmp 83) 28 rfl v (.slice (some ⟨w4.heap.size, 0, none⟩) 1 1) (.slice ao ln cp) w5 rfl rfl HAPP.out ?_))
        all_goals
          have hq2 : (w5.setCell ⟨wb, 2, none⟩ (.slice ao ln cp)).heap[w1.heap.size + 1]? = some (.cells #[.int .i64 (a : Int), .int .i64 k, .int .i64 z, .int .i64 0, .int .i64 t] 34) := by
            rw [Below.heap_setCell _ _ _ _ (by show w1.heap.size + 1 ≠ wb; omega)]
            exact HKA.out.1
          have hq3 : (w5.setCell ⟨wb, 2, none⟩ (.slice ao ln cp)).heap[w3.heap.size]? = some (.cells #[.int .i64 (a : Int), .int .i64 k, .int .i64 z, .int .i64 0, .int .i64 t] 34) := by
            rw [Below.heap_setCell _ _ _ _ (by show w3.heap.size ≠ wb; have := HS3.out; omega)]
            exact HKA.out.2
          have hfin : Wld (w5.setCell ⟨wb, 2, none⟩ (.slice ao ln cp)) L (s1.put a k z t) wb (os ++ [⟨a, ⟨k, z, 0, t⟩⟩]) (.slice ao ln cp) := (HH4.out.still (Only.refl _ _ w4).drew).up HO5.out HOWN.out HI.out HAG.out
          have hbel : Frm wb L w v (w5.setCell ⟨wb, 2, none⟩ (.slice ao ln cp)) (.slice ao ln cp) :=
            HBW.out.trans ((Frm.still v HST4.out HHF.out.lt).trans ((Frm.app HO5.out (by omega) HH4.out.sp.top HK5.out HKV.out).trans (Frm.own w5 _ hwl5 2 _)))
          generalize w5.setCell ⟨wb, 2, none⟩ (.slice ao ln cp) = w6 at *
          have p0 := cell_of (v := .int .i64 (a : Int)) hq2 0 rfl
          have p1 := cell_of (v := .int .i64 k) hq2 1 rfl
          have p2 := cell_of (v := .int .i64 z) hq2 2 rfl
          have p3 := cell_of (v := .int .i64 0) hq2 3 rfl
          have p4 := cell_of (v := .int .i64 t) hq2 4 rfl
          have q0 := cell_of (v := .int .i64 (a : Int)) hq3 0 rfl
          have q1 := cell_of (v := .int .i64 k) hq3 1 rfl
          have q2 := cell_of (v := .int .i64 z) hq3 2 rfl
          have q3 := cell_of (v := .int .i64 0) hq3 3 rfl
          have q4 := cell_of (v := .int .i64 t) hq3 4 rfl
          have HFIN := Lib.hid hfin
          have HBEL := Lib.hid hbel
          clear hfin hbel hq2 hq3
          go_wp2_with fail
          exact HQ.out w6 _ _ _ HFIN.out HT.out.n (by show s1.acts + 2 ≤ _; rw [HT.out.acts]; exact Nat.le_refl _) (by simp) HBEL.out (by have h := HE.out; rw [HNB.out, if_neg (by decide)] at h; exact h)
      · have n1 : decide (1 ≤ k) = false := decide_eq_false h1
        clear h1
        go_wp2_with fail
        have HHF : Hid (Half w1 L (s1.put a k z t) wb os v) := Lib.hid (by
          have e : (s1.put a k z t).ser = s.ser := by show (if Sp.numbered k then s1.ser + 1 else s1.ser) = _; rw [HNB.out, if_neg (by decide), HT.out.ser]
          refine ⟨HW.out.pos, HW.out.lo, ?_, HH.out.2, H1.out⟩
          rw [e, HB1.out, show (s1.put a k z t).n = s.n from HT.out.n])
        have HBW : Hid (Frm wb L w v w1 v) := Lib.hid (Frm.space v HO.out HW.out.lo HW.out.loLe)
        have hwb : w1.heap.size = w1.heap.size := rfl
        have HWS := Lib.hid hwb
        have hb2 : ((w1.alloc (.cells #[.int .i64 0, .int .i64 0] 56)).alloc (.cells #[.int .i64 (a : Int), .int .i64 k, .int .i64 z, .int .i64 0, .int .i64 t] 34)).heap[w1.heap.size + 1]? = some (.cells #[.int .i64 (a : Int), .int .i64 k, .int .i64 z, .int .i64 0, .int .i64 t] 34) := by
          have := heap_alloc_new (w1.alloc (.cells #[.int .i64 0, .int .i64 0] 56)) (.cells #[.int .i64 (a : Int), .int .i64 k, .int .i64 z, .int .i64 0, .int .i64 t] 34)
          rw [World.size_alloc] at this
          exact this
        have hst2 : Still w1 ((w1.alloc (.cells #[.int .i64 0, .int .i64 0] 56)).alloc (.cells #[.int .i64 (a : Int), .int .i64 k, .int .i64 z, .int .i64 0, .int .i64 t] 34)) := ((Only.refl _ _ w1).alloc _).alloc _
        generalize (w1.alloc (.cells #[.int .i64 0, .int .i64 0] 56)).alloc (.cells #[.int .i64 (a : Int), .int .i64 k, .int .i64 z, .int .i64 0, .int .i64 t] 34) = w2 at *
        have HST2 := Lib.hid hst2
        have HB2 := Lib.hid hb2
        clear hst2 hb2 hwb
        refine (HBLK.out w2 (HHF.out.still HST2.out).sp).mono ?_
        rintro e w3 ⟨rfl, hs3⟩
        go_wp2_with fail
        have hb3 := heap_alloc_new w3 (.cells #[.int .i64 (a : Int), .int .i64 k, .int .i64 z, .int .i64 0, .int .i64 t] 34)
        have hl2 := (Array.getElem?_eq_some_iff.1 HB2.out).1
        have hst4 : Still w2 (w3.alloc (.cells #[.int .i64 (a : Int), .int .i64 k, .int .i64 z, .int .i64 0, .int .i64 t] 34)) := hs3.alloc _
        have HST4 := Lib.hid (Still.trans HST2.out hst4)
        have hb4 := (hst4.block _ hl2 (.inl hl2)).trans HB2.out
        have HSZ : Hid (w3.heap.size < (w3.alloc (.cells #[.int .i64 (a : Int), .int .i64 k, .int .i64 z, .int .i64 0, .int .i64 t] 34)).heap.size) := Lib.hid (by simp)
        have HS3 : Hid (w1.heap.size + 1 < w3.heap.size) := Lib.hid (Nat.lt_of_lt_of_le hl2 hs3.size)
        generalize w3.alloc (.cells #[.int .i64 (a : Int), .int .i64 k, .int .i64 z, .int .i64 0, .int .i64 t] 34) = w4 at *
        have HH4 := Lib.hid (HHF.out.still HST4.out)
        obtain ⟨v', w5, happ, hown, ho5, hs5, hk5, hkv⟩ := ob_append w4.drew L.hi os v HH4.out.row.drew HH4.out.sp.top hl ⟨a, ⟨k, z, 0, t⟩⟩
        have hh4 : w4.heap[wb]? = _ := HH4.out.head
        have x2 : w4.cell? ⟨wb, 2, none⟩ = some v := cell_of hh4 2 rfl
        have hwl4 := (Array.getElem?_eq_some_iff.1 hh4).1
        have y0 := cell_of (v := .int .i64 (a : Int)) hb4 0 rfl
        have y1 := cell_of (v := .int .i64 k) hb4 1 rfl
        have y2 := cell_of (v := .int .i64 z) hb4 2 rfl
        have y3 := cell_of (v := .int .i64 0) hb4 3 rfl
        have y4 := cell_of (v := .int .i64 t) hb4 4 rfl
        have hlo := HH4.out.lo
        have hlh : L.lo ≤ L.hi := by have := HH4.out.sp.ok.inn 0 (by omega); omega
        have hb5 : w5.heap[wb]? = w4.heap[wb]? := ho5.block wb hwl4 (.inl (by omega))
        have z2 : w5.cell? ⟨wb, 2, none⟩ = some v := cell_of (hb5.trans hh4) 2 rfl
        have zf : w5.frozen? ⟨wb, 2, none⟩ = false := frozen_of (hb5.trans hh4) 2
        have hwl5 : wb < w5.heap.size := Nat.lt_trans hwl4 hs5
        have HAPP := Lib.hid happ
        have HOWN := Lib.hid hown
        have HO5 := Lib.hid ho5
        have hsl : ∃ ao ln cp, v' = .slice ao ln cp := by
          rcases hown.2 with ⟨rfl, _⟩ | ⟨g, cap, cur, rfl, _⟩
          · exact ⟨_, _, _, rfl⟩
          · exact ⟨_, _, _, rfl⟩
        obtain ⟨ao, ln, cp, rfl⟩ := hsl
        have hg : ∀ g, v.ownBlock = some g → g < w.heap.size := fun g hg => (HW.out.row.lt g hg).2
        have hws : w.heap.size ≤ w1.heap.size := HO.out.size
        have HKA : Hid (w5.heap[w1.heap.size + 1]? = some (.cells #[.int .i64 (a : Int), .int .i64 k, .int .i64 z, .int .i64 0, .int .i64 t] 34) ∧ w5.heap[w3.heap.size]? = some (.cells #[.int .i64 (a : Int), .int .i64 k, .int .i64 z, .int .i64 0, .int .i64 t] 34)) := Lib.hid
          ⟨(hk5 _ (Array.getElem?_eq_some_iff.1 hb4).1 (fun e => by have := hg _ e; omega)).trans hb4, (hk5 _ HSZ.out (fun e => by have := hg _ e; have := HS3.out; omega)).trans hb3⟩
        have HK5 := Lib.hid hk5
        have HKV := Lib.hid hkv
        clear happ hown ho5 hb5 hk5 hkv
        go_region_law (first | (refine step_append_eq rfl (.tmp 81) (.tmp 83) 28 rfl v (.slice (some ⟨w4.heap.size, 0, none⟩) 1 1) (.slice ao ln cp) w5 rfl rfl HAPP.out ?_))
        all_goals
          have hq2 : (w5.setCell ⟨wb, 2, none⟩ (.slice ao ln cp)).heap[w1.heap.size + 1]? = some (.cells #[.int .i64 (a : Int), .int .i64 k, .int .i64 z, .int .i64 0, .int .i64 t] 34) := by
            rw [Below.heap_setCell _ _ _ _ (by show w1.heap.size + 1 ≠ wb; omega)]
            exact HKA.out.1
          have hq3 : (w5.setCell ⟨wb, 2, none⟩ (.slice ao ln cp)).heap[w3.heap.size]? = some (.cells #[.int .i64 (a : Int), .int .i64 k, .int .i64 z, .int .i64 0, .int .i64 t] 34) := by
            rw [Below.heap_setCell _ _ _ _ (by show w3.heap.size ≠ wb; have := HS3.out; omega)]
            exact HKA.out.2
          have hfin : Wld (w5.setCell ⟨wb, 2, none⟩ (.slice ao ln cp)) L (s1.put a k z t) wb (os ++ [⟨a, ⟨k, z, 0, t⟩⟩]) (.slice ao ln cp) := (HH4.out.still (Only.refl _ _ w4).drew).up HO5.out HOWN.out HI.out HAG.out
          have hbel : Frm wb L w v (w5.setCell ⟨wb, 2, none⟩ (.slice ao ln cp)) (.slice ao ln cp) :=
            HBW.out.trans ((Frm.still v HST4.out HHF.out.lt).trans ((Frm.app HO5.out (by omega) HH4.out.sp.top HK5.out HKV.out).trans (Frm.own w5 _ hwl5 2 _)))
          generalize w5.setCell ⟨wb, 2, none⟩ (.slice ao ln cp) = w6 at *
          have p0 := cell_of (v := .int .i64 (a : Int)) hq2 0 rfl
          have p1 := cell_of (v := .int .i64 k) hq2 1 rfl
          have p2 := cell_of (v := .int .i64 z) hq2 2 rfl
          have p3 := cell_of (v := .int .i64 0) hq2 3 rfl
          have p4 := cell_of (v := .int .i64 t) hq2 4 rfl
          have q0 := cell_of (v := .int .i64 (a : Int)) hq3 0 rfl
          have q1 := cell_of (v := .int .i64 k) hq3 1 rfl
          have q2 := cell_of (v := .int .i64 z) hq3 2 rfl
          have q3 := cell_of (v := .int .i64 0) hq3 3 rfl
          have q4 := cell_of (v := .int .i64 t) hq3 4 rfl
          have HFIN := Lib.hid hfin
          have HBEL := Lib.hid hbel
          clear hfin hbel hq2 hq3
          go_wp2_with fail
          exact HQ.out w6 _ _ _ HFIN.out HT.out.n (by show s1.acts + 2 ≤ _; rw [HT.out.acts]; exact Nat.le_refl _) (by simp) HBEL.out (by have h := HE.out; rw [HNB.out, if_neg (by decide)] at h; exact h)
end Go.Proofs.YtiniadochjeieaaDoor

namespace Go.Proofs.YtiniadochjeieaaDoor
open Go Go.RowKit

set_option maxRecDepth 100000 in
set_option maxHeartbeats 1600000 in
theorem keeps_f (w : World) (L : Lay) (s : St) (wb : Nat) (os : List Ob) (v : Value) (hW : Wld w L s wb os v) (la : Option Addr) (ll lc : Nat) (zs : Nat → Int) (hz : IsRowI w la ll lc zs) (hll : ll ≤ 1000) (hl : os.length ≤ 1000000) (hlt : ∀ x, la = some x → 0 < ll → x.block < wb) (Q : Ending → World → Prop)
    (hQ : ∀ w' s' os' v', Wld w' L s' wb os' v' → s'.n = s.n → s'.acts ≤ s.acts → os'.length ≤ os.length → Frm wb L w v w' v' → (∃ stay, s.Kept s' stay) → (s', os') = kpF (s, os) zs ll → Q (.returned (.bool true)) w') :
    Calls Tryd.prog 30 #[.pointer (some ⟨wb, 0, none⟩), .slice la ll lc] w Q := by
  have HQ := Lib.hid hQ
  have HW := Lib.hid hW
  have HZ := Lib.hid hz
  have HLT := Lib.hid hlt
  have c1 := hW.c1
  have c2 := hW.c2
  have hwl := hW.lt
  obtain ⟨ao, cp, hv⟩ : ∃ ao cp, v = .slice ao os.length cp := by
    rcases hW.row.2 with ⟨h1, h2⟩ | ⟨g, cap, cur, h1, _⟩
    · rw [h2]; exact ⟨_, _, h1⟩
    · exact ⟨_, _, h1⟩
  subst hv
  obtain ⟨n, hn⟩ : ∃ n, os.length = n := ⟨_, rfl⟩
  have HN := Lib.hid hn
  rw [hn] at c2
  have hnI : (n : Int) ≤ 1000000 := by omega
  have hn0 : (0 : Int) ≤ (n : Int) := by omega
  have hlI : (ll : Int) ≤ 1000 := by omega
  clear hQ hW hz hlt hn
  go_enter Tryd.func30, Tryd.ntmps30
  have HMK := Lib.hid (make_bools n (by omega))
  have hmk := HMK.out w
  go_wp2_with fail
  have hB0 := heap_alloc_new w (.cells (boolCells [] n) 4)
  have hs1 : Still w (w.alloc (.cells (boolCells [] n) 4)) := (Only.refl _ _ w).alloc _
  have HL1 : Hid (w.heap.size < (w.alloc (.cells (boolCells [] n) 4)).heap.size) := Lib.hid (by simp)
  generalize w.alloc (.cells (boolCells [] n) 4) = w1 at *
  have HS1 := Lib.hid hs1
  have HB0 := Lib.hid hB0
  clear hs1 hB0 hmk HMK
  go_loopw [6, 7] (fun x y wr => ∃ (i : Nat), y = .int .i64 (i : Int) ∧ i ≤ ll ∧ (n = 0 → i = 0) ∧ Still w wr ∧ w.heap.size < wr.heap.size ∧ wr.heap[w.heap.size]? = some (.cells (boolCells (ksOf zs n i) n) 4 (0, 0)) ∧ wr.ownsRow (w.heap.size + 1) 3 1 x i ((placesOf os (ksOf zs n i)).map (Value.int .i64))) (fun _ y _ => ll + 1 - (intOf y).toNat)
  case atStart => exact ⟨0, rfl, by omega, fun _ => rfl, HS1.out, HL1.out, HB0.out, World.ownsRow_nil _ _ _ _⟩
  case round =>
    obtain ⟨i, rfl, hi, hi0n, hst, hsz, hb, hpl⟩ := hrel
    have HST := Lib.hid hst
    have HSZ := Lib.hid hsz
    have HB := Lib.hid hb
    have HPL := Lib.hid hpl
    have HI0 := Lib.hid hi0n
    have hi0 : (0 : Int) ≤ (i : Int) := by omega
    have hW2 := HW.out.still hst
    have d1 := hW2.c1
    have d2 := hW2.c2
    have dl := hW2.lt
    rw [HN.out] at d2
    clear hst hsz hb hpl hi0n hW2
    by_cases hlt : i < ll
    · have hltI : (i : Int) < (ll : Int) := by omega
      by_cases hnz : n = 0
      · have g1 : decide ((i : Int) < (ll : Int)) = true := decide_eq_true hltI
        have g2 : decide ((0 : Int) < (n : Int)) = false := decide_eq_false (by omega)
        have g3 : decide (0 < n) = false := decide_eq_false (by omega)
        have HIQ : Hid (i = if n = 0 then 0 else ll) := Lib.hid (by rw [if_pos hnz]; exact HI0.out hnz)
        clear hnz
        obtain ⟨ks, hks⟩ : ∃ ks, ksOf zs n i = ks := ⟨_, rfl⟩
        have HEQ : Hid ((s.keep (stayTo (placesOf os ks) (placesOf os ks).length), leftTo os ks n) = kpF (s, os) zs ll) := Lib.hid (by unfold kpF; dsimp only; rw [HN.out, ← HIQ.out, hks])
        have hkl : ∀ k ∈ ks, k < os.length := by
          rw [← hks]
          intro k hk
          unfold ksOf at hk
          obtain ⟨j, hj, rfl⟩ := List.mem_map.1 hk
          have hj := List.mem_range.1 hj
          rw [HN.out]
          have hnp : 0 < n := by
            rcases Nat.eq_zero_or_pos n with e | e
            · have := HI0.out e; omega
            · exact e
          have := wi_range (zs j) n (by omega)
          omega
        have hpn : (placesOf os ks).length = i := by rw [← hks]; unfold placesOf; rw [List.length_map, ksOf_length]
        rw [hks] at HB HPL
        have HKL := Lib.hid hkl
        have HPN := Lib.hid hpn
        clear hks hkl hpn
        clear d1 dl
        generalize wr = wq at *
        go_wp2_with fail
        go_loopw [9, 10] (fun x y wz => ∃ j : Nat, y = .int .i64 (j : Int) ∧ j ≤ n ∧ Still wq wz ∧ wz.ownsRow wq.heap.size 34 5 x (leftTo os ks j).length (obCells (leftTo os ks j))) (fun _ y _ => n + 1 - (intOf y).toNat)
        case atStart => exact ⟨0, rfl, Nat.zero_le _, Only.refl _ _ _, World.ownsRow_nil _ _ _ _⟩
        case round =>
          obtain ⟨j, rfl, hj, hst2, hrow⟩ := hrel
          have HST2 := Lib.hid hst2
          have HROW := Lib.hid hrow
          have HSTA := Lib.hid (Still.trans HST.out hst2)
          have hj0 : (0 : Int) ≤ (j : Int) := by omega
          have hW3 := HW.out.still HSTA.out
          have d1 := hW3.c1
          have d3 := hW3.c2
          have dl := hW3.lt
          have df := hW3.f 2
          rw [HN.out] at d3
          have hb3 : wr.heap[w.heap.size]? = _ := (hst2.block _ HSZ.out (.inl HSZ.out)).trans HB.out
          have hbl : w.heap.size < wr.heap.size := (Array.getElem?_eq_some_iff.1 hb3).1
          by_cases hjn : j < n
          · have hjI : (j : Int) < (n : Int) := by omega
            have e1 : wr.cell? ⟨w.heap.size, j, none⟩ = some (.bool (decide (j ∈ ks))) := by
              simp only [World.cell?, hb3]
              exact bool_at _ _ _ hjn
            clear hst2 hrow hW3 hb3
            by_cases hm : j ∈ ks
            · rw [decide_eq_true hm] at e1
              obtain ⟨g, rfl, hgh, hgl, hgc⟩ := HW.out.at (by rw [HN.out]; omega)
              have hcell : ∀ c, c < 5 → wr.cell? ⟨g, j * 5 + c, none⟩ = (os.getD j ob0).cells[c]? := fun c hc => by
                rw [HSTA.out.cell (p := ⟨g, j * 5 + c, none⟩) hgl (.inl hgl)]
                exact hgc j c (by rw [HN.out]; exact hjn) hc
              obtain ⟨o, ho⟩ : ∃ o, os.getD j ob0 = o := ⟨_, rfl⟩
              rw [ho] at hcell
              have HO := Lib.hid ho
              have a0 : wr.cell? ⟨g, j * 5, none⟩ = some (.int .i64 (o.at' : Int)) := hcell 0 (by omega)
              have a1 : wr.cell? ⟨g, j * 5 + 1, none⟩ = some (.int .i64 o.sh.k) := hcell 1 (by omega)
              have a2 : wr.cell? ⟨g, j * 5 + 2, none⟩ = some (.int .i64 o.sh.z) := hcell 2 (by omega)
              have a3 : wr.cell? ⟨g, j * 5 + 3, none⟩ = some (.int .i64 o.sh.s) := hcell 3 (by omega)
              have a4 : wr.cell? ⟨g, j * 5 + 4, none⟩ = some (.int .i64 o.sh.t) := hcell 4 (by omega)
              have hlj := leftTo_le os ks j
              obtain ⟨v', w5, happ, hown, ho5, hs5, _, _⟩ := ob_append wr wq.heap.size (leftTo os ks j) u9 HROW.out HST2.out.size (by omega) o
              have HAPP := Lib.hid happ
              have HOWN := Lib.hid hown
              have HO5 := Lib.hid ho5
              clear happ hown ho5 hcell hgc ho hlj
              go_wp2_with (at_builtin; refine wpList_append_eq rfl _ _ 28 rfl _ _ _ _ rfl rfl HAPP.out ?_)
              have hle : leftTo os ks (j + 1) = leftTo os ks j ++ [o] := by
                rw [← HO.out]
                show (if j ∈ ks then _ else _) = _
                rw [if_pos hm]
              refine ⟨⟨j + 1, by go_num, hjn, ?_, ?_⟩, ?_⟩
              · exact HST2.out.trans' HO5.out (.inr (Nat.le_refl _)) (.inr (Nat.le_refl _))
              · rw [hle]; exact HOWN.out
              · simp [intOf]; omega
            · rw [decide_eq_false hm] at e1
              have HM := Lib.hid hm
              clear hm
              go_wp2_with fail
              have hle : leftTo os ks (j + 1) = leftTo os ks j := by
                show (if j ∈ ks then _ else _) = _
                rw [if_neg HM.out]
              refine ⟨⟨j + 1, by go_num, hjn, HST2.out, ?_⟩, ?_⟩
              · rw [hle]; exact HROW.out
              · simp [intOf]; omega
          · obtain rfl : j = n := by omega
            obtain ⟨ao9, cp9, hv9⟩ : ∃ ao9 cp9, u9 = .slice ao9 (leftTo os ks j).length cp9 := by
              rcases hrow.2 with ⟨h1, h2⟩ | ⟨g, cap, cur, h1, _⟩
              · rw [h2]; exact ⟨_, _, h1⟩
              · exact ⟨_, _, h1⟩
            subst hv9
            have hlen := leftTo_le os ks j
            obtain ⟨m, hm⟩ : ∃ m, (leftTo os ks j).length = m := ⟨_, rfl⟩
            have hints : IntsAt wr u6 (placesOf os ks) := by
              have hp : wr.ownsRow (w.heap.size + 1) 3 1 u6 (placesOf os ks).length ((placesOf os ks).map (Value.int .i64)) := by
                rw [HPN.out]
                refine ownsRow_of_block HPL.out fun g hg => ?_
                have := (HPL.out.lt g hg).2
                exact hst2.block g this (.inl this)
              exact ints_of_row hp (by rw [HPN.out]; omega)
            have hhas : ∀ q, q < (placesOf os ks).length → s.has ((placesOf os ks).getD q 0) = true := fun q hq => by
              have hq2 : q < ks.length := by unfold placesOf at hq; rwa [List.length_map] at hq
              have he : (placesOf os ks).getD q 0 = ((os.getD ks[q] ob0).at' : Int) := by
                unfold placesOf
                rw [List.getD_eq_getElem?_getD, List.getElem?_map, List.getElem?_eq_getElem hq2]; rfl
              rw [he]
              unfold St.has
              rw [decide_eq_true (by omega), Int.toNat_natCast]
              exact (HW.out.agree.here _ (getD_mem os _ (HKL.out _ (List.getElem_mem hq2)))).1
            have HKP := Lib.hid (keep_invF wr L s hW3.sp HW.out.inv u6 (placesOf os ks) hints hhas)
            have HM := Lib.hid hm
            rw [hm]
            clear hst2 hrow hW3 hb3 hints hhas hm
            go_wp2_with fail
            refine HKP.out _ (fun w7 t7 hkq hk hsp ho => ?_)
            have HKQ := Lib.hid hkq
            clear hkq
            have hag := HW.out.agree.keep HW.out.inv HKL.out hk
            rw [HN.out] at hag
            obtain ⟨cN, hcN⟩ : ∃ cN, Bm.cnt (fun x => s.B 0 x && !stayTo (placesOf os ks) (placesOf os ks).length x) 0 (64 * s.n) = cN := ⟨_, rfl⟩
            rw [hcN, HM.out] at hag
            rw [hcN]
            have hsum := hag.2
            have hsub : IntKind.i64.wrap ((j : Int) - (m : Int)) = (cN : Int) := by rw [IntKind.wrap_i64]; omega
            have hsubz : (j : Int) - (m : Int) = (cN : Int) := by omega
            have hW3 := HW.out.still HSTA.out
            have hb7 : w7.heap[wb]? = _ := (ho.block wb dl (.inl HW.out.lo)).trans hW3.head
            have q2 := cell_of (v := .slice ao os.length cp) hb7 2 rfl
            rw [HN.out] at q2
            have qf := frozen_of hb7 2
            have ql := (Array.getElem?_eq_some_iff.1 hb7).1
            have hlh : L.hi ≤ w.heap.size := HW.out.sp.top
            have hrow7 : w7.ownsRow L.hi 34 5 (.slice ao9 m cp9) (leftTo os ks j).length (obCells (leftTo os ks j)) := by
              have h0 := HROW.out
              rw [HM.out] at h0 ⊢
              refine ownsRow_le (ownsRow_of_block h0 fun g hg => ?_) (Nat.le_trans hlh HST.out.size)
              obtain ⟨g1, g2⟩ := h0.lt g hg
              exact ho.block g g2 (.inr (by have := HST.out.size; omega))
            have hhalf : Half w7 L t7 wb os (.slice ao os.length cp) := by
              refine ⟨HW.out.pos, HW.out.lo, ?_, ownsRow_of_block hW3.row fun g hg => ?_, hsp⟩
              · rw [hb7, hk.n, hk.ser]
              · obtain ⟨g1, g2⟩ := hW3.row.lt g hg
                exact ho.block g g2 (.inr g1)
            have HFIN := Lib.hid (hhalf.up (Only.refl _ _ w7) hrow7 hk.inv (by exact hag.1))
            have HBEL : Hid (Frm wb L w (.slice ao os.length cp) (w7.setCell ⟨wb, 2, none⟩ (.slice ao9 m cp9)) (.slice ao9 m cp9)) := Lib.hid
              (((Frm.still _ HSTA.out hwl).trans ((Frm.space _ ho hW3.lo hW3.loLe).trans (Frm.own w7 _ ql 2 _))).swap (fun k hk e => by have h0 := HROW.out; rw [HM.out] at h0; have := (h0.lt k e).1; have := HST.out.size; omega))
            have HKN := Lib.hid (And.intro hk.n (And.intro hk.acts hk))
            clear hk hsp ho hag hsum hb7 hrow7 hhalf hW3
            go_wp2_with fail
            show Q (.returned (.bool true)) _
            exact HQ.out _ t7 (leftTo os ks j) _ HFIN.out HKN.out.1 (Nat.le_of_eq HKN.out.2.1) (by have := leftTo_le os ks j; rw [HN.out]; exact this) HBEL.out ⟨_, HKN.out.2.2⟩ (by rw [HKQ.out]; exact HEQ.out)
      · have hnp : (0 : Int) < (n : Int) := by omega
        obtain ⟨x, rfl, hxc, hxw⟩ := HZ.out.2 i hlt
        have hxb : (x.add i).block = x.block := by unfold Addr.add; split <;> rfl
        have hxc2 : wr.cell? (x.add i) = some (.int .i64 (zs i)) := by
          rw [HST.out.cell (p := x.add i) (by rw [hxb]; exact Nat.lt_trans (HLT.out x rfl (by omega)) hwl) (.inl (by rw [hxb]; exact Nat.lt_trans (HLT.out x rfl (by omega)) hwl))]
          exact hxc
        have g1 : decide ((i : Int) < (ll : Int)) = true := decide_eq_true hltI
        have g2 : decide ((0 : Int) < (n : Int)) = true := decide_eq_true hnp
        obtain ⟨hw1, hw2⟩ := wf_i64 hxw
        obtain ⟨y, hy⟩ : ∃ y, zs i = y := ⟨_, rfl⟩
        rw [hy] at hxc2 hw1 hw2
        have HY := Lib.hid hy
        obtain ⟨kx, hkx⟩ : ∃ kx : Nat, wi y n = (kx : Int) := ⟨(wi y n).toNat, by have := wi_range y n hnp; omega⟩
        have hkr := wi_range y n hnp
        rw [hkx] at hkr
        have hkn : kx < n := by omega
        have hkI : (kx : Int) < (n : Int) := hkr.2
        have hk0 : (0 : Int) ≤ (kx : Int) := hkr.1
        have HWN := Lib.hid (fun w => within_any y n w hw1 hw2 hnp (by omega))
        rw [hkx] at HWN
        have HKX := Lib.hid hkx
        obtain ⟨g, rfl, hgh, hgl, hgc⟩ := HW.out.at (by rw [HN.out]; omega)
        have hgc0 := hgc kx 0 (by rw [HN.out]; exact hkn) (by omega)
        have hgc1 : wr.cell? ⟨g, kx * 5, none⟩ = some (.int .i64 ((os.getD kx ob0).at' : Int)) := by
          rw [HST.out.cell (p := ⟨g, kx * 5, none⟩) hgl (.inl hgl)]
          exact hgc0
        have hgne : g ≠ w.heap.size := by omega
        have hgc2 : ∀ m, ((wr.drewN m).setCell ⟨w.heap.size, kx, none⟩ (.bool true)).cell? ⟨g, kx * 5, none⟩ = some (.int .i64 ((os.getD kx ob0).at' : Int)) := fun m => set_cell (show (wr.drewN m).cell? ⟨g, kx * 5, none⟩ = _ from hgc1) hgne
        obtain ⟨pl, hpl⟩ : ∃ pl, (os.getD kx ob0).at' = pl := ⟨_, rfl⟩
        rw [hpl] at hgc2
        have HPL2 := Lib.hid hpl
        clear hgc0 hgc1 hgc hpl
        clear hxc hxw hy hkx hkr hnz hw1 hw2 hxb
        go_wp2_with fail
        go_quiet (((go_at_call 17; exact quiet_eq (HWN.out _))))
        have e1 : (wr.drewN nq).cell? ⟨w.heap.size, kx, none⟩ = some (.bool (decide (kx ∈ ksOf zs n i))) := by
          have := HB.out
          show wr.cell? _ = _
          simp only [World.cell?, this]
          exact bool_at _ _ _ hkn
        have f1 : (wr.drewN nq).frozen? ⟨w.heap.size, kx, none⟩ = false := by
          have := HB.out
          show wr.frozen? _ = _
          simp [World.frozen?, this]
        have hgc3 := hgc2 nq
        have hbW : ((wr.drewN nq).setCell ⟨w.heap.size, kx, none⟩ (.bool true)).heap[w.heap.size]? = some (.cells (boolCells (ksOf zs n (i + 1)) n) 4 (0, 0)) := by
          have hb0 : (wr.drewN nq).heap[w.heap.size]? = _ := HB.out
          simp only [World.setCell, Array.getElem?_modify, hb0]
          have hkk : (wi (zs i) n).toNat = kx := by rw [HY.out, HKX.out]; rfl
          rw [ksOf_succ, hkk, ← bool_set]
          simp
        have HBW := Lib.hid hbW
        have HSW : Hid (Still w ((wr.drewN nq).setCell ⟨w.heap.size, kx, none⟩ (.bool true))) := Lib.hid ((HST.out.drewN nq).setCell (.inr (Nat.le_refl _)) _)
        have hpw : ((wr.drewN nq).setCell ⟨w.heap.size, kx, none⟩ (.bool true)).ownsRow (w.heap.size + 1) 3 1 u6 (placesOf os (ksOf zs n i)).length ((placesOf os (ksOf zs n i)).map (Value.int .i64)) := by
          have hln : (placesOf os (ksOf zs n i)).length = i := by unfold placesOf; rw [List.length_map, ksOf_length]
          rw [hln]
          refine ownsRow_of_block HPL.out fun g hg => ?_
          have := (HPL.out.lt g hg).1
          rw [Below.heap_setCell _ _ _ _ (by show g ≠ w.heap.size; omega)]
          rfl
        have hsW : w.heap.size + 1 ≤ ((wr.drewN nq).setCell ⟨w.heap.size, kx, none⟩ (.bool true)).heap.size := (Array.getElem?_eq_some_iff.1 hbW).1
        have hlW : wb < ((wr.drewN nq).setCell ⟨w.heap.size, kx, none⟩ (.bool true)).heap.size := Nat.lt_trans hwl (by omega)
        have dW2 : ((wr.drewN nq).setCell ⟨w.heap.size, kx, none⟩ (.bool true)).cell? ⟨wb, 2, none⟩ = some (.slice (some ⟨g, 0, none⟩) n cp) := set_cell (show (wr.drewN nq).cell? ⟨wb, 2, none⟩ = _ from d2) (by show wb ≠ w.heap.size; omega)
        obtain ⟨v', w5, happ, hown, ho5, hs5⟩ := int_append _ (w.heap.size + 1) (placesOf os (ksOf zs n i)) u6 hpw hsW (by unfold placesOf; rw [List.length_map, ksOf_length]; omega) (pl : Int) wr.heap.size (by simp [World.setCell])
        have HAPP := Lib.hid happ
        have HOWN := Lib.hid hown
        have HO5 := Lib.hid ho5
        have HS5 := Lib.hid hs5
        clear happ hown ho5 hs5 hpw hbW hgc2
        go_wp2_with (at_builtin; refine wpList_append_eq rfl _ _ 41 rfl _ _ _ _ rfl rfl HAPP.out ?_)
        have hpe : placesOf os (ksOf zs n (i + 1)) = placesOf os (ksOf zs n i) ++ [(pl : Int)] := by
          have hkk : (wi (zs i) n).toNat = kx := by rw [HY.out, HKX.out]; rfl
          rw [ksOf_succ, hkk, ← HPL2.out]
          unfold placesOf
          rw [List.map_append]; rfl
        have hln : (placesOf os (ksOf zs n i) ++ [(pl : Int)]).length = i + 1 := by
          rw [List.length_append]; unfold placesOf; rw [List.length_map, ksOf_length]; rfl
        refine ⟨⟨i + 1, by go_num, hlt, fun h => by omega, ?_, ?_, ?_, ?_⟩, ?_⟩
        · exact HSW.out.trans' HO5.out (.inr (by omega)) (.inr (by omega))
        · exact Nat.lt_trans hsW HS5.out
        · exact (HO5.out.block _ hsW (.inl (by omega))).trans HBW.out
        · have := HOWN.out
          rw [hln] at this
          rw [hpe]
          exact this
        · simp [intOf]; omega
    · have g1 : decide ((i : Int) < (ll : Int)) = false := decide_eq_false (by omega)
      have HIQ : Hid (i = if n = 0 then 0 else ll) := Lib.hid (by
        by_cases e : n = 0
        · rw [if_pos e]; exact HI0.out e
        · rw [if_neg e]; omega)
      obtain ⟨ks, hks⟩ : ∃ ks, ksOf zs n i = ks := ⟨_, rfl⟩
      have HEQ : Hid ((s.keep (stayTo (placesOf os ks) (placesOf os ks).length), leftTo os ks n) = kpF (s, os) zs ll) := Lib.hid (by unfold kpF; dsimp only; rw [HN.out, ← HIQ.out, hks])
      have hkl : ∀ k ∈ ks, k < os.length := by
        rw [← hks]
        intro k hk
        unfold ksOf at hk
        obtain ⟨j, hj, rfl⟩ := List.mem_map.1 hk
        have hj := List.mem_range.1 hj
        rw [HN.out]
        have hnp : 0 < n := by
          rcases Nat.eq_zero_or_pos n with e | e
          · have := HI0.out e; omega
          · exact e
        have := wi_range (zs j) n (by omega)
        omega
      have hpn : (placesOf os ks).length = i := by rw [← hks]; unfold placesOf; rw [List.length_map, ksOf_length]
      rw [hks] at HB HPL
      have HKL := Lib.hid hkl
      have HPN := Lib.hid hpn
      clear hks hkl hpn
      clear d1 dl
      generalize wr = wq at *
      go_wp2_with fail
      go_loopw [9, 10] (fun x y wz => ∃ j : Nat, y = .int .i64 (j : Int) ∧ j ≤ n ∧ Still wq wz ∧ wz.ownsRow wq.heap.size 34 5 x (leftTo os ks j).length (obCells (leftTo os ks j))) (fun _ y _ => n + 1 - (intOf y).toNat)
      case atStart => exact ⟨0, rfl, Nat.zero_le _, Only.refl _ _ _, World.ownsRow_nil _ _ _ _⟩
      case round =>
        obtain ⟨j, rfl, hj, hst2, hrow⟩ := hrel
        have HST2 := Lib.hid hst2
        have HROW := Lib.hid hrow
        have HSTA := Lib.hid (Still.trans HST.out hst2)
        have hj0 : (0 : Int) ≤ (j : Int) := by omega
        have hW3 := HW.out.still HSTA.out
        have d1 := hW3.c1
        have d3 := hW3.c2
        have dl := hW3.lt
        have df := hW3.f 2
        rw [HN.out] at d3
        have hb3 : wr.heap[w.heap.size]? = _ := (hst2.block _ HSZ.out (.inl HSZ.out)).trans HB.out
        have hbl : w.heap.size < wr.heap.size := (Array.getElem?_eq_some_iff.1 hb3).1
        by_cases hjn : j < n
        · have hjI : (j : Int) < (n : Int) := by omega
          have e1 : wr.cell? ⟨w.heap.size, j, none⟩ = some (.bool (decide (j ∈ ks))) := by
            simp only [World.cell?, hb3]
            exact bool_at _ _ _ hjn
          clear hst2 hrow hW3 hb3
          by_cases hm : j ∈ ks
          · rw [decide_eq_true hm] at e1
            obtain ⟨g, rfl, hgh, hgl, hgc⟩ := HW.out.at (by rw [HN.out]; omega)
            have hcell : ∀ c, c < 5 → wr.cell? ⟨g, j * 5 + c, none⟩ = (os.getD j ob0).cells[c]? := fun c hc => by
              rw [HSTA.out.cell (p := ⟨g, j * 5 + c, none⟩) hgl (.inl hgl)]
              exact hgc j c (by rw [HN.out]; exact hjn) hc
            obtain ⟨o, ho⟩ : ∃ o, os.getD j ob0 = o := ⟨_, rfl⟩
            rw [ho] at hcell
            have HO := Lib.hid ho
            have a0 : wr.cell? ⟨g, j * 5, none⟩ = some (.int .i64 (o.at' : Int)) := hcell 0 (by omega)
            have a1 : wr.cell? ⟨g, j * 5 + 1, none⟩ = some (.int .i64 o.sh.k) := hcell 1 (by omega)
            have a2 : wr.cell? ⟨g, j * 5 + 2, none⟩ = some (.int .i64 o.sh.z) := hcell 2 (by omega)
            have a3 : wr.cell? ⟨g, j * 5 + 3, none⟩ = some (.int .i64 o.sh.s) := hcell 3 (by omega)
            have a4 : wr.cell? ⟨g, j * 5 + 4, none⟩ = some (.int .i64 o.sh.t) := hcell 4 (by omega)
            have hlj := leftTo_le os ks j
            obtain ⟨v', w5, happ, hown, ho5, hs5, _, _⟩ := ob_append wr wq.heap.size (leftTo os ks j) u9 HROW.out HST2.out.size (by omega) o
            have HAPP := Lib.hid happ
            have HOWN := Lib.hid hown
            have HO5 := Lib.hid ho5
            clear happ hown ho5 hcell hgc ho hlj
            go_wp2_with (at_builtin; refine wpList_append_eq rfl _ _ 28 rfl _ _ _ _ rfl rfl HAPP.out ?_)
            have hle : leftTo os ks (j + 1) = leftTo os ks j ++ [o] := by
              rw [← HO.out]
              show (if j ∈ ks then _ else _) = _
              rw [if_pos hm]
            refine ⟨⟨j + 1, by go_num, hjn, ?_, ?_⟩, ?_⟩
            · exact HST2.out.trans' HO5.out (.inr (Nat.le_refl _)) (.inr (Nat.le_refl _))
            · rw [hle]; exact HOWN.out
            · simp [intOf]; omega
          · rw [decide_eq_false hm] at e1
            have HM := Lib.hid hm
            clear hm
            go_wp2_with fail
            have hle : leftTo os ks (j + 1) = leftTo os ks j := by
              show (if j ∈ ks then _ else _) = _
              rw [if_neg HM.out]
            refine ⟨⟨j + 1, by go_num, hjn, HST2.out, ?_⟩, ?_⟩
            · rw [hle]; exact HROW.out
            · simp [intOf]; omega
        · obtain rfl : j = n := by omega
          obtain ⟨ao9, cp9, hv9⟩ : ∃ ao9 cp9, u9 = .slice ao9 (leftTo os ks j).length cp9 := by
            rcases hrow.2 with ⟨h1, h2⟩ | ⟨g, cap, cur, h1, _⟩
            · rw [h2]; exact ⟨_, _, h1⟩
            · exact ⟨_, _, h1⟩
          subst hv9
          have hlen := leftTo_le os ks j
          obtain ⟨m, hm⟩ : ∃ m, (leftTo os ks j).length = m := ⟨_, rfl⟩
          have hints : IntsAt wr u6 (placesOf os ks) := by
            have hp : wr.ownsRow (w.heap.size + 1) 3 1 u6 (placesOf os ks).length ((placesOf os ks).map (Value.int .i64)) := by
              rw [HPN.out]
              refine ownsRow_of_block HPL.out fun g hg => ?_
              have := (HPL.out.lt g hg).2
              exact hst2.block g this (.inl this)
            exact ints_of_row hp (by rw [HPN.out]; omega)
          have hhas : ∀ q, q < (placesOf os ks).length → s.has ((placesOf os ks).getD q 0) = true := fun q hq => by
            have hq2 : q < ks.length := by unfold placesOf at hq; rwa [List.length_map] at hq
            have he : (placesOf os ks).getD q 0 = ((os.getD ks[q] ob0).at' : Int) := by
              unfold placesOf
              rw [List.getD_eq_getElem?_getD, List.getElem?_map, List.getElem?_eq_getElem hq2]; rfl
            rw [he]
            unfold St.has
            rw [decide_eq_true (by omega), Int.toNat_natCast]
            exact (HW.out.agree.here _ (getD_mem os _ (HKL.out _ (List.getElem_mem hq2)))).1
          have HKP := Lib.hid (keep_invF wr L s hW3.sp HW.out.inv u6 (placesOf os ks) hints hhas)
          have HM := Lib.hid hm
          rw [hm]
          clear hst2 hrow hW3 hb3 hints hhas hm
          go_wp2_with fail
          refine HKP.out _ (fun w7 t7 hkq hk hsp ho => ?_)
          have HKQ := Lib.hid hkq
          clear hkq
          have hag := HW.out.agree.keep HW.out.inv HKL.out hk
          rw [HN.out] at hag
          obtain ⟨cN, hcN⟩ : ∃ cN, Bm.cnt (fun x => s.B 0 x && !stayTo (placesOf os ks) (placesOf os ks).length x) 0 (64 * s.n) = cN := ⟨_, rfl⟩
          rw [hcN, HM.out] at hag
          rw [hcN]
          have hsum := hag.2
          have hsub : IntKind.i64.wrap ((j : Int) - (m : Int)) = (cN : Int) := by rw [IntKind.wrap_i64]; omega
          have hsubz : (j : Int) - (m : Int) = (cN : Int) := by omega
          have hW3 := HW.out.still HSTA.out
          have hb7 : w7.heap[wb]? = _ := (ho.block wb dl (.inl HW.out.lo)).trans hW3.head
          have q2 := cell_of (v := .slice ao os.length cp) hb7 2 rfl
          rw [HN.out] at q2
          have qf := frozen_of hb7 2
          have ql := (Array.getElem?_eq_some_iff.1 hb7).1
          have hlh : L.hi ≤ w.heap.size := HW.out.sp.top
          have hrow7 : w7.ownsRow L.hi 34 5 (.slice ao9 m cp9) (leftTo os ks j).length (obCells (leftTo os ks j)) := by
            have h0 := HROW.out
            rw [HM.out] at h0 ⊢
            refine ownsRow_le (ownsRow_of_block h0 fun g hg => ?_) (Nat.le_trans hlh HST.out.size)
            obtain ⟨g1, g2⟩ := h0.lt g hg
            exact ho.block g g2 (.inr (by have := HST.out.size; omega))
          have hhalf : Half w7 L t7 wb os (.slice ao os.length cp) := by
            refine ⟨HW.out.pos, HW.out.lo, ?_, ownsRow_of_block hW3.row fun g hg => ?_, hsp⟩
            · rw [hb7, hk.n, hk.ser]
            · obtain ⟨g1, g2⟩ := hW3.row.lt g hg
              exact ho.block g g2 (.inr g1)
          have HFIN := Lib.hid (hhalf.up (Only.refl _ _ w7) hrow7 hk.inv (by exact hag.1))
          have HBEL : Hid (Frm wb L w (.slice ao os.length cp) (w7.setCell ⟨wb, 2, none⟩ (.slice ao9 m cp9)) (.slice ao9 m cp9)) := Lib.hid
              (((Frm.still _ HSTA.out hwl).trans ((Frm.space _ ho hW3.lo hW3.loLe).trans (Frm.own w7 _ ql 2 _))).swap (fun k hk e => by have h0 := HROW.out; rw [HM.out] at h0; have := (h0.lt k e).1; have := HST.out.size; omega))
          have HKN := Lib.hid (And.intro hk.n (And.intro hk.acts hk))
          clear hk hsp ho hag hsum hb7 hrow7 hhalf hW3
          go_wp2_with fail
          show Q (.returned (.bool true)) _
          exact HQ.out _ t7 (leftTo os ks j) _ HFIN.out HKN.out.1 (Nat.le_of_eq HKN.out.2.1) (by have := leftTo_le os ks j; rw [HN.out]; exact this) HBEL.out ⟨_, HKN.out.2.2⟩ (by rw [HKQ.out]; exact HEQ.out)
end Go.Proofs.YtiniadochjeieaaDoor
