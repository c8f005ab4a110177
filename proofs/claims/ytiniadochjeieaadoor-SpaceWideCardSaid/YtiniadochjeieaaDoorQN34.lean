/-
  The walk of holds.
-/
import Derived.Test.YtiniadochjeieaaDoorQY
import Derived.Test.YtiniadochjeieaaDoorQX
namespace Go.Proofs.YtiniadochjeieaaDoor
open Go Go.RowKit

/-- What a dump's lists hold. -/
def wdG (s : St) : Nat → Nat → Int := fun i _ => s.W i
def pgG (s : St) : Nat → Nat → Int := fun i d => if d = 0 then (s.P i).k else if d = 1 then (s.P i).c else (s.P i).r
def blG (s : St) : Nat → Nat → Int := fun i d => if d = 0 then ((s.blks.getD i ob0).at' : Int) else if d = 1 then (s.blks.getD i ob0).sh.k else if d = 2 then (s.blks.getD i ob0).sh.z else if d = 3 then (s.blks.getD i ob0).sh.s else (s.blks.getD i ob0).sh.t
theorem Lists.rowsG {w : World} {B : Nat} {s : St} {v1 v2 v3 : Value} (h : Lists w B s v1 v2 v3) : RowAt w v1 (64 * s.n) 1 (wdG s) ∧ RowAt w v2 s.n 3 (pgG s) ∧ RowAt w v3 s.blks.length 5 (blG s) := by
  refine ⟨row_at h.r1 fun i hi d hd => ?_, row_at h.r2 fun i hi d hd => ?_, row_at h.r3 fun i hi d hd => ?_⟩
  · obtain rfl : d = 0 := by omega
    rw [Nat.mul_one, Nat.add_zero, List.getElem?_map]
    unfold wdList
    rw [List.getElem?_map, List.getElem?_range hi]
    rfl
  · rw [Array.getElem?_toList]
    unfold pgCells
    rw [Array.getElem?_ofFn]
    have hlt : i * 3 + d < 3 * s.n := by omega
    simp only [hlt, dite_true]
    unfold pgG
    have h1 : (i * 3 + d) / 3 = i := by omega
    have h2 : (i * 3 + d) % 3 = d := by omega
    simp only [h1, h2]
  · rw [obCells_at s.blks i d hi hd]
    unfold blG Ob.cells
    have h5 : d = 0 ∨ d = 1 ∨ d = 2 ∨ d = 3 ∨ d = 4 := by omega
    rcases h5 with rfl | rfl | rfl | rfl | rfl <;> rfl
theorem RowAt.sliceG {w : World} {v : Value} {n W : Nat} {f : Nat → Nat → Int} (h : RowAt w v n W f) : ∃ a c, v = .slice a n c := by
  obtain ⟨a, c, e, _⟩ := h
  exact ⟨a, c, e⟩
theorem frs_cnt (s : St) (c : Nat) : ∀ a, (frs s c a).length = Bm.cnt (s.B (c + 1)) 0 a
  | 0 => rfl
  | a + 1 => by
    have ih := frs_cnt s c a
    show (if s.B (c + 1) a then frs s c a ++ [a] else frs s c a).length = Bm.cnt (s.B (c + 1)) 0 a + (s.B (c + 1) (0 + a)).toNat
    rw [Nat.zero_add]
    cases s.B (c + 1) a with
    | true => rw [if_pos rfl, List.length_append, ih]; rfl
    | false => rw [if_neg (by decide), ih]; rfl
theorem blk_cnt (s : St) : ∀ a, (s.blk a).length = Bm.cnt (s.B 0) 0 a
  | 0 => rfl
  | a + 1 => by
    have ih := blk_cnt s a
    show (if s.B 0 a then s.blk a ++ [⟨a, s.sh a⟩] else s.blk a).length = Bm.cnt (s.B 0) 0 a + (s.B 0 (0 + a)).toNat
    rw [Nat.zero_add]
    cases s.B 0 a with
    | true => rw [if_pos rfl, List.length_append, ih]; rfl
    | false => rw [if_neg (by decide), ih]; rfl
/-- The places of the first i objects. -/
def atsTo (s : St) (i : Nat) : List Nat := (s.blks.take i).map Ob.at'
theorem atsTo_succ (s : St) (i : Nat) (h : i < s.blks.length) : atsTo s (i + 1) = atsTo s i ++ [(s.blks.getD i ob0).at'] := by
  unfold atsTo
  rw [List.take_add_one, List.map_append]
  congr 1
  simp [h]
theorem atsTo_all (s : St) {x : Nat} (hx : x < 64 * s.n) : decide (x ∈ atsTo s s.blks.length) = s.B 0 x := by
  have h : x ∈ atsTo s s.blks.length ↔ s.B 0 x = true := by
    unfold atsTo
    rw [List.take_length, List.mem_map]
    constructor
    · rintro ⟨o, ho, rfl⟩
      exact ((s.mem_blk o (64 * s.n)).1 ho).2.1
    · intro hb
      exact ⟨⟨x, s.sh x⟩, (s.mem_blk ⟨x, s.sh x⟩ (64 * s.n)).2 ⟨hx, hb, rfl⟩, rfl⟩
  cases hb : s.B 0 x with
  | true => exact decide_eq_true (h.2 hb)
  | false => exact decide_eq_false fun hh => by rw [h.1 hh] at hb; cases hb
theorem blks_lt (s : St) {i : Nat} (hi : i < s.blks.length) : (s.blks.getD i ob0).at' < 64 * s.n := by
  have : s.blks.getD i ob0 ∈ s.blks := by simp [hi]
  exact ((s.mem_blk _ (64 * s.n)).1 this).1
/-- A block's first word bears no object just where the block is free. -/
theorem St.InvX.blkFree {s : St} (h : s.Inv) {c p i : Nat} (hc : c < 8) (hp : p < s.n) (hP : s.P p = ⟨1, c, 0⟩) (hi : i < Sp.bk c) : (!s.B 0 (64 * p + i * Sp.cw c)) = s.B (c + 1) (64 * p + i * Sp.cw c) := by
  have hblk : s.Blk c (64 * p + i * Sp.cw c) := ⟨p, i, hp, hi, by omega, hP⟩
  cases hb : s.B 0 (64 * p + i * Sp.cw c) with
  | true =>
    cases hb2 : s.B (c + 1) (64 * p + i * Sp.cw c) with
    | false => rfl
    | true => have := ((h.free c hc _).1 hb2).2.1; rw [hb] at this; cases this
  | false =>
    rw [(h.free c hc _).2 ⟨hblk, hb, fun h => h⟩]; rfl
theorem fpg_le (P : Nat → Pg) : ∀ k, fpg P k ≤ k
  | 0 => Nat.le_refl _
  | k + 1 => by
    have := fpg_le P k
    show fpg P k + _ ≤ _
    split <;> omega
theorem scan_le (P : Nat → Pg) (m : Nat) : ∀ k, (scan P m k).1 ≤ k
  | 0 => Nat.le_refl _
  | k + 1 => by
    have := scan_le P m k
    unfold scan
    split
    · split <;> (dsimp only; omega)
    · dsimp only; omega
set_option maxRecDepth 100000 in
set_option maxHeartbeats 3200000 in
theorem holds_any (w : World) (s : St) (hi : s.Inv) (a1 a2 a3 : Option Addr) (p1 p2 p3 : Nat) (y0 y1 y2 y3 y4 y5 y6 y7 y8 z : Int) (hr2 : RowAt w (.slice a2 s.n p2) s.n 3 (pgG s)) (hr3 : RowAt w (.slice a3 s.blks.length p3) s.blks.length 5 (blG s)) (hz : 1 ≤ z ∧ z ≤ 1024) :
    Calls Tryd.prog 41 #[.agg #[.slice a1 (64 * s.n) p1, .slice a2 s.n p2, .slice a3 s.blks.length p3, .int .i64 y0, .int .i64 y1, .int .i64 y2, .int .i64 y3, .int .i64 y4, .int .i64 y5, .int .i64 y6, .int .i64 y7, .int .i64 y8], .int .i64 z] w fun e w' => e = .returned (.int .i64 (s.hold z : Nat)) ∧ Still w w' := by
  have HI := Lib.hid hi
  have HR := Lib.hid (And.intro hr2 hr3)
  have HZ := Lib.hid hz
  have hn1 := hi.n1
  have hn2 := hi.n2
  have hbl : s.blks.length ≤ 262144 := by have := blk_cnt s (64 * s.n); have := cnt_le (s.B 0) (64 * s.n); show (s.blk (64 * s.n)).length ≤ _; omega
  have HLT := Lib.hid (fun i (h : i < s.blks.length) => blks_lt s h)
  have HSU := Lib.hid (fun i (h : i < s.blks.length) => atsTo_succ s i h)
  have HCO := Lib.hid (classOf_any z hz.1 hz.2)
  have HCL := Lib.hid (Sp.wide_of hz.1 hz.2)
  clear hi hr2 hr3
  obtain ⟨v1, hv1⟩ : ∃ v1, Sp.cls z = v1 := ⟨_, rfl⟩
  obtain ⟨v2, hv2⟩ : ∃ v2, Sp.wide z = v2 := ⟨_, rfl⟩
  obtain ⟨v3, hv3⟩ : ∃ v3, Sp.bks v1 = v3 := ⟨_, rfl⟩
  rw [hv1, hv2, hv3] at HCO
  have HV := Lib.hid (And.intro hv1 (And.intro hv2 hv3))
  clear hv1 hv2 hv3
  obtain ⟨nb, hnb⟩ : ∃ nb, s.blks.length = nb := ⟨_, rfl⟩
  have HNB := Lib.hid hnb
  rw [hnb] at HLT HSU hbl HR ⊢
  obtain ⟨N, hN⟩ : ∃ N, 64 * s.n = N := ⟨_, rfl⟩
  have HN := Lib.hid hN
  rw [hN] at HLT ⊢
  have hNb : N ≤ 262144 := by omega
  have hnI : (s.n : Int) ≤ 4096 := by omega
  have hnbI : (nb : Int) ≤ 262144 := by omega
  have hNI : (N : Int) ≤ 262144 := by omega
  clear hnb hN
  go_enter Tryd.func41, Tryd.ntmps41
  go_wp2_with fail
  have hb0 := heap_alloc_new w (.cells #[.slice a1 N p1, .slice a2 s.n p2, .slice a3 nb p3, .int .i64 y0, .int .i64 y1, .int .i64 y2, .int .i64 y3, .int .i64 y4, .int .i64 y5, .int .i64 y6, .int .i64 y7, .int .i64 y8] 48)
  have hs0 : Still w (w.alloc (.cells #[.slice a1 N p1, .slice a2 s.n p2, .slice a3 nb p3, .int .i64 y0, .int .i64 y1, .int .i64 y2, .int .i64 y3, .int .i64 y4, .int .i64 y5, .int .i64 y6, .int .i64 y7, .int .i64 y8] 48)) := (Only.refl _ _ w).alloc _
  generalize w.alloc (.cells #[.slice a1 N p1, .slice a2 s.n p2, .slice a3 nb p3, .int .i64 y0, .int .i64 y1, .int .i64 y2, .int .i64 y3, .int .i64 y4, .int .i64 y5, .int .i64 y6, .int .i64 y7, .int .i64 y8] 48) = w1 at *
  obtain ⟨hb, hbe⟩ : ∃ hb, w.heap.size = hb := ⟨_, rfl⟩
  rw [hbe] at hb0 ⊢
  refine (HCO.out w1).mono ?_
  rintro e w2 ⟨rfl, hs1⟩
  have hb2 := at_only hs1 hb0 (.inl (Array.getElem?_eq_some_iff.1 hb0).1)
  have hst2 := Still.trans hs0 hs1
  have d0 := cell_of (v := .slice a1 N p1) hb2 0 rfl
  have dl := (Array.getElem?_eq_some_iff.1 hb2).1
  have hmk := make_bools N (by omega) w2
  have HB2 := Lib.hid hb2
  have HST2 := Lib.hid hst2
  clear hs0 hs1 hb0 hb2 hst2 hbe HCO
  go_wp2_with fail
  have hb3 := heap_alloc_new w2 (.cells (boolCells [] N) 4)
  have hs3 : Still w2 (w2.alloc (.cells (boolCells [] N) 4)) := (Only.refl _ _ w2).alloc _
  obtain ⟨ub, hub⟩ : ∃ ub, w2.heap.size = ub := ⟨_, rfl⟩
  rw [hub] at hb3 ⊢
  generalize w2.alloc (.cells (boolCells [] N) 4) = w3 at *
  have HB3 : Hid (BoolsAt w3 ub N (atsTo s 0)) := Lib.hid hb3
  have HUB : Hid (w.heap.size ≤ ub) := Lib.hid (by have := HST2.out.size; omega)
  have HC : Hid (∀ W, Only ub (ub + 1) w3 W → Still w W ∧ (W.cell? ⟨hb, 1, none⟩ = some (.slice a2 s.n p2) ∧ W.cell? ⟨hb, 2, none⟩ = some (.slice a3 nb p3) ∧ hb < W.heap.size) ∧ RowAt W (.slice a2 s.n p2) s.n 3 (pgG s) ∧ RowAt W (.slice a3 nb p3) nb 5 (blG s)) := Lib.hid fun W h => by
    have h1 : Still w W := (Still.trans HST2.out hs3).trans' h (.inr HUB.out) (.inr HUB.out)
    have h2 : Still w2 W := hs3.trans' h (.inr (by omega)) (.inr (by omega))
    have h3 := at_only h2 HB2.out (.inl (Array.getElem?_eq_some_iff.1 HB2.out).1)
    exact ⟨h1, ⟨cell_of (v := .slice a2 s.n p2) h3 1 rfl, cell_of (v := .slice a3 nb p3) h3 2 rfl, (Array.getElem?_eq_some_iff.1 h3).1⟩, HR.out.1.still h1, HR.out.2.still h1⟩
  clear hb3 hs3 hub hmk d0 dl HB2 HST2 HR
  go_loopw [9] (fun y W => ∃ i : Nat, y = .int .i64 (i : Int) ∧ i ≤ nb ∧ Only ub (ub + 1) w3 W ∧ BoolsAt W ub N (atsTo s i)) (fun y _ => nb + 1 - (intOf y).toNat)
  case atStart => exact ⟨0, rfl, Nat.zero_le _, Only.refl _ _ _, HB3.out⟩
  case round =>
    obtain ⟨i, rfl, hi, hon, hbx⟩ := hrel
    have hi0 : (0 : Int) ≤ (i : Int) := by omega
    obtain ⟨hst, ⟨d1, d2, dl⟩, hr2, hr3⟩ := HC.out _ hon
    have HON := Lib.hid hon
    have HBX := Lib.hid hbx
    by_cases hin : i < nb
    · have hiI : (i : Int) < (nb : Int) := by omega
      obtain ⟨g, rfl, hgl, hgc⟩ : ∃ g, a3 = some ⟨g, 0, none⟩ ∧ g < wr.heap.size ∧ wr.cell? ⟨g, i * 5, none⟩ = some (.int .i64 ((s.blks.getD i ob0).at' : Int)) := by
        obtain ⟨a, c, e, h⟩ := hr3
        injection e with e _ _
        subst e
        obtain ⟨g, e1, e2, e3⟩ := h i hin
        exact ⟨g, e1, e2, e3 0 (by omega)⟩
      have hlt := HLT.out i hin
      have hsu := HSU.out i hin
      obtain ⟨x, hx⟩ : ∃ x, (s.blks.getD i ob0).at' = x := ⟨_, rfl⟩
      rw [hx] at hgc hlt hsu
      have hx0 : (0 : Int) ≤ (x : Int) := by omega
      have hxN : (x : Int) < (N : Int) := by omega
      have x4 := bool_cell hbx hlt
      have f4 := frozen_of (show wr.heap[ub]? = some (.cells _ _ _) from hbx) x
      have l4 := (Array.getElem?_eq_some_iff.1 (show wr.heap[ub]? = some _ from hbx)).1
      have hs1 := cells_set HBX.out x (.bool true)
      rw [bool_set, ← hsu] at hs1
      have HS1 : Hid (BoolsAt (wr.setCell ⟨ub, x, none⟩ (.bool true)) ub N (atsTo s (i + 1))) := Lib.hid hs1
      have HO1 := Lib.hid (hon.setCell (p := ⟨ub, x, none⟩) (.inl ⟨Nat.le_refl _, Nat.lt_succ_self _⟩) (.bool true))
      generalize decide (x ∈ atsTo s i) = b at *
      clear hst hr2 hr3 hon hbx hsu hx hs1
      go_wp2_with fail
      exact ⟨⟨i + 1, by go_num, hin, HO1.out, HS1.out⟩, by simp [intOf]; omega⟩
    · obtain rfl : i = nb := by omega
      have hat : ∀ x, x < N → wr.cell? ⟨ub, x, none⟩ = some (.bool (s.B 0 x)) := fun x hx => by
        rw [bool_cell hbx hx, ← HNB.out, atsTo_all s (by rw [HN.out]; exact hx)]
      have hpg : ∀ p, p < s.n → ∃ g, a2 = some ⟨g, 0, none⟩ ∧ g < wr.heap.size ∧ wr.cell? ⟨g, p * 3, none⟩ = some (.int .i64 (s.P p).k) ∧ wr.cell? ⟨g, p * 3 + 1, none⟩ = some (.int .i64 (s.P p).c) := fun p hp => by
        obtain ⟨a, c, e, h⟩ := hr2
        injection e with e _ _
        subst e
        obtain ⟨g, e1, e2, e3⟩ := h p hp
        exact ⟨g, e1, e2, e3 0 (by omega), e3 1 (by omega)⟩
      have hul := (Array.getElem?_eq_some_iff.1 (show wr.heap[ub]? = some _ from hbx)).1
      have HAT := Lib.hid hat
      have HPG := Lib.hid hpg
      have HST := Lib.hid hst
      clear hon hbx hr2 hr3 hat hpg hst HON HBX HC HLT HSU
      rcases HCL.out with ⟨h32, h8, hwd, hb0⟩ | ⟨c, hc, _, hcz, hwd, hbk, _⟩
      · have e1 : v1 = 8 := by rw [← HV.out.1]; exact h8
        have e3 : v3 = 0 := by rw [← HV.out.2.2, ← HV.out.1]; exact hb0
        subst e1
        subst e3
        have hpz : Sp.pgs z = (z + 63) / 64 := by unfold Sp.pgs; rw [if_pos h8]
        have hz3 := HZ.out
        obtain ⟨mp, hmp⟩ : ∃ mp : Nat, Sp.pgs z = (mp : Int) := ⟨(Sp.pgs z).toNat, by omega⟩
        have hmp1 : (1 : Int) ≤ (mp : Int) := by omega
        have htd : v2.tdiv 64 = (mp : Int) := by rw [← HV.out.2.1, hwd, ← hmp, hpz, Int.tdiv_eq_ediv_of_nonneg (by omega)]; omega
        have hmp2 : (mp : Int) ≤ 16 := by omega
        have hv2b : 0 ≤ v2 ∧ v2 ≤ 2000 := by rw [← HV.out.2.1, hwd]; omega
        obtain ⟨hv2c, hv2d⟩ := hv2b
        have HFIN : Hid (s.hold z = (scan s.P mp s.n).1) := Lib.hid (by unfold St.hold; rw [if_pos h8, hmp, Int.toNat_natCast])
        have HRW := Lib.hid (fun k => scan_row s.P mp (by omega) k)
        clear h8 hwd hb0 hpz hmp h32 hz3
        go_wp2_with fail
        go_loopw [10, 11, 12] (fun x y t W => ∃ p : Nat, x = .int .i64 ((scan s.P mp p).1 : Int) ∧ y = .int .i64 ((scan s.P mp p).2 : Int) ∧ t = .int .i64 (p : Int) ∧ p ≤ s.n ∧ W = wr) (fun _ _ t _ => s.n + 1 - (intOf t).toNat)
        case atStart => exact ⟨0, rfl, rfl, rfl, Nat.zero_le _, rfl⟩
        case round =>
          obtain ⟨p, rfl, rfl, rfl, hp, rfl⟩ := hrel
          have hp0 : (0 : Int) ≤ (p : Int) := by omega
          by_cases hpn : p < s.n
          · have hpI : (p : Int) < (s.n : Int) := by omega
            have hcond : 64 * (p : Int) + 63 < (N : Int) := by have := HN.out; omega
            obtain ⟨g, rfl, gl, k0, k1⟩ := HPG.out p hpn
            have hsl := scan_le s.P mp p
            obtain ⟨hr1, hr2, _⟩ := HRW.out p
            have hsu : scan s.P mp (p + 1) = if (s.P p).k = 0 then (if (scan s.P mp p).2 + 1 = mp then ((scan s.P mp p).1 + 1, 0) else ((scan s.P mp p).1, (scan s.P mp p).2 + 1)) else ((scan s.P mp p).1, 0) := rfl
            have HCS : Hid ((s.P p).k = 0 ∨ ((s.P p).k ≠ 0 ∧ ((s.P p).k ≠ 1 ∨ (s.P p).c ≠ 8))) := Lib.hid (by
              rcases HI.out.pages p hpn with e | ⟨c, hc, e⟩ | ⟨q, r, hr, h1, h2⟩
              · left; rw [e]
              · right; rw [e]; exact ⟨by show (1 : Int) ≠ 0; decide, .inr (by show (c : Int) ≠ 8; omega)⟩
              · right
                by_cases e : p = q
                · subst e; rw [hr.2.2.1]; exact ⟨by show (2 : Int) ≠ 0; decide, .inl (by show (2 : Int) ≠ 1; decide)⟩
                · rw [hr.2.2.2 p (by omega) (by omega)]; exact ⟨by show (3 : Int) ≠ 0; decide, .inl (by show (3 : Int) ≠ 1; decide)⟩)
            obtain ⟨mn, hmn⟩ : ∃ mn, (scan s.P mp p).1 = mn := ⟨_, rfl⟩
            obtain ⟨rn, hrn⟩ : ∃ rn, (scan s.P mp p).2 = rn := ⟨_, rfl⟩
            rw [hmn, hrn] at hsu
            rw [hmn] at hsl ⊢
            rw [hrn] at hr1 hr2 ⊢
            have hm0 : (0 : Int) ≤ (mn : Int) := by omega
            have hm1 : (mn : Int) ≤ 4096 := by omega
            have hr0 : (0 : Int) ≤ (rn : Int) := by omega
            have hr3 : (rn : Int) ≤ 4096 := by omega
            clear hmn hrn
            rcases HCS.out with hk | ⟨hk, hkc⟩
            · rw [hk] at k0
              rw [if_pos hk] at hsu
              by_cases hrm : rn + 1 = mp
              · rw [if_pos hrm] at hsu
                have HSU := Lib.hid hsu
                have hre : ((rn : Int) + 1 == (mp : Int)) = true := by simp; omega
                generalize (s.P p).c = kc at *
                clear hk hsu hrm
                go_wp2_with fail
                exact ⟨⟨p + 1, by rw [HSU.out]; go_num, by rw [HSU.out]; rfl, by go_num, hpn, trivial⟩, by simp [intOf]; omega⟩
              · rw [if_neg hrm] at hsu
                have HSU := Lib.hid hsu
                have hre : ((rn : Int) + 1 == (mp : Int)) = false := by simp; omega
                generalize (s.P p).c = kc at *
                clear hk hsu hrm
                go_wp2_with fail
                exact ⟨⟨p + 1, by rw [HSU.out], by rw [HSU.out]; go_num, by go_num, hpn, trivial⟩, by simp [intOf]; omega⟩
            · rw [if_neg hk] at hsu
              have HSU := Lib.hid hsu
              have e0 : ((s.P p).k != 0) = true := by simpa using hk
              have e1 : ((s.P p).k == 0) = false := by simpa using hk
              rcases hkc with hk1 | hk8
              · have e2 : ((s.P p).k == 1) = false := by simpa using hk1
                generalize (s.P p).c = kc at *
                generalize (s.P p).k = kk at *
                clear hk hsu hk1
                go_wp2_with fail
                exact ⟨⟨p + 1, by rw [HSU.out], by rw [HSU.out]; rfl, by go_num, hpn, trivial⟩, by simp [intOf]; omega⟩
              · have e2 : ((s.P p).c == 8) = false := by simpa using hk8
                generalize (s.P p).c = kc at *
                generalize (s.P p).k = kk at *
                clear hk hsu hk8
                by_cases hk1 : kk = 1
                · subst hk1
                  go_wp2_with fail
                  exact ⟨⟨p + 1, by rw [HSU.out], by rw [HSU.out]; rfl, by go_num, hpn, trivial⟩, by simp [intOf]; omega⟩
                · have e3 : (kk == 1) = false := by simpa using hk1
                  clear hk1
                  go_wp2_with fail
                  exact ⟨⟨p + 1, by rw [HSU.out], by rw [HSU.out]; rfl, by go_num, hpn, trivial⟩, by simp [intOf]; omega⟩
          · obtain rfl : p = s.n := by omega
            go_wp2_with fail
            go_ret
            exact ⟨by rw [HFIN.out]; rfl, HST.out⟩
      · have hbb := bk_le c hc
        have e1 : v1 = (c : Int) := by rw [← HV.out.1]; exact hcz
        have e2 : v2 = (Sp.cw c : Int) := by rw [← HV.out.2.1]; exact hwd
        have e3 : v3 = (Sp.bk c : Int) := by rw [← HV.out.2.2, ← HV.out.1, hcz, bks_bk c hc]
        subst e1
        subst e2
        subst e3
        have hw : (2 ≤ Sp.cw c ∧ Sp.cw c ≤ 32 ∧ Sp.bk c ≤ 32) ∧ Sp.bk c * Sp.cw c ≤ 64 := by
          have h8 : c = 0 ∨ c = 1 ∨ c = 2 ∨ c = 3 ∨ c = 4 ∨ c = 5 ∨ c = 6 ∨ c = 7 := by omega
          rcases h8 with rfl | rfl | rfl | rfl | rfl | rfl | rfl | rfl <;> decide
        have HFIN : Hid (s.hold z = Sp.bk c * fpg s.P s.n + (frs s c (64 * s.n)).length) := Lib.hid (by unfold St.hold; rw [if_neg (by omega), hcz, Int.toNat_natCast, frs_cnt])
        have HFS : Hid (∀ p, p < s.n → s.P p = ⟨1, c, 0⟩ → ∀ i, i < Sp.bk c → (!s.B 0 (64 * p + i * Sp.cw c)) = s.B (c + 1) (64 * p + i * Sp.cw c)) := Lib.hid fun p hp hP i hi => HI.out.blkFree hc hp hP hi
        have HSTP : Hid (∀ p, s.P p = ⟨1, c, 0⟩ → ∀ i, i < Sp.bk c → (frs s c (64 * p + (i + 1) * Sp.cw c)).length = if s.B (c + 1) (64 * p + i * Sp.cw c) then (frs s c (64 * p + i * Sp.cw c)).length + 1 else (frs s c (64 * p + i * Sp.cw c)).length) := Lib.hid fun p hP i hi => by
          rw [frs_step HI.out hc hP hi]
          split
          · rw [List.length_append]; rfl
          · rfl
        have HRS : Hid (∀ p, frs s c (64 * p + Sp.bk c * Sp.cw c) = frs s c (64 * p + 64)) := Lib.hid fun p => frs_rest HI.out hc
        have HOT : Hid (∀ p, s.P p ≠ ⟨1, c, 0⟩ → frs s c (64 * p + 64) = frs s c (64 * p)) := Lib.hid fun p h => frs_page HI.out hc h
        have HLE := Lib.hid (fun a => frs_len s c a)
        have hcI : (c : Int) < 8 := by omega
        have hc0 : (0 : Int) ≤ (c : Int) := by omega
        have hc8 : ((c : Int) == 8) = false := by simp; omega
        generalize Sp.cw c = cw at *
        generalize Sp.bk c = bk at *
        obtain ⟨⟨hw1, hw2, hw3⟩, hbw⟩ := hw
        have HBW := Lib.hid hbw
        clear hcz hwd hbk hbw
        go_wp2_with fail
        go_loopw [10, 11, 12] (fun x y t W => ∃ (p m : Nat), x = .int .i64 (m : Int) ∧ y = .int .i64 0 ∧ t = .int .i64 (p : Int) ∧ p ≤ s.n ∧ m = bk * fpg s.P p + (frs s c (64 * p)).length ∧ W = wr) (fun _ _ t _ => s.n + 1 - (intOf t).toNat)
        case atStart => exact ⟨0, 0, rfl, rfl, rfl, Nat.zero_le _, rfl, rfl⟩
        case round =>
          obtain ⟨p, m, rfl, rfl, rfl, hp, hm, rfl⟩ := hrel
          have hp0 : (0 : Int) ≤ (p : Int) := by omega
          have hfl := fpg_le s.P p
          have hmb : m ≤ 500000 := by
            have h1 := HLE.out (64 * p)
            have h2 : bk * fpg s.P p ≤ 32 * p := Nat.mul_le_mul hw3 hfl
            omega
          have hmI : (m : Int) ≤ 500000 := by omega
          have hm0 : (0 : Int) ≤ (m : Int) := by omega
          have HM := Lib.hid hm
          clear hm
          by_cases hpn : p < s.n
          · have hpI : (p : Int) < (s.n : Int) := by omega
            have hcond : 64 * (p : Int) + 63 < (N : Int) := by have := HN.out; omega
            obtain ⟨g, rfl, gl, k0, k1⟩ := HPG.out p hpn
            have hfp : fpg s.P (p + 1) = fpg s.P p + if (s.P p).k = 0 then 1 else 0 := rfl
            have HFP := Lib.hid hfp
            clear hfp
            by_cases hPc : s.P p = ⟨1, c, 0⟩
            · rw [hPc] at k0 k1
              have hk1 : (s.P p).k ≠ 0 := by rw [hPc]; exact (by decide : (1 : Int) ≠ 0)
              have HFB := Lib.hid (HFS.out p hpn hPc)
              have HSB := Lib.hid (HSTP.out p hPc)
              have HMN : Hid (∀ m', m' = bk * fpg s.P p + (frs s c (64 * p + bk * cw)).length → m' = bk * fpg s.P (p + 1) + (frs s c (64 * (p + 1))).length) := Lib.hid fun m' h => by
                rw [h, HFP.out, if_neg hk1, HRS.out p, show 64 * (p + 1) = 64 * p + 64 by omega]; rfl
              have hbI0 : (0 : Int) ≤ (bk : Int) := by omega
              clear hk1 hPc
              go_wp2_with fail
              go_loopw [10, 13] (fun x y W => ∃ (j m' : Nat), x = .int .i64 (m' : Int) ∧ y = .int .i64 (j : Int) ∧ j ≤ bk ∧ m' = bk * fpg s.P p + (frs s c (64 * p + j * cw)).length ∧ W = wr) (fun _ y _ => bk + 1 - (intOf y).toNat)
              case atStart => exact ⟨0, m, rfl, rfl, Nat.zero_le _, by rw [Nat.zero_mul]; exact HM.out, rfl⟩
              case round =>
                obtain ⟨j, m', rfl, rfl, hj, hm', rfl⟩ := hrel
                have hj0 : (0 : Int) ≤ (j : Int) := by omega
                have hmb' : m' ≤ 500000 := by
                  have h1 := HLE.out (64 * p + j * cw)
                  have h2 : bk * fpg s.P p ≤ 32 * p := Nat.mul_le_mul hw3 hfl
                  have h3 : j * cw ≤ bk * cw := Nat.mul_le_mul_right _ hj
                  have h4 := HBW.out
                  omega
                have hmI' : (m' : Int) ≤ 500000 := by omega
                have hm0' : (0 : Int) ≤ (m' : Int) := by omega
                have HM' := Lib.hid hm'
                clear hm'
                by_cases hjb : j < bk
                · have hjI : (j : Int) < (bk : Int) := by omega
                  obtain ⟨K, hK⟩ : ∃ K : Nat, j * cw = K := ⟨_, rfl⟩
                  have hK0 : (j : Int) * (cw : Int) = (K : Int) := by rw [← hK]; simp
                  have hKz : K + cw ≤ 64 := by have h2 : (j + 1) * cw ≤ bk * cw := Nat.mul_le_mul_right _ hjb; have := HBW.out; rw [Nat.succ_mul] at h2; omega
                  obtain ⟨x, hx⟩ : ∃ x : Nat, 64 * p + K = x := ⟨_, rfl⟩
                  have hx0 : 64 * (p : Int) + (K : Int) = (x : Int) := by omega
                  have hK1 : (K : Int) ≤ 64 := by omega
                  have hK2 : (0 : Int) ≤ (K : Int) := by omega
                  have hx1 : (0 : Int) ≤ (x : Int) := by omega
                  have hx2 : (x : Int) < (N : Int) := by have := HN.out; omega
                  have ha := HAT.out x (by omega)
                  have hfb := HFB.out j hjb
                  have hsb := HSB.out j hjb
                  rw [hK, hx] at hfb hsb
                  obtain ⟨b0, hb0⟩ : ∃ b0, s.B 0 x = b0 := ⟨_, rfl⟩
                  rw [hb0] at ha hfb
                  rw [← hfb] at hsb
                  have HMK := HM'.out
                  rw [hK, hx] at HMK
                  cases b0 with
                  | true =>
                    rw [if_neg (by decide)] at hsb
                    have HNM : Hid (m' = bk * fpg s.P p + (frs s c (64 * p + (j + 1) * cw)).length) := Lib.hid (by rw [hsb]; exact HMK)
                    clear hfb hsb HMK hb0 hK hx hKz
                    go_wp2_with fail
                    exact ⟨⟨j + 1, m', rfl, by go_num, hjb, HNM.out, trivial⟩, by simp [intOf]; omega⟩
                  | false =>
                    rw [if_pos (by decide)] at hsb
                    have HNM : Hid (m' + 1 = bk * fpg s.P p + (frs s c (64 * p + (j + 1) * cw)).length) := Lib.hid (by rw [hsb, HMK]; omega)
                    clear hfb hsb HMK hb0 hK hx hKz
                    go_wp2_with fail
                    exact ⟨⟨j + 1, m' + 1, by go_num, by go_num, hjb, HNM.out, trivial⟩, by simp [intOf]; omega⟩
                · obtain rfl : j = bk := by omega
                  have HNM := Lib.hid (HMN.out m' HM'.out)
                  go_wp2_with fail
                  exact ⟨⟨p + 1, m', rfl, rfl, by go_num, hpn, HNM.out, trivial⟩, by simp [intOf]; omega⟩
            · have hot := HOT.out p hPc
              by_cases hk : (s.P p).k = 0
              · have HNM : Hid (m + bk = bk * fpg s.P (p + 1) + (frs s c (64 * (p + 1))).length) := Lib.hid (by
                  rw [HFP.out, if_pos hk, show 64 * (p + 1) = 64 * p + 64 by omega, hot, HM.out, Nat.mul_add]; omega)
                rw [hk] at k0
                generalize (s.P p).c = kc at *
                have hbI0 : (0 : Int) ≤ (bk : Int) := by omega
                have hbI1 : (bk : Int) ≤ 32 := by omega
                clear hk hot hPc
                go_wp2_with fail
                exact ⟨⟨p + 1, m + bk, by go_num, rfl, by go_num, hpn, HNM.out, trivial⟩, by simp [intOf]; omega⟩
              · have HNM : Hid (m = bk * fpg s.P (p + 1) + (frs s c (64 * (p + 1))).length) := Lib.hid (by
                  rw [HFP.out, if_neg hk, show 64 * (p + 1) = 64 * p + 64 by omega, hot, HM.out]; rfl)
                have hkc : (s.P p).k ≠ 1 ∨ (s.P p).c ≠ (c : Int) := by
                  rcases HI.out.pages p hpn with e | ⟨c', hc', e⟩ | ⟨q, r, hr, h1, h2⟩
                  · rw [e] at hk; exact absurd rfl hk
                  · right; rw [e]; intro e2; exact hPc (by rw [e]; congr 1)
                  · left
                    by_cases e : p = q
                    · subst e; rw [hr.2.2.1]; show (2 : Int) ≠ 1; decide
                    · rw [hr.2.2.2 p (by omega) (by omega)]; show (3 : Int) ≠ 1; decide
                have e0 : ((s.P p).k != 0) = true := by simpa using hk
                have e1 : ((s.P p).k == 0) = false := by simpa using hk
                generalize (s.P p).c = kc at *
                generalize (s.P p).k = kk at *
                clear hk hot hPc
                by_cases hk1 : kk = 1
                · have e2 : (kc == (c : Int)) = false := by
                    rcases hkc with h | h
                    · exact absurd hk1 h
                    · simpa using h
                  subst hk1
                  clear hkc
                  go_wp2_with fail
                  exact ⟨⟨p + 1, m, rfl, rfl, by go_num, hpn, HNM.out, trivial⟩, by simp [intOf]; omega⟩
                · have e3 : (kk == 1) = false := by simpa using hk1
                  clear hk1 hkc
                  go_wp2_with fail
                  exact ⟨⟨p + 1, m, rfl, rfl, by go_num, hpn, HNM.out, trivial⟩, by simp [intOf]; omega⟩
          · obtain rfl : p = s.n := by omega
            go_wp2_with fail
            go_ret
            exact ⟨by rw [HFIN.out, HM.out]; rfl, HST.out⟩
end Go.Proofs.YtiniadochjeieaaDoor
