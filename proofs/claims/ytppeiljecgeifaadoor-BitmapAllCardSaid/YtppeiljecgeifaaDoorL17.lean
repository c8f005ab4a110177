/-
  The walk of hearthlaw3.plays. Printed by wip/gen16.py.
-/
import Derived.Test.YtppeiljecgeifaaDoorL16
namespace Go.Proofs.YtppeiljecgeifaaDoor
open Go Go.RowKit

set_option maxRecDepth 8000 in
set_option maxHeartbeats 1600000 in
theorem plays_main (n k : Nat) (a : Option Addr) (len cap : Nat) (u : Unit) (lo hi : Int) (w : World) (hn : n ≤ 20000) (hk : k ≤ 20000) (hops : IsOps w a len cap u) (hT : Tab w) (h0 : 0 < w.heap.size) :
    Calls Tryd.prog 32 #[.int .i64 (n : Int), .int .i64 (k : Int), .slice a len cap, .int .i64 lo, .int .i64 hi] w fun e w' => e = .returned (.bool true) ∧ Still w w' := by
  have HT := Lib.hid hT; clear hT
  have HOPS := Lib.hid hops; clear hops
  have hn1 : decide ((20000 : Int) < (n : Int)) = false := decide_eq_false (by omega)
  have hk1 : decide ((20000 : Int) < (k : Int)) = false := decide_eq_false (by omega)
  go_enter Tryd.func32, Tryd.ntmps32
  go_wp2_with fail
  refine (alive_any _ HT.out h0).mono ?_
  rintro e w1 ⟨rfl, hs1⟩
  have HT1 : Hid (Tab w1) := HT.out.only hs1 h0
  have HS1 := Lib.hid hs1
  have h01 : 0 < w1.heap.size := Nat.lt_of_lt_of_le h0 hs1.size
  have hs1s : w.heap.size ≤ w1.heap.size := hs1.size
  clear hs1
  go_wp2_with fail
  refine (made_yes n _ (by omega) HT1.out h01).mono ?_
  rintro e w2 ⟨qa, rfl, hpa, hs2⟩
  have HT2 : Hid (Tab w2) := HT1.out.only hs2 h01
  have HS2 : Hid (Still w w2) := HS1.out.trans (hs2.any _ _)
  have h02 : 0 < w2.heap.size := Nat.lt_of_lt_of_le h01 hs2.size
  have hs2s : w1.heap.size ≤ w2.heap.size := hs2.size
  have HPA := Lib.hid hpa; clear hpa hs2
  go_wp2_with fail
  refine (made_yes k _ (by omega) HT2.out h02).mono ?_
  rintro e w3 ⟨qb, rfl, hpb, hs3⟩
  have HT3 : Hid (Tab w3) := HT2.out.only hs3 h02
  have HS3 : Hid (Still w w3) := HS2.out.trans (hs3.any _ _)
  have HPA3 := Lib.hid (HPA.out.still hs3)
  have HPB := Lib.hid hpb; clear hpb hs3
  go_wp2_with fail
  have hplay : Play w (w3.alloc (.cells #[.pointer (some qa), .pointer (some qb)] 23)) w3.heap.size qa qb := by
    refine play_start (n := n) (k := k) (m1 := w1.heap.size) (m2 := w2.heap.size) (HPA3.out) (HPB.out) ?_ ?_ HS3.out
    · exact hs1s
    · exact hs2s
  have HT4 : Hid (Tab (w3.alloc (.cells #[.pointer (some qa), .pointer (some qb)] 23))) := HT3.out.only ((Only.refl _ _ w3).alloc _ : Still w3 _) (Nat.lt_of_lt_of_le h0 HS3.out.size)
  generalize w3.alloc (.cells #[.pointer (some qa), .pointer (some qb)] 23) = w4 at *
  generalize w3.heap.size = lb at *
  have HPLAY := Lib.hid hplay
  clear hplay HPA HPA3 HPB HT3 HT2 HT1 HS3 HS2 HS1 hs1s hs2s h01 h02
  go_loopw [16] (fun y wr => ∃ i : Nat, y = .int .i64 i ∧ i ≤ 300 ∧ Play w wr lb qa qb) (fun y _ => 301 - (intOf y).toNat)
  case atStart => exact ⟨0, rfl, by omega, HPLAY.out⟩
  case round =>
    obtain ⟨i, rfl, hi3, hpl⟩ := hrel
    have HPL := Lib.hid hpl; clear hpl
    have hi0 : (0 : Int) ≤ (i : Int) := by omega
    by_cases hlt : i < len ∧ i < 300
    · obtain ⟨hl1, hl2⟩ := hlt
      have hl1' : (i : Int) < (len : Int) := by omega
      have hl2' : (i : Int) < (300 : Int) := by omega
      have hrow : ∃ x, a = some x ∧ len ≤ cap ∧ cap ≤ maxLen ∧ ∃ who k A B C, OpAt w (x.add (i * 5)) who k A B C := by
        rcases HOPS.out with ⟨_, h, _⟩ | ⟨x, hx, h1, h2, h3⟩
        · omega
        · exact ⟨x, hx, h1, h2, h3 i hl1⟩
      obtain ⟨x, rfl, hlc, hcm, who, k', A, B, C, hop⟩ := hrow
      have HOPW := Lib.hid hop
      have HPO := Lib.hid (play_op HPL.out hop)
      clear hop
      obtain ⟨L, px, py, hpl⟩ := HPL.out
      have HPL0 := Lib.hid hpl.lt
      have hx0 := HPO.out.1; have hx1 := HPO.out.2.1; have hx2 := HPO.out.2.2.1; have hx3 := HPO.out.2.2.2.1; have hx4 := HPO.out.2.2.2.2.1; have hA := HPO.out.2.2.2.2.2.1; have hB := HPO.out.2.2.2.2.2.2
      have hs5 : Still wr (wr.alloc (.cells #[.int .i64 who, .int .i64 k', .int .i64 A, .int .i64 B, .int .i64 C] 66)) := (Only.refl _ _ wr).alloc _
      have HP5 := Lib.hid (hpl.still hs5)
      clear hpl hs5
      have hl0 := HP5.out.c0
      have hl1 := HP5.out.c1
      have hii : IntKind.i64.wrap ((i : Int) + 1) = ((i + 1 : Nat) : Int) := by rw [IntKind.wrap_i64]; omega
      rcases (by omega : who % 2 = 0 ∨ who % 2 = 1) with hm | hm
      · obtain ⟨Z, hZ⟩ := (HP5.out.herd.1 px HP5.out.inx).2
        have HZ := Lib.hid hZ; clear hZ
        have hbit : bits BinOp.and IntKind.i64 who 1 = 0 := (and_one_i64 who).trans hm
        clear hm
        by_cases k1 : 1 ≤ k'
        · have hd1 : decide ((1 : Int) ≤ k') = true := decide_eq_true k1
          by_cases k2 : k' ≤ 5
          · have hd2 : decide (k' ≤ (5 : Int)) = true := decide_eq_true k2
            clear k1 k2
            go_wp2_with fail
            refine (turned_pair px.lo px.hi px.n px.q Z who k' A B C _ HZ.out hA).mono ?_
            rintro e w6 ⟨rfl, hS6, ho6⟩
            have HP6 := Lib.hid (HP5.out.turn HP5.out.inx ho6 hS6)
            clear hS6 ho6
            go_wp2
            go_roundw
            case rel => exact ⟨i + 1, rfl, by omega, _, _, _, HP6.out⟩
            case measure => simp [intOf]; omega
          · have hd2 : decide (k' ≤ (5 : Int)) = false := decide_eq_false k2
            by_cases k3 : k' = 6
            · subst k3
              clear k1 k2
              obtain ⟨qn, bx, pm, pr, a1, b1, c1, d1, hq, hpz⟩ := HZ.out
              have HPZ := Lib.hid hpz; clear hpz
              have hq0 := HPZ.out.c0; have hq1 := HPZ.out.c1
              have hqs : qn < (wr.alloc (.cells #[.int .i64 who, .int .i64 6, .int .i64 A, .int .i64 B, .int .i64 C] 66)).heap.size := by have := HPZ.out.qhi; have := HPZ.out.top; omega
              rw [hq] at hl0
              have hob : (wr.alloc (.cells #[.int .i64 who, .int .i64 6, .int .i64 A, .int .i64 B, .int .i64 C] 66)).cell? ⟨wr.heap.size, 0, none⟩ = some (.int .i64 who) := cell_new _ _ _ 0
              have hobs : wr.heap.size < (wr.alloc (.cells #[.int .i64 who, .int .i64 6, .int .i64 A, .int .i64 B, .int .i64 C] 66)).heap.size := by simp
              have hlbs := HP5.out.lt
              have HQ := Lib.hid hq
              have HOB : Hid (lb < wr.heap.size) := HPL0.out
              clear hq
              go_wp2_with fail
              generalize wr.heap.size = ob at *
              generalize wr.alloc (.cells #[.int .i64 who, .int .i64 6, .int .i64 A, .int .i64 B, .int .i64 C] 66) = w5 at *
              have hsub : IntKind.i64.wrap (1 - 0) = 1 := by decide
              have hsub2 : IntKind.i64.wrap 1 = 1 := by decide
              have hnq : lb ≠ qn := by
                have h1 := HPZ.out.qlo; have h2 := HPZ.out.qhi; have h3 := HP5.out.far px HP5.out.inx
                omega
              have hno : lb ≠ ob := by rintro rfl; have := HOB.out; omega
              go_region_held3 (fun w' => w'.cell? ⟨qn, 0, none⟩ = some (.pointer (some pm)) ∧ w'.cell? ⟨qn, 1, none⟩ = some (.pointer (some pr)) ∧ w'.cell? ⟨ob, 0, none⟩ = some (.int .i64 who)) (first | exact ⟨hq0, hq1, hob⟩ | exact ⟨r0, r1, r2⟩ | exact ⟨s0, s1, s2⟩ | exact ⟨box_cell s0, box_cell s1, box_cell s2⟩ | exact ⟨set_cell (box_cell s0) hnq.symm, set_cell (box_cell s1) hnq.symm, set_cell (box_cell s2) hno.symm⟩)
                (first
                  | (go_at_call 29; refine (copy_any a1 b1 px.n pm Z _ (HPZ.out.map.drewN 1)).mono ?_; rintro e w6 ⟨p', rfl, hm6, hs6⟩; have HS6 : Hid (Still w5 w6) := ((Only.refl _ _ w5).drewN 1).trans hs6; have HM6 := Lib.hid hm6; have HPZ6 := Lib.hid (HPZ.out.kept HS6.out (.inl HPZ.out.top)); have r0 := HPZ6.out.c0; have r1 := HPZ6.out.c1; have r2 := (still_cell HS6.out hobs 0).trans hob; clear hm6 hs6)
                  | (go_at_call 41; refine (rcopy_any c1 d1 px.n pr Z _ HPZ6.out.ref).mono ?_; rintro e w7 ⟨r', rfl, hr7, hs7⟩; have HS7 := Lib.hid (HS6.out.trans (hs7.any _ _)); have HM7 := Lib.hid (HM6.out.still hs7); have HR7 := Lib.hid hr7; have HSZ := Lib.hid hs7.size; have HPZ7 := Lib.hid (HPZ.out.kept HS7.out (.inl HPZ.out.top)); have s0 := HPZ7.out.c0; have s1 := HPZ7.out.c1; have s2 := (still_cell HS7.out hobs 0).trans hob; have hh7 := (HP5.out.still HS7.out).head; have s3 := box_cell (o := .cells #[.pointer (some p'), .pointer (some r'), Value.nilFunc] 52) (HP5.out.still HS7.out).c1; have s4 := box_frozen (o := .cells #[.pointer (some p'), .pointer (some r'), Value.nilFunc] 52) (q := ⟨lb, 1, none⟩) (Array.getElem?_eq_some_iff.1 hh7).1 (head_frozen hh7 1); clear hr7 hs7 hh7))
              clear hl0 hl1 r0 r1 r2 s0 s1 s4
              have hnp : lb ≠ w7.heap.size := by have := HS7.out.size; omega
              have hop' : ob ≠ w7.heap.size := by have := HS7.out.size; omega
              have v1 : ((w7.alloc (.cells #[.pointer (some p'), .pointer (some r'), .nilFunc] 52)).setCell ⟨lb, 1, none⟩ (.pointer (some ⟨w7.heap.size, 0, none⟩))).cell? ⟨w7.heap.size, 0, none⟩ = some (.pointer (some p')) := set_cell (cell_new _ _ _ 0) hnp.symm
              have v3 : ((w7.alloc (.cells #[.pointer (some p'), .pointer (some r'), .nilFunc] 52)).setCell ⟨lb, 1, none⟩ (.pointer (some ⟨w7.heap.size, 0, none⟩))).cell? ⟨w7.heap.size, 2, none⟩ = some .nilFunc := set_cell (cell_new _ _ _ 2) hnp.symm
              have v4 : ((w7.alloc (.cells #[.pointer (some p'), .pointer (some r'), .nilFunc] 52)).setCell ⟨lb, 1, none⟩ (.pointer (some ⟨w7.heap.size, 0, none⟩))).frozen? ⟨w7.heap.size, 2, none⟩ = false := set_frozen (heap_alloc_eq _ _) hnp.symm
              have v0 : ((w7.alloc (.cells #[.pointer (some p'), .pointer (some r'), .nilFunc] 52)).setCell ⟨lb, 1, none⟩ (.pointer (some ⟨w7.heap.size, 0, none⟩))).cell? ⟨lb, 1, none⟩ = some (.pointer (some ⟨w7.heap.size, 0, none⟩)) := World.cell?_setCell_same _ _ _ s3
              have v2 : ((w7.alloc (.cells #[.pointer (some p'), .pointer (some r'), .nilFunc] 52)).setCell ⟨lb, 1, none⟩ (.pointer (some ⟨w7.heap.size, 0, none⟩))).cell? ⟨ob, 0, none⟩ = some (.int .i64 who) := set_cell (box_cell s2) hno.symm
              have HZ8 : Hid (w7.heap.size < ((w7.alloc (.cells #[.pointer (some p'), .pointer (some r'), .nilFunc] 52)).setCell ⟨lb, 1, none⟩ (.pointer (some ⟨w7.heap.size, 0, none⟩))).heap.size) := Lib.hid (by rw [size_setCell]; simp)
              clear s2 s3
              obtain ⟨w8, hw8⟩ : ∃ w8, w8 = (w7.alloc (.cells #[.pointer (some p'), .pointer (some r'), .nilFunc] 52)).setCell ⟨lb, 1, none⟩ (.pointer (some ⟨w7.heap.size, 0, none⟩)) := ⟨_, rfl⟩
              rw [← hw8] at v0 v1 v2 v3 v4 HZ8 ⊢
              have HW8 := Lib.hid hw8
              clear hw8
              generalize hnpe : w7.heap.size = np at v0 v1 v2 v3 v4 HZ8 hnp hop' ⊢
              have HNP := Lib.hid hnpe; clear hnpe
              go_wp2_with fail
              have hst : ∀ (ad : Addr) (fn : Fn) (f c : Array Value) (W : World), (store ad (.func fn f c)).run Tryd.prog W = stored Tryd.prog W ad (.func fn f c) .plain := fun ad fn f c W => run_store Tryd.prog W ad _ .plain rfl
              go_region_held3 (fun w' => w'.cell? ⟨ob, 0, none⟩ = some (.int .i64 who) ∧ w'.cell? ⟨lb, 1, none⟩ = some (.pointer (some ⟨np, 0, none⟩)) ∧ w'.cell? ⟨np, 0, none⟩ = some (.pointer (some p'))) (first | exact ⟨v2, v0, v1⟩ | exact ⟨t2, t0, t1⟩ | exact ⟨set_cell t2 hop', set_cell t0 hnp, (World.cell?_setCell_other _ _ _ _ (fun hh => by injection hh with _ h2; cases h2)).trans t1⟩)
                (first
                  | (go_at_call 24; refine (all_any p' _).mono ?_; rintro e w9 ⟨rfl, hw9⟩; have t0 : w9.cell? ⟨lb, 1, none⟩ = some (.pointer (some ⟨np, 0, none⟩)) := hw9 ▸ box_cell v0; have t1 : w9.cell? ⟨np, 0, none⟩ = some (.pointer (some p')) := hw9 ▸ box_cell v1; have t2 : w9.cell? ⟨ob, 0, none⟩ = some (.int .i64 who) := hw9 ▸ box_cell v2; have t3 : w9.cell? ⟨np, 2, none⟩ = some .nilFunc := hw9 ▸ box_cell v3; have t4 : w9.frozen? ⟨np, 2, none⟩ = false := hw9 ▸ box_frozen HZ8.out v4; have HW9 := Lib.hid hw9; clear hw9))
              have HPN : Hid (Play w (w9.setCell ⟨np, 2, none⟩ (itv w8.heap.size)) lb qa qb) := by
                refine HP5.out.more0 HS6.out.size HSZ.out HS7.out HM7.out HR7.out w8 w9 _ 1 ?_ HW9.out ?_ (by decide)
                · exact HW8.out
                · rw [HNP.out]
              clear v0 v1 v2 v3 v4 t0 t1 t2 t3 t4
              go_wp2
              go_roundw
              case rel => exact ⟨i + 1, rfl, by omega, HPN.out⟩
              case measure => simp [intOf]; omega
            · have hd3 : (k' == 6) = false := beq_eq_false_iff_ne.2 k3
              clear k1 k2 k3
              by_cases k4 : lo ≤ k'
              · have hd4 : decide (lo ≤ k') = true := decide_eq_true k4
                by_cases k5 : k' ≤ hi
                · have hd5 : decide (k' ≤ hi) = true := decide_eq_true k5
                  clear k4 k5
                  go_wp2_with fail
                  refine (looked_pair px.lo px.hi px.n px.q Z who k' A B C _ HZ.out (Nat.lt_of_lt_of_le h0 (HP5.out.herd.1 px HP5.out.inx).1) (HT.out.only HP5.out.old h0) hA hB).mono ?_
                  rintro e w6 ⟨rfl, hS6, ho6⟩
                  have HP6 := Lib.hid (HP5.out.turn HP5.out.inx ho6 hS6)
                  clear hS6 ho6
                  go_wp2
                  go_roundw
                  case rel => exact ⟨i + 1, rfl, by omega, _, _, _, HP6.out⟩
                  case measure => simp [intOf]; omega
                · have hd5 : decide (k' ≤ hi) = false := decide_eq_false k5
                  clear k4 k5
                  go_wp2
                  go_roundw
                  case rel => exact ⟨i + 1, rfl, by omega, _, _, _, HP5.out⟩
                  case measure => simp [intOf]; omega
              · have hd4 : decide (lo ≤ k') = false := decide_eq_false k4
                clear k4
                go_wp2
                go_roundw
                case rel => exact ⟨i + 1, rfl, by omega, _, _, _, HP5.out⟩
                case measure => simp [intOf]; omega
        · have hd1 : decide ((1 : Int) ≤ k') = false := decide_eq_false k1
          have hd3 : (k' == 6) = false := beq_eq_false_iff_ne.2 (by omega)
          clear k1
          by_cases k4 : lo ≤ k'
          · have hd4 : decide (lo ≤ k') = true := decide_eq_true k4
            by_cases k5 : k' ≤ hi
            · have hd5 : decide (k' ≤ hi) = true := decide_eq_true k5
              clear k4 k5
              go_wp2_with fail
              refine (looked_pair px.lo px.hi px.n px.q Z who k' A B C _ HZ.out (Nat.lt_of_lt_of_le h0 (HP5.out.herd.1 px HP5.out.inx).1) (HT.out.only HP5.out.old h0) hA hB).mono ?_
              rintro e w6 ⟨rfl, hS6, ho6⟩
              have HP6 := Lib.hid (HP5.out.turn HP5.out.inx ho6 hS6)
              clear hS6 ho6
              go_wp2
              go_roundw
              case rel => exact ⟨i + 1, rfl, by omega, _, _, _, HP6.out⟩
              case measure => simp [intOf]; omega
            · have hd5 : decide (k' ≤ hi) = false := decide_eq_false k5
              clear k4 k5
              go_wp2
              go_roundw
              case rel => exact ⟨i + 1, rfl, by omega, _, _, _, HP5.out⟩
              case measure => simp [intOf]; omega
          · have hd4 : decide (lo ≤ k') = false := decide_eq_false k4
            clear k4
            go_wp2
            go_roundw
            case rel => exact ⟨i + 1, rfl, by omega, _, _, _, HP5.out⟩
            case measure => simp [intOf]; omega
      · obtain ⟨Z, hZ⟩ := (HP5.out.herd.1 py HP5.out.iny).2
        have HZ := Lib.hid hZ; clear hZ
        have hbit : bits BinOp.and IntKind.i64 who 1 = 1 := (and_one_i64 who).trans hm
        clear hm
        by_cases k1 : 1 ≤ k'
        · have hd1 : decide ((1 : Int) ≤ k') = true := decide_eq_true k1
          by_cases k2 : k' ≤ 5
          · have hd2 : decide (k' ≤ (5 : Int)) = true := decide_eq_true k2
            clear k1 k2
            go_wp2_with fail
            refine (turned_pair py.lo py.hi py.n py.q Z who k' A B C _ HZ.out hA).mono ?_
            rintro e w6 ⟨rfl, hS6, ho6⟩
            have HP6 := Lib.hid (HP5.out.turn HP5.out.iny ho6 hS6)
            clear hS6 ho6
            go_wp2
            go_roundw
            case rel => exact ⟨i + 1, rfl, by omega, _, _, _, HP6.out⟩
            case measure => simp [intOf]; omega
          · have hd2 : decide (k' ≤ (5 : Int)) = false := decide_eq_false k2
            by_cases k3 : k' = 6
            · subst k3
              clear k1 k2
              obtain ⟨qn, bx, pm, pr, a1, b1, c1, d1, hq, hpz⟩ := HZ.out
              have HPZ := Lib.hid hpz; clear hpz
              have hq0 := HPZ.out.c0; have hq1 := HPZ.out.c1
              have hqs : qn < (wr.alloc (.cells #[.int .i64 who, .int .i64 6, .int .i64 A, .int .i64 B, .int .i64 C] 66)).heap.size := by have := HPZ.out.qhi; have := HPZ.out.top; omega
              rw [hq] at hl1
              have hob : (wr.alloc (.cells #[.int .i64 who, .int .i64 6, .int .i64 A, .int .i64 B, .int .i64 C] 66)).cell? ⟨wr.heap.size, 0, none⟩ = some (.int .i64 who) := cell_new _ _ _ 0
              have hobs : wr.heap.size < (wr.alloc (.cells #[.int .i64 who, .int .i64 6, .int .i64 A, .int .i64 B, .int .i64 C] 66)).heap.size := by simp
              have hlbs := HP5.out.lt
              have HQ := Lib.hid hq
              have HOB : Hid (lb < wr.heap.size) := HPL0.out
              clear hq
              go_wp2_with fail
              generalize wr.heap.size = ob at *
              generalize wr.alloc (.cells #[.int .i64 who, .int .i64 6, .int .i64 A, .int .i64 B, .int .i64 C] 66) = w5 at *
              have hsub : IntKind.i64.wrap (1 - 1) = 0 := by decide
              have hsub2 : IntKind.i64.wrap 0 = 0 := by decide
              have hnq : lb ≠ qn := by
                have h1 := HPZ.out.qlo; have h2 := HPZ.out.qhi; have h3 := HP5.out.far py HP5.out.iny
                omega
              have hno : lb ≠ ob := by rintro rfl; have := HOB.out; omega
              go_region_held3 (fun w' => w'.cell? ⟨qn, 0, none⟩ = some (.pointer (some pm)) ∧ w'.cell? ⟨qn, 1, none⟩ = some (.pointer (some pr)) ∧ w'.cell? ⟨ob, 0, none⟩ = some (.int .i64 who)) (first | exact ⟨hq0, hq1, hob⟩ | exact ⟨r0, r1, r2⟩ | exact ⟨s0, s1, s2⟩ | exact ⟨box_cell s0, box_cell s1, box_cell s2⟩ | exact ⟨set_cell (box_cell s0) hnq.symm, set_cell (box_cell s1) hnq.symm, set_cell (box_cell s2) hno.symm⟩)
                (first
                  | (go_at_call 29; refine (copy_any a1 b1 py.n pm Z _ (HPZ.out.map.drewN 1)).mono ?_; rintro e w6 ⟨p', rfl, hm6, hs6⟩; have HS6 : Hid (Still w5 w6) := ((Only.refl _ _ w5).drewN 1).trans hs6; have HM6 := Lib.hid hm6; have HPZ6 := Lib.hid (HPZ.out.kept HS6.out (.inl HPZ.out.top)); have r0 := HPZ6.out.c0; have r1 := HPZ6.out.c1; have r2 := (still_cell HS6.out hobs 0).trans hob; clear hm6 hs6)
                  | (go_at_call 41; refine (rcopy_any c1 d1 py.n pr Z _ HPZ6.out.ref).mono ?_; rintro e w7 ⟨r', rfl, hr7, hs7⟩; have HS7 := Lib.hid (HS6.out.trans (hs7.any _ _)); have HM7 := Lib.hid (HM6.out.still hs7); have HR7 := Lib.hid hr7; have HSZ := Lib.hid hs7.size; have HPZ7 := Lib.hid (HPZ.out.kept HS7.out (.inl HPZ.out.top)); have s0 := HPZ7.out.c0; have s1 := HPZ7.out.c1; have s2 := (still_cell HS7.out hobs 0).trans hob; have hh7 := (HP5.out.still HS7.out).head; have s3 := box_cell (o := .cells #[.pointer (some p'), .pointer (some r'), Value.nilFunc] 52) (HP5.out.still HS7.out).c0; have s4 := box_frozen (o := .cells #[.pointer (some p'), .pointer (some r'), Value.nilFunc] 52) (q := ⟨lb, 0, none⟩) (Array.getElem?_eq_some_iff.1 hh7).1 (head_frozen hh7 0); clear hr7 hs7 hh7))
              clear hl0 hl1 r0 r1 r2 s0 s1 s4
              have hnp : lb ≠ w7.heap.size := by have := HS7.out.size; omega
              have hop' : ob ≠ w7.heap.size := by have := HS7.out.size; omega
              have v1 : ((w7.alloc (.cells #[.pointer (some p'), .pointer (some r'), .nilFunc] 52)).setCell ⟨lb, 0, none⟩ (.pointer (some ⟨w7.heap.size, 0, none⟩))).cell? ⟨w7.heap.size, 0, none⟩ = some (.pointer (some p')) := set_cell (cell_new _ _ _ 0) hnp.symm
              have v3 : ((w7.alloc (.cells #[.pointer (some p'), .pointer (some r'), .nilFunc] 52)).setCell ⟨lb, 0, none⟩ (.pointer (some ⟨w7.heap.size, 0, none⟩))).cell? ⟨w7.heap.size, 2, none⟩ = some .nilFunc := set_cell (cell_new _ _ _ 2) hnp.symm
              have v4 : ((w7.alloc (.cells #[.pointer (some p'), .pointer (some r'), .nilFunc] 52)).setCell ⟨lb, 0, none⟩ (.pointer (some ⟨w7.heap.size, 0, none⟩))).frozen? ⟨w7.heap.size, 2, none⟩ = false := set_frozen (heap_alloc_eq _ _) hnp.symm
              have v0 : ((w7.alloc (.cells #[.pointer (some p'), .pointer (some r'), .nilFunc] 52)).setCell ⟨lb, 0, none⟩ (.pointer (some ⟨w7.heap.size, 0, none⟩))).cell? ⟨lb, 0, none⟩ = some (.pointer (some ⟨w7.heap.size, 0, none⟩)) := World.cell?_setCell_same _ _ _ s3
              have v2 : ((w7.alloc (.cells #[.pointer (some p'), .pointer (some r'), .nilFunc] 52)).setCell ⟨lb, 0, none⟩ (.pointer (some ⟨w7.heap.size, 0, none⟩))).cell? ⟨ob, 0, none⟩ = some (.int .i64 who) := set_cell (box_cell s2) hno.symm
              have HZ8 : Hid (w7.heap.size < ((w7.alloc (.cells #[.pointer (some p'), .pointer (some r'), .nilFunc] 52)).setCell ⟨lb, 0, none⟩ (.pointer (some ⟨w7.heap.size, 0, none⟩))).heap.size) := Lib.hid (by rw [size_setCell]; simp)
              clear s2 s3
              obtain ⟨w8, hw8⟩ : ∃ w8, w8 = (w7.alloc (.cells #[.pointer (some p'), .pointer (some r'), .nilFunc] 52)).setCell ⟨lb, 0, none⟩ (.pointer (some ⟨w7.heap.size, 0, none⟩)) := ⟨_, rfl⟩
              rw [← hw8] at v0 v1 v2 v3 v4 HZ8 ⊢
              have HW8 := Lib.hid hw8
              clear hw8
              generalize hnpe : w7.heap.size = np at v0 v1 v2 v3 v4 HZ8 hnp hop' ⊢
              have HNP := Lib.hid hnpe; clear hnpe
              go_wp2_with fail
              have hst : ∀ (ad : Addr) (fn : Fn) (f c : Array Value) (W : World), (store ad (.func fn f c)).run Tryd.prog W = stored Tryd.prog W ad (.func fn f c) .plain := fun ad fn f c W => run_store Tryd.prog W ad _ .plain rfl
              go_region_held3 (fun w' => w'.cell? ⟨ob, 0, none⟩ = some (.int .i64 who) ∧ w'.cell? ⟨lb, 0, none⟩ = some (.pointer (some ⟨np, 0, none⟩)) ∧ w'.cell? ⟨np, 0, none⟩ = some (.pointer (some p'))) (first | exact ⟨v2, v0, v1⟩ | exact ⟨t2, t0, t1⟩ | exact ⟨set_cell t2 hop', set_cell t0 hnp, (World.cell?_setCell_other _ _ _ _ (fun hh => by injection hh with _ h2; cases h2)).trans t1⟩)
                (first
                  | (go_at_call 24; refine (all_any p' _).mono ?_; rintro e w9 ⟨rfl, hw9⟩; have t0 : w9.cell? ⟨lb, 0, none⟩ = some (.pointer (some ⟨np, 0, none⟩)) := hw9 ▸ box_cell v0; have t1 : w9.cell? ⟨np, 0, none⟩ = some (.pointer (some p')) := hw9 ▸ box_cell v1; have t2 : w9.cell? ⟨ob, 0, none⟩ = some (.int .i64 who) := hw9 ▸ box_cell v2; have t3 : w9.cell? ⟨np, 2, none⟩ = some .nilFunc := hw9 ▸ box_cell v3; have t4 : w9.frozen? ⟨np, 2, none⟩ = false := hw9 ▸ box_frozen HZ8.out v4; have HW9 := Lib.hid hw9; clear hw9))
              have HPN : Hid (Play w (w9.setCell ⟨np, 2, none⟩ (itv w8.heap.size)) lb qa qb) := by
                refine HP5.out.more0 HS6.out.size HSZ.out HS7.out HM7.out HR7.out w8 w9 _ 0 ?_ HW9.out ?_ (by decide)
                · exact HW8.out
                · rw [HNP.out]
              clear v0 v1 v2 v3 v4 t0 t1 t2 t3 t4
              go_wp2
              go_roundw
              case rel => exact ⟨i + 1, rfl, by omega, HPN.out⟩
              case measure => simp [intOf]; omega
            · have hd3 : (k' == 6) = false := beq_eq_false_iff_ne.2 k3
              clear k1 k2 k3
              by_cases k4 : lo ≤ k'
              · have hd4 : decide (lo ≤ k') = true := decide_eq_true k4
                by_cases k5 : k' ≤ hi
                · have hd5 : decide (k' ≤ hi) = true := decide_eq_true k5
                  clear k4 k5
                  go_wp2_with fail
                  refine (looked_pair py.lo py.hi py.n py.q Z who k' A B C _ HZ.out (Nat.lt_of_lt_of_le h0 (HP5.out.herd.1 py HP5.out.iny).1) (HT.out.only HP5.out.old h0) hA hB).mono ?_
                  rintro e w6 ⟨rfl, hS6, ho6⟩
                  have HP6 := Lib.hid (HP5.out.turn HP5.out.iny ho6 hS6)
                  clear hS6 ho6
                  go_wp2
                  go_roundw
                  case rel => exact ⟨i + 1, rfl, by omega, _, _, _, HP6.out⟩
                  case measure => simp [intOf]; omega
                · have hd5 : decide (k' ≤ hi) = false := decide_eq_false k5
                  clear k4 k5
                  go_wp2
                  go_roundw
                  case rel => exact ⟨i + 1, rfl, by omega, _, _, _, HP5.out⟩
                  case measure => simp [intOf]; omega
              · have hd4 : decide (lo ≤ k') = false := decide_eq_false k4
                clear k4
                go_wp2
                go_roundw
                case rel => exact ⟨i + 1, rfl, by omega, _, _, _, HP5.out⟩
                case measure => simp [intOf]; omega
        · have hd1 : decide ((1 : Int) ≤ k') = false := decide_eq_false k1
          have hd3 : (k' == 6) = false := beq_eq_false_iff_ne.2 (by omega)
          clear k1
          by_cases k4 : lo ≤ k'
          · have hd4 : decide (lo ≤ k') = true := decide_eq_true k4
            by_cases k5 : k' ≤ hi
            · have hd5 : decide (k' ≤ hi) = true := decide_eq_true k5
              clear k4 k5
              go_wp2_with fail
              refine (looked_pair py.lo py.hi py.n py.q Z who k' A B C _ HZ.out (Nat.lt_of_lt_of_le h0 (HP5.out.herd.1 py HP5.out.iny).1) (HT.out.only HP5.out.old h0) hA hB).mono ?_
              rintro e w6 ⟨rfl, hS6, ho6⟩
              have HP6 := Lib.hid (HP5.out.turn HP5.out.iny ho6 hS6)
              clear hS6 ho6
              go_wp2
              go_roundw
              case rel => exact ⟨i + 1, rfl, by omega, _, _, _, HP6.out⟩
              case measure => simp [intOf]; omega
            · have hd5 : decide (k' ≤ hi) = false := decide_eq_false k5
              clear k4 k5
              go_wp2
              go_roundw
              case rel => exact ⟨i + 1, rfl, by omega, _, _, _, HP5.out⟩
              case measure => simp [intOf]; omega
          · have hd4 : decide (lo ≤ k') = false := decide_eq_false k4
            clear k4
            go_wp2
            go_roundw
            case rel => exact ⟨i + 1, rfl, by omega, _, _, _, HP5.out⟩
            case measure => simp [intOf]; omega
    · obtain ⟨L, px, py, hpl⟩ := HPL.out
      have HP5 := Lib.hid hpl
      have hsame : ∀ (z : Pr) (W : World), z ∈ L → Still wr W → Calls Tryd.prog 15 #[.pointer (some z.q)] W fun e w' => e = .returned (.bool true) ∧ Still wr w' := by
        intro z W hz hs
        obtain ⟨S, hS⟩ := (hpl.herd.1 z hz).2
        have hT : Tab wr := HT.out.only hpl.old h0
        have hwr : 0 < wr.heap.size := Nat.lt_of_lt_of_le h0 hpl.old.size
        refine (same_any z.lo z.hi z.n z.q S W (hS.still hs) (hT.only hs hwr) (Nat.lt_of_lt_of_le hwr hs.size)).mono ?_
        rintro e w' ⟨rfl, h⟩
        exact ⟨rfl, hs.trans (h.any _ _)⟩
      have HSAME := Lib.hid hsame
      clear hpl hsame
      obtain ⟨za, hza, rfl⟩ := HP5.out.ina
      obtain ⟨zb, hzb, rfl⟩ := HP5.out.inb
      by_cases hl : i < len
      · have hd1 : (i : Int) < (len : Int) := by omega
        have hd2 : decide ((i : Int) < (300 : Int)) = false := decide_eq_false (by omega)
        clear hlt
        go_wp2_with fail
        refine (HSAME.out za _ hza (Only.refl _ _ _)).mono ?_
        rintro e w2' ⟨rfl, hs2'⟩
        have HS2' := Lib.hid hs2'; clear hs2'
        go_wp2_with fail
        refine (HSAME.out zb _ hzb HS2'.out).mono ?_
        rintro e w3' ⟨rfl, hs3'⟩
        have HS3' := Lib.hid hs3'
        have hc0 := (HP5.out.still hs3').c0
        clear hs3'
        go_wp2_with fail
        refine (HSAME.out px _ HP5.out.inx HS3'.out).mono ?_
        rintro e w4' ⟨rfl, hs4'⟩
        have HS4' := Lib.hid hs4'
        have hc1 := (HP5.out.still hs4').c1
        clear hs4' hc0
        go_wp2_with fail
        refine (HSAME.out py _ HP5.out.iny HS4'.out).mono ?_
        rintro e w5' ⟨rfl, hs5'⟩
        have HS5' : Hid (Still w w5') := HP5.out.old.trans (hs5'.any _ _)
        clear hs5' hc1
        go_wp2
        go_ret
        exact ⟨rfl, HS5'.out⟩
      · have hd1 : decide ((i : Int) < (len : Int)) = false := decide_eq_false (by omega)
        clear hlt
        go_wp2_with fail
        refine (HSAME.out za _ hza (Only.refl _ _ _)).mono ?_
        rintro e w2' ⟨rfl, hs2'⟩
        have HS2' := Lib.hid hs2'; clear hs2'
        go_wp2_with fail
        refine (HSAME.out zb _ hzb HS2'.out).mono ?_
        rintro e w3' ⟨rfl, hs3'⟩
        have HS3' := Lib.hid hs3'
        have hc0 := (HP5.out.still hs3').c0
        clear hs3'
        go_wp2_with fail
        refine (HSAME.out px _ HP5.out.inx HS3'.out).mono ?_
        rintro e w4' ⟨rfl, hs4'⟩
        have HS4' := Lib.hid hs4'
        have hc1 := (HP5.out.still hs4').c1
        clear hs4' hc0
        go_wp2_with fail
        refine (HSAME.out py _ HP5.out.iny HS4'.out).mono ?_
        rintro e w5' ⟨rfl, hs5'⟩
        have HS5' : Hid (Still w w5') := HP5.out.old.trans (hs5'.any _ _)
        clear hs5' hc1
        go_wp2
        go_ret
        exact ⟨rfl, HS5'.out⟩
end Go.Proofs.YtppeiljecgeifaaDoor
