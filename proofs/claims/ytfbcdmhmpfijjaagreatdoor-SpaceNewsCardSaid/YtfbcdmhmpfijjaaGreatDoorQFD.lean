/-
  The walks of New: of the document's own space, and of bad numbers of pages.
-/
import Derived.Test.YtfbcdmhmpfijjaaGreatDoorQFC
import Derived.Test.YtfbcdmhmpfijjaaGreatDoorQS13
namespace Go.Proofs.YtfbcdmhmpfijjaaGreatDoor
open Go Go.RowKit

theorem pnew_no (n : Int) (w : World) (h : n < 1 ∨ 4096 < n) :
    Calls Tryz.prog 44 #[.int .i64 n] w fun e w' => e = .returned (.tuple #[.pointer none, .int .i64 1]) ∧ w = w' := by
  rcases h with h | h
  · go_enter Tryz.func44, Tryz.ntmps44
    go_wp2_with fail
    go_ret2
    exact ⟨rfl, rfl⟩
  · have h1 : decide (n < 1) = false := decide_eq_false (by omega)
    go_enter Tryz.func44, Tryz.ntmps44
    go_wp2_with fail
    go_ret2
    exact ⟨rfl, rfl⟩
theorem snew_no (n : Int) (w : World) (h : n < 1 ∨ 4096 < n) :
    Calls Tryz.prog 16 #[.int .i64 n] w fun e w' => e = .returned (.tuple #[.pointer none, .int .i64 1]) ∧ w = w' := by
  have HP := Lib.hid (pnew_no n w h)
  clear h
  go_enter Tryz.func16, Tryz.ntmps16
  go_wp2_with fail
  refine HP.out.mono ?_
  rintro e w1 ⟨rfl, rfl⟩
  go_wp2_with fail
  go_ret2
  exact ⟨rfl, rfl⟩
theorem rtnew_no (n : Int) (w : World) (h : n < 1 ∨ 4096 < n) :
    Calls Tryz.prog 46 #[.int .i64 n] w fun e w' => e = .returned (.tuple #[.pointer none, .int .i64 1]) ∧ w = w' := by
  rcases h with h | h
  · go_enter Tryz.func46, Tryz.ntmps46
    go_wp2_with fail
    go_ret2
    exact ⟨rfl, rfl⟩
  · have h1 : decide (n < 1) = false := decide_eq_false (by omega)
    go_enter Tryz.func46, Tryz.ntmps46
    go_wp2_with fail
    go_ret2
    exact ⟨rfl, rfl⟩
theorem rnew_no (n : Int) (w : World) (h : n < 1 ∨ 4096 < n) :
    Calls Tryz.prog 18 #[.int .i64 n] w fun e w' => e = .returned (.tuple #[.pointer none, .int .i64 1]) ∧ w = w' := by
  have HP := Lib.hid (rtnew_no n w h)
  clear h
  go_enter Tryz.func18, Tryz.ntmps18
  go_wp2_with fail
  refine HP.out.mono ?_
  rintro e w1 ⟨rfl, rfl⟩
  go_wp2_with fail
  go_ret2
  exact ⟨rfl, rfl⟩
abbrev tblObj (pb n : Nat) : Obj := .cells #[.slice (some ⟨pb, 0, none⟩) n n] 127 (0, 0)
abbrev pgsObj (n : Nat) : Obj := .cells (pgCells (fun _ => ⟨0, 0, 0⟩) n) 146 (0, 0)
set_option maxHeartbeats 800000 in
theorem rtnew_yes (n : Nat) (w : World) (h1 : 1 ≤ n) (h2 : n ≤ 4096) :
    Calls Tryz.prog 46 #[.int .i64 (n : Int)] w fun e w' => e = .returned (.tuple #[.pointer (some ⟨w.heap.size + 1, 0, none⟩), .int .i64 0]) ∧ w' = (w.alloc (pgsObj n)).alloc (tblObj w.heap.size n) := by
  obtain ⟨i0, hi, hz0, hz1, hz2⟩ := info_parts Tryz.infoPg
  have hn0 : (0 : Int) ≤ (n : Int) := by omega
  have hmk := run_make (P := Tryz.prog) w 70 146 i0 (.agg #[.int .i64 0, .int .i64 0, .int .i64 0]) Tryz.underlying70 hi hz0 .i64 .i64 (n : Int) (n : Int) (by omega) (Int.le_refl _) (by rw [hz2]; omega) (by omega)
  rw [hz1, Int.toNat_natCast, show (Value.agg #[Value.int .i64 0, .int .i64 0, .int .i64 0]).cells = #[Value.int .i64 0, .int .i64 0, .int .i64 0] from rfl, made_pages] at hmk
  have hd1 : decide ((n : Int) < 1) = false := decide_eq_false (by omega)
  have hd2 : decide ((4096 : Int) < (n : Int)) = false := decide_eq_false (by omega)
  clear hi hz0 hz1 hz2
  go_enter Tryz.func46, Tryz.ntmps46
  go_wp2
  go_ret2
  exact ⟨by simp, rfl⟩
/-- The cells of N empty places. -/
theorem made_cells (k N j : Nat) (hk : 0 < k) (hj : j < N * k) (z : Array Value) (hz : z.size = k) (hz0 : ∀ d, d < k → z[d]? = some (.int .i64 0)) : (madeCells z (N * k))[j]? = some (.int .i64 0) := by
  have hs : j < (madeCells z (N * k)).size := by rw [size_madeCells]; exact hj
  rw [Array.getElem?_eq_getElem hs]
  unfold madeCells
  have hm : j % k < k := Nat.mod_lt _ hk
  have := hz0 (j % k) hm
  simp [hz, getElem!_def, this]
theorem RefAt.fresh {w : World} {n tb pb wb ob rb : Nat} {lo hi : Nat} (h1 : 1 ≤ n) (h2 : n ≤ 4096) (hok : (⟨lo, hi, rb, tb, wb, pb, ob, 64 * n, n, 64 * n⟩ : RLay).Ok) (ht : hi ≤ w.heap.size)
    (e1 : w.heap[rb]? = some (.cells #[.slice (some ⟨wb, 0, none⟩) (64 * n) (64 * n), .pointer (some ⟨tb, 0, none⟩), .slice (some ⟨ob, 0, none⟩) (64 * n) (64 * n), .int .i64 0] 66 (0, 0)))
    (e2 : w.heap[tb]? = some (tblObj pb n)) (e3 : w.heap[pb]? = some (pgsObj n)) (e4 : w.heap[wb]? = some (.cells (madeCells #[.int .i64 0] (64 * n * 1)) 3 (0, 0)))
    (e5 : w.heap[ob]? = some (.cells (madeCells #[.int .i64 0, .int .i64 0, .int .i64 0, .int .i64 0, .int .i64 0] (64 * n * 5)) 95 (0, 0))) : RefAt w ⟨lo, hi, rb, tb, wb, pb, ob, 64 * n, n, 64 * n⟩ (St.new n) := by
  refine ⟨hok, ht, h1, h2, e1, e2, ⟨_, e4, fun i hi d hd => ?_⟩, ⟨_, e3, fun i hi d hd => ?_⟩, ⟨_, e5, fun i hi d hd => ?_⟩⟩
  · have hi' : i < 64 * n := hi
    refine made_cells 1 (64 * n) (i * 1 + d) (by omega) (by omega) _ rfl (fun d' hd' => ?_)
    have hd0 : d' = 0 := by omega
    subst hd0
    rfl
  · have hi' : i < n := hi
    have := pgCells_at (fun _ => ⟨0, 0, 0⟩) n (i * 3 + d) (by omega)
    rw [this]
    unfold St.pr
    have h3 : d = 0 ∨ d = 1 ∨ d = 2 := by omega
    rcases h3 with rfl | rfl | rfl <;> simp [St.new]
  · have e : (St.new n).ro i d = 0 := rfl
    rw [e]
    exact made_cells 5 (64 * n) (i * 5 + d) (by omega) (by have : i < 64 * n := hi; omega) _ rfl (fun d hd => by
      have h5 : d = 0 ∨ d = 1 ∨ d = 2 ∨ d = 3 ∨ d = 4 := by omega
      rcases h5 with rfl | rfl | rfl | rfl | rfl <;> rfl)
theorem alloc3 (w : World) (a b c : Obj) : (((w.alloc a).alloc b).alloc c).heap[w.heap.size]? = some a ∧ (((w.alloc a).alloc b).alloc c).heap[w.heap.size + 1]? = some b ∧ (((w.alloc a).alloc b).alloc c).heap[w.heap.size + 1 + 1]? = some c := by
  refine ⟨?_, ?_, ?_⟩
  · rw [heap_alloc_old _ _ (by simp; omega), heap_alloc_old _ _ (by simp)]
    exact heap_alloc_new w a
  · rw [heap_alloc_old _ _ (by simp)]
    have := heap_alloc_new (w.alloc a) b
    rwa [World.size_alloc] at this
  · have := heap_alloc_new ((w.alloc a).alloc b) c
    rwa [World.size_alloc, World.size_alloc] at this
set_option maxRecDepth 100000 in
set_option maxHeartbeats 3200000 in
theorem rnew_yes (n : Nat) (w : World) (h1 : 1 ≤ n) (h2 : n ≤ 4096) (h0 : 0 < w.heap.size) (Q : Ending → World → Prop)
    (hQ : ∀ w' (R : RLay), R.lo = w.heap.size → RefAt w' R (St.new n) → Still w w' → Q (.returned (.tuple #[.pointer (some ⟨R.rb, 0, none⟩), .int .i64 0])) w') :
    Calls Tryz.prog 18 #[.int .i64 (n : Int)] w Q := by
  have HQ := Lib.hid hQ
  clear hQ
  have HP := Lib.hid (rtnew_yes n w h1 h2)
  obtain ⟨i0, hi, hz0, hz1, hz2⟩ := info_parts Tryz.infoI5
  obtain ⟨i1, hi1, hy0, hy1, hy2⟩ := info_parts Tryz.infoBlk
  have hN0 : (0 : Int) ≤ (n : Int) * 64 := by omega
  obtain ⟨N, hN⟩ : ∃ N, 64 * n = N := ⟨_, rfl⟩
  have hmw : ∀ w, (Instr.makeSlice 27 (.int .i64 ((n : Int) * 64)) (.int .i64 ((n : Int) * 64))).run Tryz.prog w = .ok (.slice (some ⟨w.heap.size, 0, none⟩) N N) (w.alloc (.cells (madeCells #[.int .i64 0] (N * 1)) 3)) := fun w => by
    have hmk := run_make (P := Tryz.prog) w 27 3 i0 (.int .i64 0) Tryz.underlying27 hi hz0 .i64 .i64 ((n : Int) * 64) ((n : Int) * 64) hN0 (Int.le_refl _) (by rw [hz2]; omega) (by omega)
    rw [hz1, show ((n : Int) * 64).toNat = N by omega] at hmk
    exact hmk
  have hmo : ∀ w, (Instr.makeSlice 62 (.int .i64 ((n : Int) * 64)) (.int .i64 ((n : Int) * 64))).run Tryz.prog w = .ok (.slice (some ⟨w.heap.size, 0, none⟩) N N) (w.alloc (.cells (madeCells #[.int .i64 0, .int .i64 0, .int .i64 0, .int .i64 0, .int .i64 0] (N * 5)) 95)) := fun w => by
    have hmk := run_make (P := Tryz.prog) w 62 95 i1 (.agg #[.int .i64 0, .int .i64 0, .int .i64 0, .int .i64 0, .int .i64 0]) Tryz.underlying62 hi1 hy0 .i64 .i64 ((n : Int) * 64) ((n : Int) * 64) hN0 (Int.le_refl _) (by rw [hy2]; omega) (by omega)
    rw [hy1, show ((n : Int) * 64).toNat = N by omega] at hmk
    exact hmk
  have hn0 : (0 : Int) ≤ (n : Int) := by omega
  have hnM : (n : Int) ≤ 4096 := by omega
  have HMW := Lib.hid hmw
  have HMO := Lib.hid hmo
  clear hi hz0 hz1 hz2 hi1 hy0 hy1 hy2 hN0 hmw hmo
  go_enter Tryz.func18, Tryz.ntmps18
  go_wp2_with fail
  refine HP.out.mono ?_
  rintro e w1 ⟨rfl, hw1⟩
  have hs1 : w1.heap.size = w.heap.size + 2 := by rw [hw1]; simp
  have hS1 : Still w w1 := by rw [hw1]; exact ((Only.refl _ _ w).alloc _).alloc _
  have hb0 : w1.heap[w.heap.size]? = some (pgsObj n) := by
    rw [hw1]
    exact (heap_alloc_old (w.alloc _) _ (by simp)).trans (heap_alloc_new w _)
  have hb1 : w1.heap[w.heap.size + 1]? = some (tblObj w.heap.size n) := by
    rw [hw1]
    have := heap_alloc_new (w.alloc (pgsObj n)) (tblObj w.heap.size n)
    rwa [World.size_alloc] at this
  have HB := Lib.hid (And.intro hb0 (And.intro hb1 (And.intro hS1 hs1)))
  clear hw1 hb0 hb1 hS1 hs1
  have hmw := HMW.out
  have hmo := HMO.out
  go_wp2_with fail
  go_region
  all_goals
    go_wp2_with fail
    obtain ⟨hb0, hb1, hS1, hs1⟩ := HB.out
    subst hN
  · obtain ⟨e1, e2, e3⟩ := alloc3 w1 (.cells (madeCells #[.int .i64 0] (64 * n)) 3) (.cells (madeCells #[.int .i64 0, .int .i64 0, .int .i64 0, .int .i64 0, .int .i64 0] (64 * n * 5)) 95) (.cells #[.slice (some ⟨w1.heap.size, 0, none⟩) (64 * n) (64 * n), .pointer (some ⟨w.heap.size + 1, 0, none⟩), .slice (some ⟨w1.heap.size + 1, 0, none⟩) (64 * n) (64 * n), .int .i64 0] 66)
    refine HQ.out _ ⟨w.heap.size, w1.heap.size + 3, w1.heap.size + 1 + 1, w.heap.size + 1, w1.heap.size, w.heap.size, w1.heap.size + 1, 64 * n, n, 64 * n⟩ rfl (RefAt.fresh h1 h2 ?_ (by simp) e3 ?_ ?_ (by rw [Nat.mul_one]; exact e1) e2) ((((hS1.alloc _).alloc _).alloc _).drew)
    · constructor <;> dsimp only <;> omega
    · exact (heap_alloc_old _ _ (by simp; omega)).trans ((heap_alloc_old _ _ (by simp; omega)).trans ((heap_alloc_old _ _ (by omega)).trans hb1))
    · exact (heap_alloc_old _ _ (by simp; omega)).trans ((heap_alloc_old _ _ (by simp; omega)).trans ((heap_alloc_old _ _ (by omega)).trans hb0))
  · obtain ⟨e1, e2, e3⟩ := alloc3 w1 (.cells (madeCells #[.int .i64 0, .int .i64 0, .int .i64 0, .int .i64 0, .int .i64 0] (64 * n * 5)) 95) (.cells (madeCells #[.int .i64 0] (64 * n)) 3) (.cells #[.slice (some ⟨w1.heap.size + 1, 0, none⟩) (64 * n) (64 * n), .pointer (some ⟨w.heap.size + 1, 0, none⟩), .slice (some ⟨w1.heap.size, 0, none⟩) (64 * n) (64 * n), .int .i64 0] 66)
    refine HQ.out _ ⟨w.heap.size, w1.heap.size + 3, w1.heap.size + 1 + 1, w.heap.size + 1, w1.heap.size + 1, w.heap.size, w1.heap.size, 64 * n, n, 64 * n⟩ rfl (RefAt.fresh h1 h2 ?_ (by simp) e3 ?_ ?_ (by rw [Nat.mul_one]; exact e2) e1) ((((hS1.alloc _).alloc _).alloc _).drew)
    · constructor <;> dsimp only <;> omega
    · exact (heap_alloc_old _ _ (by simp; omega)).trans ((heap_alloc_old _ _ (by simp; omega)).trans ((heap_alloc_old _ _ (by omega)).trans hb1))
    · exact (heap_alloc_old _ _ (by simp; omega)).trans ((heap_alloc_old _ _ (by simp; omega)).trans ((heap_alloc_old _ _ (by omega)).trans hb0))
end Go.Proofs.YtfbcdmhmpfijjaaGreatDoor

namespace Go.Proofs.YtfbcdmhmpfijjaaGreatDoor
open Go Go.RowKit

theorem swords_any (w : World) (L : Lay) (s : St) (h : SpaceAt w L s) :
    Calls Tryz.prog 17 #[.pointer (some ⟨L.sb, 0, none⟩)] w fun e w' => e = .returned (.int .i64 ((64 * s.n : Nat) : Int)) ∧ w = w' := by
  have c0 := h.c0
  have hl := h.sblt
  obtain ⟨N, hN⟩ : ∃ N, 64 * s.n = N := ⟨_, rfl⟩
  rw [hN] at c0 ⊢
  clear h hN
  go_enter Tryz.func17, Tryz.ntmps17
  go_wp2_with fail
  go_ret
  exact ⟨rfl, rfl⟩
/-- A pair as it is made. -/
abbrev pairNew (sb rb : Nat) : Obj := .cells #[.pointer (some ⟨sb, 0, none⟩), .pointer (some ⟨rb, 0, none⟩), .slice none 0 0, .slice none 0 0, .slice none 0 0, .slice none 0 0, .slice none 0 0, .slice none 0 0, .slice none 0 0, .slice none 0 0, .slice none 0 0, .slice none 0 0, .slice none 0 0, .slice none 0 0] 48 (0, 0)
set_option maxRecDepth 100000 in
set_option maxHeartbeats 3200000 in
theorem made_any (n : Int) (w : World) (hT : Tab w) (h0 : 0 < w.heap.size) (Q : Ending → World → Prop)
    (hno : ∀ w', Still w w' → Q (.returned (.tuple #[.pointer none, .bool true])) w')
    (hyes : ∀ (m : Nat) w' (L : Lay) (R : RLay) (pb : Nat), n = (m : Int) → 1 ≤ m → m ≤ 24 → L.lo = w.heap.size → L.hi ≤ R.lo → R.hi ≤ pb → SpaceAt w' L (St.new m) → RefAt w' R (St.new m) → w'.heap[pb]? = some (pairNew L.sb R.rb) → Still w w' → Q (.returned (.tuple #[.pointer (some ⟨pb, 0, none⟩), .bool true])) w') :
    Calls Tryz.prog 11 #[.int .i64 n] w Q := by
  have HN := Lib.hid hno
  have HY := Lib.hid hyes
  clear hno hyes
  by_cases hb : n < 1 ∨ 4096 < n
  · have HS := Lib.hid (snew_no n w hb)
    have HR := Lib.hid (rnew_no n w hb)
    rcases hb with hb | hb
    · go_enter Tryz.func11, Tryz.ntmps11
      go_wp2_with fail
      refine HS.out.mono ?_
      rintro e w1 ⟨rfl, rfl⟩
      go_wp2_with fail
      refine HR.out.mono ?_
      rintro e w1 ⟨rfl, rfl⟩
      go_wp2_with fail
      exact HN.out _ (Only.refl _ _ _)
    · have hd : (24 : Int) < n := by omega
      go_enter Tryz.func11, Tryz.ntmps11
      go_wp2_with fail
      refine HS.out.mono ?_
      rintro e w1 ⟨rfl, rfl⟩
      go_wp2_with fail
      refine HR.out.mono ?_
      rintro e w1 ⟨rfl, rfl⟩
      go_wp2_with fail
      exact HN.out _ (Only.refl _ _ _)
  · obtain ⟨m, rfl⟩ := Int.eq_ofNat_of_zero_le (show 0 ≤ n by omega)
    have hm1 : 1 ≤ m := by omega
    have hm2 : m ≤ 4096 := by omega
    have hm0 : (0 : Int) ≤ (m : Int) := by omega
    have HS := Lib.hid (fun Q hQ => snew_yes m w hm1 hm2 hT h0 Q hQ)
    by_cases h24 : 24 < m
    · have h24I : (24 : Int) < (m : Int) := by omega
      have h40I : (m : Int) ≤ 4096 := by omega
      clear hb hT h0
      go_enter Tryz.func11, Tryz.ntmps11
      go_wp2_with fail
      refine HS.out _ (fun w1 L hlo hsp hst => ?_)
      have HW := Lib.hid (swords_any w1 L _ hsp)
      rw [show (((64 * (St.new m).n : Nat)) : Int) = 64 * (m : Int) by show ((64 * m : Nat) : Int) = _; omega] at HW
      have HST := Lib.hid hst
      clear hlo hsp hst HS
      go_wp2_with fail
      refine HW.out.mono ?_
      rintro e w2 ⟨rfl, rfl⟩
      go_wp2_with fail
      exact HN.out _ HST.out
    · have h24I : (m : Int) ≤ 24 := by omega
      clear hb hT
      go_enter Tryz.func11, Tryz.ntmps11
      go_wp2_with fail
      refine HS.out _ (fun w1 L hlo hsp hst => ?_)
      have HSP := Lib.hid hsp
      have HST := Lib.hid hst
      have HR := Lib.hid (fun Q hQ => rnew_yes m w1 hm1 hm2 hsp.lo0 Q hQ)
      clear hsp hst HS
      go_wp2_with fail
      refine HR.out _ (fun w2 R hlo2 hr2 hst2 => ?_)
      have HR2 := Lib.hid hr2
      have HST2 := Lib.hid hst2
      clear hr2 hst2 HR
      go_wp2_with fail
      refine HY.out m _ L R w2.heap.size rfl hm1 (by omega) hlo (by rw [hlo2]; exact HSP.out.top) HR2.out.top ((HSP.out.still HST2.out).alloc _) (HR2.out.alloc _) (heap_alloc_new w2 _) ((Still.trans HST.out HST2.out).alloc _)
end Go.Proofs.YtfbcdmhmpfijjaaGreatDoor
