/-
  The walk of pages.TakeClass.
-/
import Derived.Test.YtfbcdmhmpfijjaaGreatDoorQC
import Derived.Deep.RegionHeld3
namespace Go.Proofs.YtfbcdmhmpfijjaaGreatDoor
open Go Go.RowKit

theorem TableAt.rf (j : Nat) {w : World} {lo hi tb pg cap n : Nat} {P : Nat → Pg} {low free : Int} (h : TableAt w lo hi tb pg cap n P low free) : w.frozen? ⟨pg, j, none⟩ = false := by obtain ⟨r, hr⟩ := h.row; simp [World.frozen?, hr]
theorem set_cell {w : World} {p q : Addr} {v u : Value} (h : w.cell? p = some v) (hne : p.block ≠ q.block) : (w.setCell q u).cell? p = some v :=
  ((Only.refl q.block (q.block + 1) w).setCell (.inl ⟨Nat.le_refl _, Nat.lt_succ_self _⟩) u |>.cell (World.block_lt_of_cell? w _ h) (by omega)).trans h
theorem TableAt.setPage {w : World} {lo hi tb pg cap n : Nat} {P : Nat → Pg} {low free : Int} (h : TableAt w lo hi tb pg cap n P low free) (i : Nat) (hi' : i < n) (g : Pg) :
    TableAt (((w.setCell ⟨pg, i * 3, none⟩ (.int .i64 g.k)).setCell ⟨pg, i * 3 + 1, none⟩ (.int .i64 g.c)).setCell ⟨pg, i * 3 + 2, none⟩ (.int .i64 g.r)) lo hi tb pg cap n (setPg P i g) low free :=
  ⟨Nat.le_trans h.top (Nat.le_of_eq (by simp [World.setCell])), h.tlo, h.thi, h.glo, h.ghi, h.tg, h.n1, h.n2, by
    rw [Below.heap_setCell _ _ _ _ (by show tb ≠ pg; exact h.tg), Below.heap_setCell _ _ _ _ (by show tb ≠ pg; exact h.tg), Below.heap_setCell _ _ _ _ (by show tb ≠ pg; exact h.tg)]; exact h.head, h.ncap, h.capM, by
    obtain ⟨r, hr⟩ := h.row
    refine ⟨r, ?_⟩
    simp only [World.setCell, Array.getElem?_modify, hr, if_pos, Option.map_some, Option.isSome_none, Bool.false_eq_true, if_false]
    rw [← pgCells_set]
    have hs := pgCells_size P n
    rw [app_set _ _ _ _ (by omega), app_set _ _ _ _ (by rw [Array.size_setIfInBounds]; omega), app_set _ _ _ _ (by rw [Array.size_setIfInBounds, Array.size_setIfInBounds]; omega)]⟩
theorem TableAt.setFree {w : World} {lo hi tb pg cap n : Nat} {P : Nat → Pg} {low free : Int} (h : TableAt w lo hi tb pg cap n P low free) (x : Int) : TableAt (w.setCell ⟨tb, 2, none⟩ (.int .i64 x)) lo hi tb pg cap n P low x :=
  ⟨Nat.le_trans h.top (Nat.le_of_eq (by simp [World.setCell])), h.tlo, h.thi, h.glo, h.ghi, h.tg, h.n1, h.n2, by
    simp only [World.setCell, Array.getElem?_modify, h.head]; simp, h.ncap, h.capM, by
    obtain ⟨r, hr⟩ := h.row
    exact ⟨r, by rw [Below.heap_setCell _ _ _ _ (by show pg ≠ tb; exact h.tg.symm)]; exact hr⟩⟩
theorem firstFree_le (P : Nat → Pg) (n i : Nat) (h : i ≤ n) : firstFree P n i ≤ n := by
  induction hk : n - i generalizing i with
  | zero => rw [firstFree, dif_neg (by omega)]; exact Nat.le_refl _
  | succ k ih =>
    rw [firstFree, dif_pos (by omega)]
    split
    · exact h
    · exact ih (i + 1) (by omega) (by omega)

set_option maxHeartbeats 1600000 in
theorem takeClass_none (lo hi tb pg cap n l : Nat) (c : Int) (P : Nat → Pg) (free : Int) (w : World) (ht : TableAt w lo hi tb pg cap n P (l : Int) free) (hl : l ≤ n) (hc : 0 ≤ c ∧ c < 8) (hf : firstFree P n l = n) :
    Calls Tryz.prog 67 #[.pointer (some ⟨tb, 0, none⟩), .int .i64 c] w fun e w' => e = .returned (.tuple #[.int .i64 0, .int .i64 20]) ∧ TableAt w' lo hi tb pg cap n P (n : Nat) free ∧ Only lo hi w w' := by
  have HT := Lib.hid ht; clear ht
  have hcw : (Sp.cww c == 0) = false := by
    rcases Sp.cww_8 c hc with h | h | h | h | h | h | h | h <;> rw [h] <;> decide
  have HC := Lib.hid (fun w => cwords_any c w)
  generalize Sp.cww c = x at *
  go_enter Tryz.func67, Tryz.ntmps67
  go_wp2_with fail
  refine (HC.out _).mono ?_
  rintro e w1 ⟨rfl, hs⟩
  have HT1 := Lib.hid (HT.out.kept hs (.inl HT.out.top))
  have HS := Lib.hid (hs.any lo hi); clear hs
  go_wp2_with fail
  refine (rise_any lo hi tb pg cap n l P free _ HT1.out hl).mono ?_
  rintro e w2 ⟨rfl, ht2, ho2⟩
  rw [hf] at ht2
  have hc0 := ht2.c0
  have hc1 := ht2.c1
  have HT2 := Lib.hid ht2; have HO := Lib.hid (HS.out.trans ho2)
  clear ht2 ho2
  go_wp2_with fail
  go_quiet (fail)
  go_wp2
  go_ret2
  exact ⟨rfl, HT2.out.drewN _, HO.out.drewN _⟩

set_option maxHeartbeats 1600000 in
theorem takeClass_yes (lo hi tb pg cap n l i : Nat) (c : Int) (P : Nat → Pg) (free : Int) (w : World) (ht : TableAt w lo hi tb pg cap n P (l : Int) free) (hl : l ≤ n) (hc : 0 ≤ c ∧ c < 8) (hf : firstFree P n l = i) (hi' : i < n) :
    Calls Tryz.prog 67 #[.pointer (some ⟨tb, 0, none⟩), .int .i64 c] w fun e w' => e = .returned (.tuple #[.int .i64 (i : Int), .int .i64 0]) ∧ TableAt w' lo hi tb pg cap n (setPg P i ⟨1, c, 0⟩) (i : Nat) (wrap64 (free - 1)) ∧ Only lo hi w w' := by
  have HT := Lib.hid ht; clear ht
  have hcw : (Sp.cww c == 0) = false := by
    rcases Sp.cww_8 c hc with h | h | h | h | h | h | h | h <;> rw [h] <;> decide
  have HC := Lib.hid (fun w => cwords_any c w)
  generalize Sp.cww c = x at *
  have hi0 : (0 : Int) ≤ (i : Int) := by omega
  have hi1 : (i : Int) < (n : Int) := by omega
  have hne : ((i : Int) == (n : Int)) = false := beq_eq_false_iff_ne.2 (by omega)
  have hwf : IntKind.i64.wrap (free - 1) = wrap64 (free - 1) := IntWalk.i64_left _
  go_enter Tryz.func67, Tryz.ntmps67
  go_wp2_with fail
  refine (HC.out _).mono ?_
  rintro e w1 ⟨rfl, hs⟩
  have HT1 := Lib.hid (HT.out.kept hs (.inl HT.out.top))
  have HS := Lib.hid (hs.any lo hi); clear hs
  go_wp2_with fail
  refine (rise_any lo hi tb pg cap n l P free _ HT1.out hl).mono ?_
  rintro e w2 ⟨rfl, ht2, ho2⟩
  rw [hf] at ht2
  have hc0 := ht2.c0
  have hc1 := ht2.c1
  have hc2 := ht2.c2
  have HT2 := Lib.hid ht2; have HO := Lib.hid (HS.out.trans ho2)
  clear ht2 ho2
  go_wp2_with fail
  go_quiet (fail)
  go_wp2_with fail
  have hk := HT2.out.pk i hi'
  have hcc := HT2.out.pc i hi'
  have hr := HT2.out.pr i hi'
  have htg := HT2.out.tg
  have hfz := HT2.out.rf (i * 3)
  have hfz1 := HT2.out.rf (i * 3 + 1)
  have hfz2 := HT2.out.rf (i * 3 + 2)
  go_region_held3 (fun w' => w'.cell? ⟨tb, 0, none⟩ = some (.slice (some ⟨pg, 0, none⟩) n cap) ∧ w'.cell? ⟨tb, 1, none⟩ = some (.int .i64 (i : Int))) (first | exact ⟨hc0, hc1⟩ | exact ⟨set_cell (set_cell (set_cell hc0 htg) htg) htg, set_cell (set_cell (set_cell hc1 htg) htg) htg⟩) (fail)
  have ht3 := (HT2.out.drewN (nq + 1)).setPage i hi' ⟨1, c, 0⟩
  have ho3 : Only lo hi w _ := ((((HO.out.drewN (nq + 1)).setCell (p := ⟨pg, i * 3, none⟩) (.inl ⟨HT2.out.glo, HT2.out.ghi⟩) (.int .i64 1)).setCell (p := ⟨pg, i * 3 + 1, none⟩) (.inl ⟨HT2.out.glo, HT2.out.ghi⟩) (.int .i64 c)).setCell (p := ⟨pg, i * 3 + 2, none⟩) (.inl ⟨HT2.out.glo, HT2.out.ghi⟩) (.int .i64 0))
  dsimp only at ht3
  clear hc0 hc1 hc2 hk hcc hr hfz hfz1 hfz2
  generalize ((((w2.drewN (nq + 1)).setCell ⟨pg, i * 3, none⟩ (.int .i64 1)).setCell ⟨pg, i * 3 + 1, none⟩ (.int .i64 c)).setCell ⟨pg, i * 3 + 2, none⟩ (.int .i64 0)) = w3 at *
  have hc1 := ht3.c1
  have hc2 := ht3.c2
  have hfz := ht3.f 2
  have ht4 := ht3.setFree (wrap64 (free - 1))
  have hd1 := ht4.c1
  have HT4 := Lib.hid ht4; have HO3 := Lib.hid (ho3.setCell (p := ⟨tb, 2, none⟩) (.inl ⟨HT2.out.tlo, HT2.out.thi⟩) (.int .i64 (wrap64 (free - 1))))
  clear ht3 ht4 ho3
  go_wp2
  go_ret2
  exact ⟨rfl, HT4.out, HO3.out⟩
end Go.Proofs.YtfbcdmhmpfijjaaGreatDoor

namespace Go.Proofs.YtfbcdmhmpfijjaaGreatDoor
open Go Go.RowKit

/-- The first m pages from h on are a run's further ones. -/
def restPg (P : Nat → Pg) (h m : Nat) : Nat → Pg := fun j => if h ≤ j ∧ j < h + m then ⟨3, 0, 0⟩ else P j
/-- A run of m pages from h on. -/
def runPg (P : Nat → Pg) (h m : Nat) : Nat → Pg := fun j => if j = h then ⟨2, 0, m⟩ else if h ≤ j ∧ j < h + m then ⟨3, 0, 0⟩ else P j
theorem restPg_zero (P : Nat → Pg) (h : Nat) : restPg P h 0 = P := by
  funext j; unfold restPg; rw [if_neg (by omega)]
theorem restPg_succ (P : Nat → Pg) (h m : Nat) : setPg (restPg P h m) (h + m) ⟨3, 0, 0⟩ = restPg P h (m + 1) := by
  funext j
  unfold setPg restPg
  by_cases hj : j = h + m
  · rw [if_pos hj, if_pos (by omega)]
  · rw [if_neg hj]
    by_cases h2 : h ≤ j ∧ j < h + m
    · rw [if_pos h2, if_pos (by omega)]
    · rw [if_neg h2, if_neg (by omega)]
theorem restPg_head (P : Nat → Pg) (h m : Nat) : setPg (restPg P h m) h ⟨2, 0, m⟩ = runPg P h m := by
  funext j
  unfold setPg restPg runPg
  rfl

set_option maxHeartbeats 1600000 in
theorem run_any (lo hi tb pg cap n h m : Nat) (P : Nat → Pg) (low free : Int) (w : World) (ht : TableAt w lo hi tb pg cap n P low free) (hm : 1 ≤ m) (hn : h + m ≤ n) :
    Calls Tryz.prog 110 #[.pointer (some ⟨tb, 0, none⟩), .int .i64 (h : Int), .int .i64 (m : Int)] w fun e w' => e = .returned (.int .i64 (h : Int)) ∧ TableAt w' lo hi tb pg cap n (runPg P h m) low (wrap64 (free - m)) ∧ Only lo hi w w' := by
  have hn2 := ht.n2
  have htg := ht.tg
  have HT := Lib.hid ht; clear ht
  have hwf : IntKind.i64.wrap (free - (m : Int)) = wrap64 (free - m) := IntWalk.i64_left _
  have hh0 : (0 : Int) ≤ (h : Int) := by omega
  have hh1 : (h : Int) < (n : Int) := by omega
  go_enter Tryz.func110, Tryz.ntmps110
  go_wp2_with fail
  go_loopw [9] (fun y wr => ∃ a : Nat, y = .int .i64 (a : Int) ∧ a ≤ m ∧ TableAt wr lo hi tb pg cap n (restPg P h a) low free ∧ Only lo hi w wr) (fun y _ => 5000 - (intOf y).toNat)
  case atStart => exact ⟨0, rfl, Nat.zero_le _, by rw [restPg_zero]; exact HT.out, Only.refl _ _ _⟩
  case round =>
    obtain ⟨a, rfl, ha, hta, ho⟩ := hrel
    have hc0 := hta.c0
    have HTA := Lib.hid hta; clear hta
    have HO := Lib.hid ho; clear ho
    have ha0 : (0 : Int) ≤ (a : Int) := by omega
    by_cases hlt : a < m
    · have hd : (a : Int) < (m : Int) := by omega
      have hs0 : (0 : Int) ≤ (h : Int) + (a : Int) := by omega
      have hs3 : (h : Int) + (a : Int) < (n : Int) := by omega
      have hk := HTA.out.pk (h + a) (by omega)
      have hcc := HTA.out.pc (h + a) (by omega)
      have hr := HTA.out.pr (h + a) (by omega)
      have hfz := HTA.out.rf ((h + a) * 3)
      have hfz1 := HTA.out.rf ((h + a) * 3 + 1)
      have hfz2 := HTA.out.rf ((h + a) * 3 + 2)
      go_wp2
      go_roundw
      case rel => exact ⟨a + 1, by go_num, by omega, by
        have := HTA.out.setPage (h + a) (by omega) ⟨3, 0, 0⟩
        rw [restPg_succ] at this
        exact this, (((HO.out.setCell (p := ⟨pg, (h + a) * 3, none⟩) (.inl ⟨HTA.out.glo, HTA.out.ghi⟩) (.int .i64 3)).setCell (p := ⟨pg, (h + a) * 3 + 1, none⟩) (.inl ⟨HTA.out.glo, HTA.out.ghi⟩) (.int .i64 0)).setCell (p := ⟨pg, (h + a) * 3 + 2, none⟩) (.inl ⟨HTA.out.glo, HTA.out.ghi⟩) (.int .i64 0))⟩
      case measure => simp [intOf]; omega
    · obtain rfl : a = m := by omega
      have hk := HTA.out.pk h (by omega)
      have hcc := HTA.out.pc h (by omega)
      have hr := HTA.out.pr h (by omega)
      have hfz := HTA.out.rf (h * 3)
      have hfz1 := HTA.out.rf (h * 3 + 1)
      have hfz2 := HTA.out.rf (h * 3 + 2)
      have ht3 := HTA.out.setPage h (by omega) ⟨2, 0, a⟩
      rw [restPg_head] at ht3
      have ho3 := (((HO.out.setCell (p := ⟨pg, h * 3, none⟩) (.inl ⟨HTA.out.glo, HTA.out.ghi⟩) (.int .i64 2)).setCell (p := ⟨pg, h * 3 + 1, none⟩) (.inl ⟨HTA.out.glo, HTA.out.ghi⟩) (.int .i64 0)).setCell (p := ⟨pg, h * 3 + 2, none⟩) (.inl ⟨HTA.out.glo, HTA.out.ghi⟩) (.int .i64 (a : Int)))
      dsimp only at ht3
      have hc2 := ht3.c2
      have hfz := ht3.f 2
      have ht4 := ht3.setFree (wrap64 (free - a))
      have ho4 := (ho3.setCell (p := ⟨tb, 2, none⟩) (.inl ⟨HTA.out.tlo, HTA.out.thi⟩) (.int .i64 (wrap64 (free - a))))
      have HT4 := Lib.hid ht4; have HO4 := Lib.hid ho4
      clear ht3 ho3 ht4 ho4
      go_wp2
      go_ret
      exact ⟨rfl, HT4.out, HO4.out⟩
end Go.Proofs.YtfbcdmhmpfijjaaGreatDoor

namespace Go.Proofs.YtfbcdmhmpfijjaaGreatDoor
open Go Go.RowKit

/-- Where the first m free pages in a row begin, i being looked at next and g of them lying ahead of it. -/
def seekRun (P : Nat → Pg) (n m i g : Nat) : Option Nat :=
  if h : i < n then (if (P i).free then (if g + 1 = m then some (i + 1 - m) else seekRun P n m (i + 1) (g + 1)) else seekRun P n m (i + 1) 0) else none
  termination_by n - i

set_option maxHeartbeats 3200000 in
theorem takeRun_any (lo hi tb pg cap n l m : Nat) (P : Nat → Pg) (free : Int) (r : Option Nat) (w : World) (ht : TableAt w lo hi tb pg cap n P (l : Int) free) (hl : l ≤ n) (hm : 1 ≤ m) (hm2 : m ≤ 16)
    (hr : seekRun P n m (firstFree P n l) 0 = r) (Q : Ending → World → Prop)
    (hno : r = none → ∀ w', TableAt w' lo hi tb pg cap n P (firstFree P n l : Nat) free → Only lo hi w w' → Q (.returned (.tuple #[.int .i64 0, .int .i64 20])) w')
    (hyes : ∀ h : Nat, r = some h → ∀ w', TableAt w' lo hi tb pg cap n (runPg P h m) (firstFree P n l : Nat) (wrap64 (free - m)) → Only lo hi w w' → Q (.returned (.tuple #[.int .i64 (h : Int), .int .i64 0])) w') :
    Calls Tryz.prog 64 #[.pointer (some ⟨tb, 0, none⟩), .int .i64 (m : Int)] w Q := by
  have HT := Lib.hid ht; clear ht
  have HN := Lib.hid hno; clear hno
  have HY := Lib.hid hyes; clear hyes
  have hn2 := HT.out.n2
  have hd1 : decide ((m : Int) < 1) = false := decide_eq_false (by omega)
  have hd2 : decide ((16 : Int) < (m : Int)) = false := decide_eq_false (by omega)
  have hff := firstFree_le P n l hl
  generalize hfi : firstFree P n l = f at *
  have HF := Lib.hid hfi; clear hfi
  have HR := Lib.hid hr; clear hr
  go_enter Tryz.func64, Tryz.ntmps64
  go_wp2_with fail
  refine (rise_any lo hi tb pg cap n l P free _ HT.out hl).mono ?_
  rintro e w2 ⟨rfl, ht2, ho2⟩
  rw [HF.out] at ht2
  have hc0 := ht2.c0
  have hc1 := ht2.c1
  have HT2 := Lib.hid ht2; have HO := Lib.hid ho2
  clear ht2 ho2
  go_wp2_with fail
  go_loopw [6, 7] (fun x y wr => ∃ g i : Nat, x = .int .i64 (g : Int) ∧ y = .int .i64 (i : Int) ∧ i ≤ n ∧ g < m ∧ g ≤ i ∧ seekRun P n m i g = r ∧ wr = w2) (fun _ y _ => 5000 - (intOf y).toNat)
  case atStart => exact ⟨0, f, rfl, rfl, hff, by omega, Nat.zero_le _, HR.out, rfl⟩
  case round =>
    obtain ⟨g, i, rfl, rfl, hi1, hg1, hg2, hsr, rfl⟩ := hrel
    have HS := Lib.hid hsr; clear hsr
    by_cases hlt : i < n
    · have hil : (i : Int) < (n : Int) := by omega
      by_cases hfr : (P i).free = true
      · have HFR : Hid (∀ w, wr = w → Calls Tryz.prog 109 #[.pointer (some ⟨tb, 0, none⟩), .int .i64 (i : Int)] w fun e w' => e = .returned (.bool true) ∧ w = w') := Lib.hid fun w hw => by
          subst hw
          have := isFree_any lo hi tb pg cap n i P _ free _ HT2.out hlt
          rwa [hfr] at this
        by_cases hgm : g + 1 = m
        · have hret : r = some (i + 1 - m) := by rw [← HS.out, seekRun, dif_pos hlt, if_pos hfr, if_pos hgm]
          have HRT := Lib.hid hret; clear hret hfr
          have hb : ((g : Int) + 1 == (m : Int)) = true := by rw [beq_iff_eq]; omega
          go_wp2_with fail
          refine (HFR.out _ rfl).mono ?_
          rintro e w3 ⟨rfl, rfl⟩
          go_wp2_with fail
          refine (by rw [show (i : Int) - (m : Int) + 1 = ((i + 1 - m : Nat) : Int) by omega]; exact run_any lo hi tb pg cap n (i + 1 - m) m P _ free _ HT2.out hm (by omega) : Calls Tryz.prog 110 #[.pointer (some ⟨tb, 0, none⟩), .int .i64 ((i : Int) - (m : Int) + 1), .int .i64 (m : Int)] wr _).mono ?_
          rintro e w3 ⟨rfl, ht3, ho3⟩
          have HT3 := Lib.hid ht3; have HO3 := Lib.hid (HO.out.trans ho3)
          clear ht3 ho3
          go_wp2
          exact HY.out _ HRT.out _ HT3.out HO3.out
        · have hret : seekRun P n m (i + 1) (g + 1) = r := by rw [← HS.out]; rw [seekRun.eq_def P n m i g, dif_pos hlt, if_pos hfr, if_neg hgm]
          have HRT := Lib.hid hret; clear hret hfr
          have hb : ((g : Int) + 1 == (m : Int)) = false := by rw [beq_eq_false_iff_ne]; omega
          go_wp2_with fail
          refine (HFR.out _ rfl).mono ?_
          rintro e w3 ⟨rfl, rfl⟩
          go_wp2
          go_roundw
          case rel => exact ⟨g + 1, i + 1, by go_num, by go_num, by omega, by omega, by omega, HRT.out, by first | rfl | trivial⟩
          case measure => simp [intOf]; omega
      · have hff : (P i).free = false := by simpa using hfr
        have HFR : Hid (∀ w, wr = w → Calls Tryz.prog 109 #[.pointer (some ⟨tb, 0, none⟩), .int .i64 (i : Int)] w fun e w' => e = .returned (.bool false) ∧ w = w') := Lib.hid fun w hw => by
          subst hw
          have := isFree_any lo hi tb pg cap n i P _ free _ HT2.out hlt
          rwa [hff] at this
        have hret : seekRun P n m (i + 1) 0 = r := by rw [← HS.out]; rw [seekRun.eq_def P n m i g, dif_pos hlt, if_neg hfr]
        have HRT := Lib.hid hret; clear hret hfr hff
        go_wp2_with fail
        refine (HFR.out _ rfl).mono ?_
        rintro e w3 ⟨rfl, rfl⟩
        go_wp2
        go_roundw
        case rel => exact ⟨0, i + 1, rfl, by go_num, by omega, by omega, by omega, HRT.out, by first | rfl | trivial⟩
        case measure => simp [intOf]; omega
    · obtain rfl : i = n := by omega
      have hret : r = none := by rw [← HS.out, seekRun, dif_neg hlt]
      have HRT := Lib.hid hret; clear hret
      go_wp2
      exact HN.out HRT.out _ HT2.out HO.out
end Go.Proofs.YtfbcdmhmpfijjaaGreatDoor
