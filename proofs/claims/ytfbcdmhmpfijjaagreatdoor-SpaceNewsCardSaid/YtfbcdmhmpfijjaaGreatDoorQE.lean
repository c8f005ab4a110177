/-
  The walks of pages.Give, State.
-/
import Derived.Test.YtfbcdmhmpfijjaaGreatDoorQD
import Derived.Lib.SliceRun
namespace Go.Proofs.YtfbcdmhmpfijjaaGreatDoor
open Go Go.RowKit

/-- k pages from i on are free. -/
def clrPg (P : Nat → Pg) (i k : Nat) : Nat → Pg := fun j => if i ≤ j ∧ j < i + k then ⟨0, 0, 0⟩ else P j
theorem clrPg_zero (P : Nat → Pg) (i : Nat) : clrPg P i 0 = P := by funext j; unfold clrPg; rw [if_neg (by omega)]
theorem clrPg_succ (P : Nat → Pg) (i k : Nat) : clrPg (setPg P i ⟨0, 0, 0⟩) (i + 1) k = clrPg P i (k + 1) := by
  funext j
  unfold clrPg setPg
  by_cases hj : j = i
  · rw [if_neg (by omega), if_pos hj, if_pos (by omega)]
  · by_cases h : i + 1 ≤ j ∧ j < i + 1 + k
    · rw [if_pos h, if_pos (by omega)]
    · rw [if_neg h, if_neg hj, if_neg (by omega)]
abbrev z64 : Value := .int .i64 0
theorem rep3 (k : Nat) : List.replicate (3 * (k + 1)) z64 = z64 :: z64 :: z64 :: List.replicate (3 * k) z64 := by
  rw [show 3 * (k + 1) = 3 * k + 1 + 1 + 1 by omega]
  simp [List.replicate_succ]
theorem TableAt.clear {lo hi tb pg cap n : Nat} {low free : Int} : ∀ (k i : Nat) {w : World} {P : Nat → Pg}, TableAt w lo hi tb pg cap n P low free → i + k ≤ n →
    TableAt (w.setCells pg (i * 3) (List.replicate (3 * k) z64)) lo hi tb pg cap n (clrPg P i k) low free
  | 0, i, w, P, h, _ => by rw [clrPg_zero]; exact h
  | k + 1, i, w, P, h, hk => by
    rw [rep3]
    simp only [World.setCells]
    have := TableAt.clear k (i + 1) (h.setPage i (by omega) ⟨0, 0, 0⟩) (by omega)
    rw [clrPg_succ, show (i + 1) * 3 = i * 3 + 1 + 1 + 1 by omega] at this
    exact this
set_option maxHeartbeats 1600000 in
theorem state_any (lo hi tb pg cap n i : Nat) (P : Nat → Pg) (low free : Int) (w : World) (ht : TableAt w lo hi tb pg cap n P low free) (hi' : i < n) :
    Calls Tryz.prog 147 #[.pointer (some ⟨tb, 0, none⟩), .int .i64 (i : Int)] w fun e w' => e = .returned (.tuple #[.agg #[.int .i64 (P i).k, .int .i64 (P i).c, .int .i64 (P i).r], .bool true]) ∧ Still w w' := by
  have hc0 := ht.c0
  have hk := ht.pk i hi'
  have hc := ht.pc i hi'
  have hr := ht.pr i hi'
  have htg : pg < w.heap.size := Nat.lt_of_lt_of_le ht.ghi ht.top
  have htb : tb < w.heap.size := Nat.lt_of_lt_of_le ht.thi ht.top
  have hd1 : decide ((i : Int) < 0) = false := decide_eq_false (by omega)
  have hd2 : decide ((n : Int) ≤ (i : Int)) = false := decide_eq_false (by omega)
  have hi0 : (0 : Int) ≤ (i : Int) := by omega
  have hi1 : (i : Int) < (n : Int) := by omega
  generalize (P i).k = kk at *
  generalize (P i).c = cc at *
  generalize (P i).r = rr at *
  clear ht
  go_enter Tryz.func147, Tryz.ntmps147
  go_wp2
  exact bodyPost_ret (v := .tuple #[.agg #[.int .i64 kk, .int .i64 cc, .int .i64 rr], .bool true]) (by simp [results, Tryz.results147, go_sem]) rfl ⟨rfl, (Only.refl _ _ w).alloc _⟩
end Go.Proofs.YtfbcdmhmpfijjaaGreatDoor

namespace Go.Proofs.YtfbcdmhmpfijjaaGreatDoor
open Go Go.RowKit

theorem run_pages_copy (w : World) (pg cap n : Nat) (P : Nat → Pg) (hn : 1 ≤ n) (hn2 : n ≤ 4096) (hrow : ∃ r, w.heap[pg]? = some (.cells (pgCells P n ++ r) 146 (0, 0))) :
    ∃ cap' r, (Builtin.append_ #[70, 70] 70 #[.slice none 0 0, .slice (some ⟨pg, 0, none⟩) n cap]).run Tryz.prog w =
      .ok (.slice (some ⟨w.heap.size, 0, none⟩) n cap') (w.drew.alloc (.cells (pgCells P n ++ r) 146)) ∧ n ≤ cap' ∧ cap' ≤ maxLen ∧ r.size = (cap' - n) * 3 := by
  obtain ⟨r, hrow⟩ := hrow
  obtain ⟨i0, hi, hz0, hz1, hz2⟩ := info_parts Tryz.infoPg
  have hl : (pgCells P n).toList.length = n * i0.size := by rw [hz1, Array.length_toList, pgCells_size]; omega
  have := run_append_nil (P := Tryz.prog) w 70 70 146 i0 _ Tryz.underlying70 hi hz0 ⟨pg, 0, none⟩ n cap (pgCells P n).toList hl (fun j u hu => by
    have hj : j < (pgCells P n).size := by
      have := (List.getElem?_eq_some_iff.1 hu).1; simpa using this
    have e : (⟨pg, 0, none⟩ : Addr).add j = ⟨pg, j, none⟩ := by unfold Addr.add; split <;> simp_all
    rw [e]
    simp only [World.cell?, hrow]
    rw [app_at _ _ _ hj]
    simpa using hu) hn (by omega) (by rw [hz2]; omega)
  exact ⟨_, _, this, grownCap_ge _ _ _ _, grownCap_le_maxLen _ _ _ _ (by unfold maxLen; omega), size_zeroCells _ _⟩

/-- An append of which the run is known. -/
theorem wpList_append_eq {P : Program} {w : World} {ops : Array Oper} {rest : List Oper} {o : Oper} {a : Act} {Q : Exit → Act → World → Prop}
    (hg : o.guard = none) (s x : Operand) (t : TypeId) (hop : o.op = Op.call { callee := Callee.builtin Builtin.append, args := #[s, x], argTypes := #[t, t] })
    (sv xv v' : Value) (w' : World) (hs : a.eval s = sv) (hx : a.eval x = xv) (hrun : (Builtin.append_ #[t, t] o.type #[sv, xv]).run P w = .ok v' w') (hK : wpList P ops Q rest (a.put o.dst v') w') :
    wpList P ops Q (o :: rest) a w :=
  wpList_plain hg fun K hK' => by
    unfold Oper.wp
    simp [execOp, hop, resolve, invoke, builtin, hs, hx, hrun, Result.andThen]
    exact hK' _ _ hK

set_option maxHeartbeats 800000 in
theorem tall_any (lo hi tb pg cap n : Nat) (P : Nat → Pg) (low free : Int) (w : World) (ht : TableAt w lo hi tb pg cap n P low free) (Q : Ending → World → Prop)
    (hQ : ∀ cap' r, n ≤ cap' → cap' ≤ maxLen → r.size = (cap' - n) * 3 → Q (.returned (.slice (some ⟨w.heap.size, 0, none⟩) n cap')) (w.drew.alloc (.cells (pgCells P n ++ r) 146))) :
    Calls Tryz.prog 88 #[.pointer (some ⟨tb, 0, none⟩)] w Q := by
  obtain ⟨cap', r, hrun, h1, h2, h3⟩ := run_pages_copy w pg cap n P ht.n1 ht.n2 ht.row
  have hc0 := ht.c0
  have HQ := Lib.hid (hQ cap' r h1 h2 h3)
  have HR := Lib.hid hrun; clear hrun
  clear ht h1 h2 h3 hQ
  generalize hw2 : w.drew.alloc (.cells (pgCells P n ++ r) 146) = w2 at *
  clear hw2
  go_enter Tryz.func88, Tryz.ntmps88
  go_wp2_with (at_builtin; refine wpList_append_eq rfl _ _ 70 rfl _ _ _ _ rfl rfl HR.out ?_)
  exact HQ.out

end Go.Proofs.YtfbcdmhmpfijjaaGreatDoor
