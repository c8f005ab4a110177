/-
  The walks of pages.Give, State.
-/
import Derived.Test.YtiniadochjeieaaDoorQD
import Derived.Lib.SliceRun
namespace Go.Proofs.YtiniadochjeieaaDoor
open Go Go.RowKit

/-- k pages from i on are free. -/
def clrPg (P : Nat → Pg) (i k : Nat) : Nat → Pg := fun j => if i ≤ j ∧ j < i + k then ⟨0, 0, 0⟩ else P j
theorem clrPg_zero (P : Nat → Pg) (i : Nat) : clrPg P i 0 = P := by funext j; unfold clrPg; rw [if_neg (by omega)]
theorem clrPg_succ (P : Nat → Pg) (i k : Nat) : clrPg (setPg P i ⟨0, 0, 0⟩) (i + 1) k = clrPg P i (k + 1) := by
  funext j
  unfold clrPg setPg
  by_cases hj : j = i
  · rw [if_neg (by omega), if_pos hj, if_pos (by omega)]
  · by_cases h : i + 1 ≤ j ∧ j < i + 1 + k
    · rw [if_pos h, if_pos (by omega)]
    · rw [if_neg h, if_neg hj, if_neg (by omega)]
abbrev z64 : Value := .int .i64 0
theorem rep3 (k : Nat) : List.replicate (3 * (k + 1)) z64 = z64 :: z64 :: z64 :: List.replicate (3 * k) z64 := by
  rw [show 3 * (k + 1) = 3 * k + 1 + 1 + 1 by omega]
  simp [List.replicate_succ]
theorem TableAt.clear {lo hi tb pg cap n : Nat} {low free : Int} : ∀ (k i : Nat) {w : World} {P : Nat → Pg}, TableAt w lo hi tb pg cap n P low free → i + k ≤ n →
    TableAt (w.setCells pg (i * 3) (List.replicate (3 * k) z64)) lo hi tb pg cap n (clrPg P i k) low free
  | 0, i, w, P, h, _ => by rw [clrPg_zero]; exact h
  | k + 1, i, w, P, h, hk => by
    rw [rep3]
    simp only [World.setCells]
    have := TableAt.clear k (i + 1) (h.setPage i (by omega) ⟨0, 0, 0⟩) (by omega)
    rw [clrPg_succ, show (i + 1) * 3 = i * 3 + 1 + 1 + 1 by omega] at this
    exact this
theorem Tryd.zeroPg (w : World) : (zeroValue 53).run Tryd.prog w = .ok (.agg #[.int .i64 0, .int .i64 0, .int .i64 0]) w := by kernel_rfl
theorem zero3 (k : Nat) : (Builtin.zeroCells (Value.agg #[.int .i64 0, .int .i64 0, .int .i64 0]).cells k).toList = List.replicate (3 * k) z64 := by
  rw [show (Value.agg #[.int .i64 0, .int .i64 0, .int .i64 0]).cells = #[z64, z64, z64] from rfl]
  apply List.ext_getElem
  · simp [Builtin.zeroCells]; omega
  · intro i h1 h2
    have h3 : i % 3 = 0 ∨ i % 3 = 1 ∨ i % 3 = 2 := by omega
    simp [Builtin.zeroCells]
    rcases h3 with h | h | h <;> simp [h]
theorem run_clear3 (w : World) (b o k c : Nat) (hk : 0 < k) (hc : ∀ j, j < 3 * k → (w.cell? ⟨b, o + j, none⟩).isSome = true) (hf : ∀ j, j < 3 * k → w.frozen? ⟨b, o + j, none⟩ = false) :
    (Builtin.clear_ #[45] 0 #[.slice (some ⟨b, o, none⟩) k c]).run Tryd.prog w = .ok (.tuple #[]) (w.setCells b o (List.replicate (3 * k) z64)) := by
  have hst := run_storeCells_cells (P := Tryd.prog) b o (List.replicate (3 * k) z64) 0 w (by simpa using hc) (by simpa using hf) (by intro v hv'; rw [List.eq_of_mem_replicate hv']; rfl)
  simp only [Nat.add_zero] at hst
  obtain ⟨m, rfl⟩ : ∃ m, k = m + 1 := ⟨k - 1, by omega⟩
  simp [Builtin.clear_, run_underlying Tryd.underlying45, zero3, hst]

theorem TableAt.cellsome {w : World} {lo hi tb pg cap n : Nat} {P : Nat → Pg} {low free : Int} (h : TableAt w lo hi tb pg cap n P low free) (j : Nat) (hj : j < 3 * n) : (w.cell? ⟨pg, j, none⟩).isSome = true := by
  obtain ⟨r, hrow⟩ := h.row
  simp only [World.cell?, hrow]
  rw [app_at _ _ _ (by rw [pgCells_size]; omega), pgCells_at P n j hj]
  rfl

set_option maxHeartbeats 1600000 in
theorem give_any (lo hi tb pg cap n i r l : Nat) (P : Nat → Pg) (free : Int) (w : World) (ht : TableAt w lo hi tb pg cap n P (l : Int) free) (hi' : i < n) (hf : (P i).free = false) (hk : (P i).k ≠ 3) (hr : (P i).r = (r : Int)) (hir : i + max 1 r ≤ n) :
    Calls Tryd.prog 88 #[.pointer (some ⟨tb, 0, none⟩), .int .i64 (i : Int)] w fun e w' => e = .returned (.int .i64 0) ∧ (∃ free', TableAt w' lo hi tb pg cap n (clrPg P i (max 1 r)) (min l i : Nat) free') ∧ Only lo hi w w' := by
  have hn2 := ht.n2
  have hcM := ht.capM
  unfold maxLen at hcM
  have hnc := ht.ncap
  have HFR := Lib.hid (isFree_any lo hi tb pg cap n i P _ free w ht hi')
  have hc0 := ht.c0
  have hck := ht.pk i hi'
  have hcr := ht.pr i hi'
  obtain ⟨m, hm, hm1⟩ : ∃ m : Nat, max 1 r = m ∧ 1 ≤ m := ⟨max 1 r, rfl, by omega⟩
  have hmx : (if (1 : Int) < (r : Int) then (r : Int) else 1) = (m : Int) := by omega
  have hcl := fun c => run_clear3 w pg (i * 3) m c (by omega) (fun j hj => ht.cellsome _ (by omega)) (fun j _ => ht.rf _)
  have ht2 := ht.clear m i (by omega)
  have ho2 : Only lo hi w (w.setCells pg (i * 3) (List.replicate (3 * m) z64)) := only_setCells ⟨ht.glo, ht.ghi⟩ _ _ _ (Only.refl _ _ _)
  rw [hm] at hir ⊢
  generalize hw2 : w.setCells pg (i * 3) (List.replicate (3 * m) z64) = w2 at *
  have HT2 := Lib.hid ht2; have HO2 := Lib.hid ho2
  rw [hf] at HFR
  rw [hr] at hcr
  have hb : ((P i).k == 3) = false := beq_eq_false_iff_ne.2 hk
  generalize (P i).k = kk at *
  have hd1 : decide ((i : Int) < 0) = false := decide_eq_false (by omega)
  have hd2 : decide ((n : Int) ≤ (i : Int)) = false := decide_eq_false (by omega)
  have hi0 : (0 : Int) ≤ (i : Int) := by omega
  have hi1 : (i : Int) < (n : Int) := by omega
  have hm0 : (0 : Int) ≤ (m : Int) := by omega
  have him : (i : Int) + (m : Int) ≤ (n : Int) := by omega
  have d0 := ht2.c0
  have d1 := ht2.c1
  have d2 := ht2.c2
  have df := ht2.f 2
  have df1 := ht2.f 1
  clear ht ht2 ho2 hf hk hr hm hw2
  go_enter Tryd.func88, Tryd.ntmps88
  go_wp2_with fail
  refine HFR.out.mono ?_
  rintro e w3 ⟨rfl, rfl⟩
  go_wp2
  all_goals
    go_ret
    exact ⟨rfl, ⟨_, by
      have := (HT2.out.setFree (wrap64 (free + m))).setLow (min l i : Nat)
      first
        | (rw [show min l i = l by omega] at this ⊢; exact this)
        | (rw [show min l i = i by omega] at this ⊢; exact this)⟩, (HO2.out.setCell (p := ⟨tb, 2, none⟩) (.inl ⟨HT2.out.tlo, HT2.out.thi⟩) _).setCell (p := ⟨tb, 1, none⟩) (.inl ⟨HT2.out.tlo, HT2.out.thi⟩) _⟩

set_option maxHeartbeats 1600000 in
theorem state_any (lo hi tb pg cap n i : Nat) (P : Nat → Pg) (low free : Int) (w : World) (ht : TableAt w lo hi tb pg cap n P low free) (hi' : i < n) :
    Calls Tryd.prog 89 #[.pointer (some ⟨tb, 0, none⟩), .int .i64 (i : Int)] w fun e w' => e = .returned (.tuple #[.agg #[.int .i64 (P i).k, .int .i64 (P i).c, .int .i64 (P i).r], .bool true]) ∧ Still w w' := by
  have hc0 := ht.c0
  have hk := ht.pk i hi'
  have hc := ht.pc i hi'
  have hr := ht.pr i hi'
  have htg : pg < w.heap.size := Nat.lt_of_lt_of_le ht.ghi ht.top
  have htb : tb < w.heap.size := Nat.lt_of_lt_of_le ht.thi ht.top
  have hd1 : decide ((i : Int) < 0) = false := decide_eq_false (by omega)
  have hd2 : decide ((n : Int) ≤ (i : Int)) = false := decide_eq_false (by omega)
  have hi0 : (0 : Int) ≤ (i : Int) := by omega
  have hi1 : (i : Int) < (n : Int) := by omega
  generalize (P i).k = kk at *
  generalize (P i).c = cc at *
  generalize (P i).r = rr at *
  clear ht
  go_enter Tryd.func89, Tryd.ntmps89
  go_wp2
  exact bodyPost_ret (v := .tuple #[.agg #[.int .i64 kk, .int .i64 cc, .int .i64 rr], .bool true]) (by simp [results, Tryd.results89, go_sem]) rfl ⟨rfl, (Only.refl _ _ w).alloc _⟩
end Go.Proofs.YtiniadochjeieaaDoor

namespace Go.Proofs.YtiniadochjeieaaDoor
open Go Go.RowKit

theorem run_pages_copy (w : World) (pg cap n : Nat) (P : Nat → Pg) (hn : 1 ≤ n) (hn2 : n ≤ 4096) (hrow : ∃ r, w.heap[pg]? = some (.cells (pgCells P n ++ r) 53 (0, 0))) :
    ∃ cap' r, (Builtin.append_ #[45, 45] 45 #[.slice none 0 0, .slice (some ⟨pg, 0, none⟩) n cap]).run Tryd.prog w =
      .ok (.slice (some ⟨w.heap.size, 0, none⟩) n cap') (w.drew.alloc (.cells (pgCells P n ++ r) 53)) ∧ n ≤ cap' ∧ cap' ≤ maxLen ∧ r.size = (cap' - n) * 3 := by
  obtain ⟨r, hrow⟩ := hrow
  obtain ⟨i0, hi, hz0, hz1, hz2⟩ := info_parts Tryd.infoPg
  have hl : (pgCells P n).toList.length = n * i0.size := by rw [hz1, Array.length_toList, pgCells_size]; omega
  have := run_append_nil (P := Tryd.prog) w 45 45 53 i0 _ Tryd.underlying45 hi hz0 ⟨pg, 0, none⟩ n cap (pgCells P n).toList hl (fun j u hu => by
    have hj : j < (pgCells P n).size := by
      have := (List.getElem?_eq_some_iff.1 hu).1; simpa using this
    have e : (⟨pg, 0, none⟩ : Addr).add j = ⟨pg, j, none⟩ := by unfold Addr.add; split <;> simp_all
    rw [e]
    simp only [World.cell?, hrow]
    rw [app_at _ _ _ hj]
    simpa using hu) hn (by omega) (by rw [hz2]; omega)
  exact ⟨_, _, this, grownCap_ge _ _ _ _, grownCap_le_maxLen _ _ _ _ (by unfold maxLen; omega), size_zeroCells _ _⟩

/-- An append of which the run is known. -/
theorem wpList_append_eq {P : Program} {w : World} {ops : Array Oper} {rest : List Oper} {o : Oper} {a : Act} {Q : Exit → Act → World → Prop}
    (hg : o.guard = none) (s x : Operand) (t : TypeId) (hop : o.op = Op.call { callee := Callee.builtin Builtin.append, args := #[s, x], argTypes := #[t, t] })
    (sv xv v' : Value) (w' : World) (hs : a.eval s = sv) (hx : a.eval x = xv) (hrun : (Builtin.append_ #[t, t] o.type #[sv, xv]).run P w = .ok v' w') (hK : wpList P ops Q rest (a.put o.dst v') w') :
    wpList P ops Q (o :: rest) a w :=
  wpList_plain hg fun K hK' => by
    unfold Oper.wp
    simp [execOp, hop, resolve, invoke, builtin, hs, hx, hrun, Result.andThen]
    exact hK' _ _ hK

set_option maxHeartbeats 800000 in
theorem tall_any (lo hi tb pg cap n : Nat) (P : Nat → Pg) (low free : Int) (w : World) (ht : TableAt w lo hi tb pg cap n P low free) (Q : Ending → World → Prop)
    (hQ : ∀ cap' r, n ≤ cap' → cap' ≤ maxLen → r.size = (cap' - n) * 3 → Q (.returned (.slice (some ⟨w.heap.size, 0, none⟩) n cap')) (w.drew.alloc (.cells (pgCells P n ++ r) 53))) :
    Calls Tryd.prog 48 #[.pointer (some ⟨tb, 0, none⟩)] w Q := by
  obtain ⟨cap', r, hrun, h1, h2, h3⟩ := run_pages_copy w pg cap n P ht.n1 ht.n2 ht.row
  have hc0 := ht.c0
  have HQ := Lib.hid (hQ cap' r h1 h2 h3)
  have HR := Lib.hid hrun; clear hrun
  clear ht h1 h2 h3 hQ
  generalize hw2 : w.drew.alloc (.cells (pgCells P n ++ r) 53) = w2 at *
  clear hw2
  go_enter Tryd.func48, Tryd.ntmps48
  go_wp2_with (at_builtin; refine wpList_append_eq rfl _ _ 45 rfl _ _ _ _ rfl rfl HR.out ?_)
  exact HQ.out

set_option maxHeartbeats 800000 in
theorem tcopy_any (lo hi tb pg cap n : Nat) (P : Nat → Pg) (low free : Int) (w : World) (ht : TableAt w lo hi tb pg cap n P low free) (Q : Ending → World → Prop)
    (hQ : ∀ tb' pg' cap' w', TableAt w' w.heap.size w'.heap.size tb' pg' cap' n P low free → Still w w' → Q (.returned (.pointer (some ⟨tb', 0, none⟩))) w') :
    Calls Tryd.prog 58 #[.pointer (some ⟨tb, 0, none⟩)] w Q := by
  have hc0 := ht.c0
  have hc1 := ht.c1
  have hc2 := ht.c2
  have htb : tb < w.heap.size := Nat.lt_of_lt_of_le ht.thi ht.top
  have HT := Lib.hid ht; clear ht
  have HQ := Lib.hid hQ; clear hQ
  go_enter Tryd.func58, Tryd.ntmps58
  go_wp2_with fail
  refine tall_any lo hi tb pg cap n P low free _ (HT.out.kept ((Only.refl _ _ w).alloc _ : Still w _) (.inl HT.out.top)) _ fun cap' r h1 h2 _ => ?_
  have H12 := Lib.hid (And.intro h1 h2); clear h1 h2
  go_wp2
  refine HQ.out w.heap.size (w.heap.size + 1) cap' _ ?_ ((((Only.refl _ _ w).alloc _).alloc _).drew)
  refine ⟨Nat.le_refl _, Nat.le_refl _, by simp; omega, by omega, by simp, by omega, HT.out.n1, HT.out.n2, ?_, H12.out.1, H12.out.2, ⟨r, ?_⟩⟩
  · exact (heap_alloc_old (w.alloc _) _ (by simp)).trans (heap_alloc_new w _)
  · have := heap_alloc_new (w.alloc (.cells #[.slice (some ⟨w.heap.size + 1, 0, none⟩) n cap', .int .i64 low, .int .i64 free] 114)) (.cells (pgCells P n ++ r) 53)
    rw [World.size_alloc] at this
    exact this
end Go.Proofs.YtiniadochjeieaaDoor
