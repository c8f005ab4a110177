/-
  The walks of (*bitmap.Map).CountRange, Count, Next, Get, Len.
-/
import Derived.Test.YtfbcdmhmpfijjaaGreatDoorQW1
import Derived.Test.YtfbcdmhmpfijjaaGreatDoorQD1
import Derived.Test.YtfbcdmhmpfijjaaGreatDoorQA
import Derived.LoopTactic
import Derived.Deep.QuietTactic
import Derived.BigQuiet
namespace Go.Proofs.YtfbcdmhmpfijjaaGreatDoor
open Go Go.RowKit

theorem quiet_eq {P : Program} {f : FuncId} {args : Array Value} {w : World} {n : Nat} {v : Value}
    (h : Calls P f args (w.drewN n) fun e w' => e = .returned v ∧ w.drewN n = w') : Calls P f args (w.drewN n) fun e w'' => e = .returned v ∧ ∃ m, w'' = w.drewN m :=
  h.mono fun _ _ ⟨he, hm⟩ => ⟨he, n, hm.symm⟩

theorem max_of (f : Int) (hf : f ≤ 9223372036854775807) : ∃ f0 : Nat, (if f < 0 then (0 : Int) else f) = (f0 : Int) ∧ (f0 : Int) ≤ 9223372036854775807 ∧ (f0 : Int) = max f 0 := by
  refine ⟨f.toNat, ?_, by omega, by omega⟩
  split <;> omega
set_option maxHeartbeats 400000 in
theorem get_out (lo hi n : Nat) (p : Addr) (S : Nat → Bool) (i : Int) (w : World) (hm : IsMap w lo hi p n S) (hi : i < 0 ∨ (n : Int) ≤ i) :
    Calls Tryz.prog 103 #[.pointer (some p), .int .i64 i] w fun e w' => e = .returned (.bool false) ∧ w = w' := by
  obtain ⟨pb, v, rows, rfl, hm, -⟩ := hm
  have hc0 := hm.cell0
  clear hm
  by_cases h : i < 0
  · clear hi
    go_enter Tryz.func103, Tryz.ntmps103
    go_wp2
    go_ret
    exact ⟨rfl, rfl⟩
  · have h0 : 0 ≤ i := by omega
    have h1 : (n : Int) ≤ i := by omega
    clear hi h
    go_enter Tryz.func103, Tryz.ntmps103
    go_wp2
    go_ret
    exact ⟨rfl, rfl⟩
theorem get_bit (r k : Nat) (hr : r < 18446744073709551616) : (bits BinOp.and IntKind.u64 ((r : Int) / 2 ^ k) 1 == 1) = r.testBit k := by
  have e : ((r : Int) / 2 ^ k) = ((r / 2 ^ k : Nat) : Int) := by simp
  have h1 : r / 2 ^ k < 18446744073709551616 := Nat.lt_of_le_of_lt (Nat.div_le_self _ _) hr
  have h2 := bits_and_u64_nat (r / 2 ^ k) 1 h1 (by omega)
  rw [e]
  rw [show ((1 : Nat) : Int) = 1 from rfl] at h2
  rw [h2, Nat.testBit_eq_decide_div_mod_eq, Nat.and_one_is_mod]
  generalize r / 2 ^ k % 2 = z
  by_cases hz : z = 1
  · subst hz; rfl
  · rw [decide_eq_false hz]
    exact beq_eq_false_iff_ne.2 (by omega)
set_option maxHeartbeats 400000 in
theorem get_core (pb n g cap L : Nat) (r i : Nat) (w : World) (hc0 : w.cell? ⟨pb, 0, none⟩ = some (.int .i64 (n : Int))) (hc1 : w.cell? ⟨pb, 1, none⟩ = some (.slice (some ⟨g, 0, none⟩) L cap))
    (hck : w.cell? ⟨g, i / 64, none⟩ = some (.int .u64 (r : Int))) (hi0 : (0 : Int) ≤ (i : Int)) (hi : (i : Int) < (n : Int)) (hiL : (i : Int) / 64 < (L : Int)) (hn : (n : Int) ≤ 262144) (hr : r < 18446744073709551616) :
    Calls Tryz.prog 103 #[.pointer (some ⟨pb, 0, none⟩), .int .i64 i] w fun e w' => e = .returned (.bool (r.testBit (i % 64))) ∧ w = w' := by
  go_enter Tryz.func103, Tryz.ntmps103
  go_wp2
  go_ret
  exact ⟨congrArg (fun b => Ending.returned (.bool b)) (get_bit r _ hr), rfl⟩
theorem get_any (lo hi n : Nat) (p : Addr) (S : Nat → Bool) (i : Int) (w : World) (hm : IsMap w lo hi p n S) (b : Bool) (hb : b = (decide (0 ≤ i) && S i.toNat)) :
    Calls Tryz.prog 103 #[.pointer (some p), .int .i64 i] w fun e w' => e = .returned (.bool b) ∧ w = w' := by
  by_cases hio : i < 0 ∨ (n : Int) ≤ i
  · have : b = false := by
      subst hb
      by_cases h0 : i < 0
      · rw [decide_eq_false (by omega)]; rfl
      · obtain ⟨pb, v, rows, rfl, hm, hS, hz⟩ := hm
        rw [hz _ (by omega)]; simp
    rw [this]
    exact get_out lo hi n p S i w hm hio
  · obtain ⟨pb, v, rows, rfl, hm, hS, hz⟩ := hm
    obtain ⟨j, rfl⟩ : ∃ k : Nat, i = k := ⟨i.toNat, by omega⟩
    have hn := hm.nle
    have hj : j < n := by omega
    obtain ⟨g, cap, hv, -, -, -, -, -, hcell, -⟩ := hm.slice (by omega)
    subst hv
    refine (get_core pb n g cap ((n + 63) / 64) (rows.getD (j / 64) 0) j w hm.cell0 hm.cell1 (hcell _ (by omega)) (by omega) (by omega) (by omega) (by omega) ?_).mono ?_
    · refine hm.small _ ?_
      have hL := hm.len
      rw [List.getD_eq_getElem?_getD, List.getElem?_eq_getElem (by omega)]
      exact List.getElem_mem _
    · rintro e w' ⟨rfl, rfl⟩
      refine ⟨?_, rfl⟩
      rw [hS j hj, hb]
      simp

set_option maxHeartbeats 800000 in
theorem next_core (lo hi pb n g cap L : Nat) (rows : List Nat) (S : Nat → Bool) (f : Int) (f0 : Nat) (w : World) (hm : MapAt w lo hi pb n (.slice (some ⟨g, 0, none⟩) L cap) rows)
    (hL : L = (n + 63) / 64) (hS : ∀ i, i < n → (rows.getD (i / 64) 0).testBit (i % 64) = S i) (hN : ∀ i, n ≤ i → S i = false) (hT : Tab w)
    (hmx : (if f < 0 then (0 : Int) else f) = (f0 : Int)) (hfn : f0 < n) :
    Calls Tryz.prog 89 #[.pointer (some ⟨pb, 0, none⟩), .int .i64 f] w fun e w' => e = .returned (.int .i64 (Bm.next S n f0)) ∧ ∃ m, w' = w.drewN m := by
  have hn := hm.nle
  have hc0 := hm.cell0
  have hc1 := hm.cell1
  have hcells : ∀ j, j < L → w.cell? ⟨g, j, none⟩ = some (.int .u64 ((rows.getD j 0 : Nat) : Int)) := by
    subst hL
    obtain ⟨g', cap', hv, _, _, _, _, _, hcell, _⟩ := hm.slice (by omega)
    injection hv with e1 e2 e3
    injection e1 with e1
    injection e1 with e1
    subst e1
    exact hcell
  have hlen : rows.length = L := by rw [hL]; exact hm.len
  have hsm := hm.small
  have hL1 : n ≤ L * 64 := by omega
  have hL2 : L * 64 < n + 64 := by omega
  clear hm hL
  have HS := Lib.hid hS; clear hS
  have HT := Lib.hid hT; clear hT
  have HN := Lib.hid hN; clear hN
  have HC := Lib.hid hcells; clear hcells
  have HL := Lib.hid hlen; clear hlen
  have HM := Lib.hid hsm; clear hsm
  have hf0 : (0 : Int) ≤ (f0 : Int) := by omega
  have hfn' : (f0 : Int) < (n : Int) := by omega
  have hfm : (f0 : Int) ≤ 262144 := by omega
  go_enter Tryz.func89, Tryz.ntmps89
  go_wp2_with fail
  clear hmx
  go_loopw [5, 6] (fun i _ wr => ∃ k : Nat, f0 / 64 ≤ k ∧ k ≤ L ∧ i = .int .i64 k ∧ (∀ i, f0 ≤ i → i < k * 64 → S i = false) ∧ ∃ m, wr = w.drewN m) (fun i _ _ => L - (intOf i).toNat)
  case atStart => exact ⟨f0 / 64, Nat.le_refl _, by omega, by go_num, fun i _ _ => by omega, 0, rfl⟩
  case round =>
    obtain ⟨k, hk1, hk2, rfl, hb, m, hwm⟩ := hrel
    have hc0 : wr.cell? ⟨pb, 0, none⟩ = some (.int .i64 (n : Int)) := by rw [hwm]; exact hc0
    have hc1 : wr.cell? ⟨pb, 1, none⟩ = some (.slice (some ⟨g, 0, none⟩) L cap) := by rw [hwm]; exact hc1
    have hall : ∀ a, wr.cell? a = w.cell? a := fun a => by rw [hwm]; rfl
    have HWM := Lib.hid hwm; clear hwm
    have HB := Lib.hid hb; clear hb
    have hk0 : (0 : Int) ≤ (k : Int) := by omega
    by_cases hlt : k < L
    · have hck := (hall _).trans (HC.out k hlt)
      have hT : Tab wr := fun j hj => (hall _).trans (HT.out j hj)
      have HT2 := Lib.hid hT; clear hT
      clear hall
      have hlt' : (k : Int) < (L : Int) := by omega
      have hw := Bm.word_lt rows k f0 n
      have hand : bits BinOp.and IntKind.u64 ((rows[k]?.getD 0 : Nat) : Int) ((Bm.partN k f0 n : Nat) : Int) = ((rows.getD k 0 &&& Bm.partN k f0 n : Nat) : Int) := by
        rw [← List.getD_eq_getElem?_getD]
        refine bits_and_u64_nat _ _ ?_ (Bm.partN_lt _ _ _)
        refine HM.out _ ?_
        have hL := HL.out
        rw [List.getD_eq_getElem?_getD, List.getElem?_eq_getElem (by omega)]
        exact List.getElem_mem _
      have hwf := Lib.hid (Bm.word_first rows n S HS.out k f0)
      have hwz := Lib.hid (Bm.word_zero rows n S HS.out k f0 n (Nat.le_refl _))
      generalize hW : rows.getD k 0 &&& Bm.partN k f0 n = W at *
      have HW := Lib.hid hW; clear hW
      by_cases hW0 : W = 0
      · have hz := hwz.out hW0
        have HZ := Lib.hid hz; clear hz
        clear hwf hwz
        subst hW0
        go_wp2_with fail
        go_quiet ((first | (go_at_call 127; exact quiet_eq (part_any (k : Int) (f0 : Int) (n : Int) _ (by omega) (by omega) (by omega) (by omega) (by omega) (by omega) (by omega) (by omega)))))
        go_wp2
        go_roundw
        case rel =>
          refine ⟨k + 1, by omega, by omega, by go_num, fun i h1 h2 => ?_, m + nq, by rw [HWM.out, World.drewN_drewN]⟩
          by_cases e : i < k * 64
          · exact HB.out i h1 e
          · by_cases e2 : i < n
            · exact HZ.out i (by omega) (by omega) h1 e2
            · exact HN.out i (by omega)
        case measure => simp [intOf]; omega
      · obtain ⟨hnx, hc64⟩ := hwf.out hW0 HB.out
        have HX := Lib.hid hnx; clear hnx
        clear hwf hwz
        have hWi : ((W : Int) != 0) = true := by rw [bne_iff_ne]; omega
        go_wp2_with fail
        go_quiet ((first | (go_at_call 127; exact quiet_eq (part_any (k : Int) (f0 : Int) (n : Int) _ (by omega) (by omega) (by omega) (by omega) (by omega) (by omega) (by omega) (by omega)))))
        have hT3 : Tab (wr.drewN nq) := HT2.out
        have HT3 := Lib.hid hT3; clear hT3
        go_wp2_with fail
        refine (tz_any W hw hW0 _ HT3.out).mono ?_
        rintro e w' ⟨rfl, rfl⟩
        have hcI : ((Lib.ctz 64 W : Nat) : Int) < 64 := by omega
        go_wp2
        go_ret
        refine ⟨ret_i64 ?_, m + nq, by rw [HWM.out, World.drewN_drewN]⟩
        rw [HX.out]; omega
    · clear hall
      have hk : k = L := by omega
      go_wp2
      go_ret
      refine ⟨ret_i64 ?_, m, HWM.out⟩
      rw [Bm.next_none]
      intro j h1 h2
      exact HB.out j (by omega) (by omega)

theorem next_out (pb n : Nat) (f : Int) (f0 : Nat) (w : World) (hc0 : w.cell? ⟨pb, 0, none⟩ = some (.int .i64 (n : Int))) (hmx : (if f < 0 then (0 : Int) else f) = (f0 : Int)) (hfn : (n : Int) ≤ (f0 : Int)) :
    Calls Tryz.prog 89 #[.pointer (some ⟨pb, 0, none⟩), .int .i64 f] w fun e w' => e = .returned (.int .i64 (-1)) ∧ w = w' := by
  go_enter Tryz.func89, Tryz.ntmps89
  go_wp2
  go_ret
  exact ⟨rfl, rfl⟩

/-- Next, whatever the number. -/
theorem next_any (lo hi n : Nat) (p : Addr) (S : Nat → Bool) (f : Int) (w : World) (hm : IsMap w lo hi p n S) (hT : Tab w) (hf : f ≤ 9223372036854775807) :
    Calls Tryz.prog 89 #[.pointer (some p), .int .i64 f] w fun e w' => e = .returned (.int .i64 (Bm.next S n f)) ∧ ∃ m, w' = w.drewN m := by
  obtain ⟨pb, v, rows, rfl, hm, hS, hz⟩ := hm
  obtain ⟨f0, h1, h2, h3⟩ := max_of f hf
  have hcl : Bm.next S n f = Bm.next S n f0 := by rw [h3]; exact (Bm.next_clip S n f).symm
  rw [hcl]
  by_cases hn : f0 < n
  · obtain ⟨g, cap, hv, -⟩ := hm.slice (by omega)
    subst hv
    exact next_core lo hi pb n g cap _ rows S f f0 w hm rfl hS hz hT h1 hn
  · refine (next_out pb n f f0 w hm.cell0 h1 (by omega)).mono ?_
    rintro e w' ⟨rfl, rfl⟩
    refine ⟨?_, 0, rfl⟩
    rw [Bm.next_none]
    intro j hj1 hj2
    omega
end Go.Proofs.YtfbcdmhmpfijjaaGreatDoor
