/-
  The walk of hearthlaw3.BitmapWalk.
-/
import Derived.Test.YtppeiljecgeifaaDoorL6
import Derived.Deep.QuietTactic
import Derived.BigQuiet
namespace Go.Proofs.YtppeiljecgeifaaDoor
open Go Go.RowKit

theorem frozen_new (w : World) (xs : Array Value) (e : TypeId) (j : Nat) : (w.alloc (.cells xs e)).frozen? ⟨w.heap.size, j, none⟩ = false := by
  simp only [World.frozen?, heap_alloc_new]; simp
theorem Told.still {w w' : World} {bT : Nat} {T : List Nat} {ao : Option Addr} {cap : Nat} (h : Told w bT T ao cap) {lo hi : Nat} (hs : Only lo hi w w') (hlo : ∀ k, bT ≤ k → k < w.heap.size → k < lo ∨ hi ≤ k) : Told w' bT T ao cap := by
  have hb := (Array.getElem?_eq_some_iff.1 h.1).1
  refine ⟨?_, ?_⟩
  · rw [hs.block bT hb (hlo bT (Nat.le_refl _) hb)]; exact h.1
  · exact ownsRow_of_block h.2 fun g hg => hs.block g (h.2.lt g hg).2 (hlo g (by have := (h.2.lt g hg).1; omega) (h.2.lt g hg).2)
theorem Told.alloc {w : World} {bT : Nat} {T : List Nat} {ao : Option Addr} {cap : Nat} (h : Told w bT T ao cap) (o : Obj) : Told (w.alloc o) bT T ao cap :=
  h.still ((Only.refl w.heap.size w.heap.size w).alloc o) (fun k _ hk => by omega)

theorem cell_set (w : World) (b : Nat) (v u : Value) (h : w.cell? ⟨b, 0, none⟩ = some v) : (w.setCell ⟨b, 0, none⟩ u).cell? ⟨b, 0, none⟩ = some u := by
  have hs := h
  simp only [World.cell?] at hs
  split at hs
  · rename_i c e fr hb
    simp only [World.cell?, World.setCell, Array.getElem?_modify, hb]
    simp at hs ⊢
    have : 0 < c.size := (Array.getElem?_eq_some_iff.1 hs).1
    simp [this]
  · cases hs
theorem frozen_set (w : World) (b : Nat) (u : Value) (a : Addr) : (w.setCell ⟨b, 0, none⟩ u).frozen? a = w.frozen? a := by
  simp only [World.frozen?, World.setCell, Array.getElem?_modify]
  by_cases e : b = a.block
  · subst e
    cases hb : w.heap[a.block]? with
    | none => simp
    | some o => cases o <;> simp
  · simp [e]

theorem callFunc25 (args : Array Value) (w : World) : (callFunc 25 args).run Tryd.prog w = .ok (.enter 25 args) w := by kernel_rfl

theorem walk_iter (p : Addr) (S : Nat → Bool) (N lo hi bA bT bN bx : Nat) (ao : Option Addr) (cp : Nat) (w2 w10 : World) (hI : IsMap w2 lo hi p N S) (hT : Tab w2) (h2 : 0 < w2.heap.size) (hs10 : Still w2 w10)
    (hbA : bT < bA) (hAX : bA < bx) (hX : bx < w10.heap.size) (hbT : w2.heap.size ≤ bT) (hcX : w10.cell? ⟨bx, 0, none⟩ = some (.pointer (some p))) (hcA : w10.cell? ⟨bA, 0, none⟩ = some (.int .i64 0)) (hfA : w10.frozen? ⟨bA, 0, none⟩ = false)
    (hT10 : Told w10 bT (pre S N) ao cp) (hg : ∀ g, Value.ownBlock (.slice ao (pre S N).length cp) = some g → g < bA) (hN : N ≤ 262144) :
    Calls Tryd.prog 39 #[.func (.func 25) #[] #[.pointer (some ⟨bA, 0, none⟩), .pointer (some ⟨bT, 0, none⟩), .pointer (some ⟨bN, 0, none⟩)], .pointer (some ⟨bx, 0, none⟩)] w10
      fun e w' => e = .returned (.tuple #[]) ∧ Only bA (bA + 1) w10 w' ∧ w'.cell? ⟨bA, 0, none⟩ = some (.int .i64 ((pre S N).length : Nat)) := by
  have hile : hi ≤ w2.heap.size := by obtain ⟨pb, v, rows, _, hm, _⟩ := hI; exact hm.top
  refine iter_any (fun a S' W => S' = S ∧ a ≤ N ∧ Only bA (bA + 1) w10 W ∧ W.cell? ⟨bA, 0, none⟩ = some (.int .i64 ((pre S a).length : Nat)) ∧ W.frozen? ⟨bA, 0, none⟩ = false)
    (fun W => Only bA (bA + 1) w10 W ∧ W.cell? ⟨bA, 0, none⟩ = some (.int .i64 ((pre S N).length : Nat))) lo hi N bx p 25 _ callFunc25 ?_ ?_ ?_ S w10 ⟨rfl, Nat.zero_le _, Only.refl _ _ _, hcA, hfA⟩
  · rintro a S' W ⟨rfl, _, ho, _, _⟩
    exact ⟨(hI.still hs10).kept ho (.inl (by omega)), (hT.only hs10 h2).only ho (by omega), (ho.cell (p := ⟨bx, 0, none⟩) hX (.inr (by show bA + 1 ≤ bx; omega))).trans hcX⟩
  · rintro a S' W m i ⟨rfl, ha, ho, hc, hf⟩ hnx hai hiN
    rcases Bm.next_spec S' N (a : Int) with ⟨h1, _⟩ | ⟨i', h1, h2', h3, h4, h5⟩
    · omega
    · obtain rfl : i' = i := by omega
      have hat := pre_at hai hiN h4 (fun j hj hj2 => h5 j (by omega) hj2)
      have hlt : (pre S' a).length < (pre S' N).length := (List.getElem?_eq_some_iff.1 hat).1
      obtain ⟨g, hao, hgT, hcells⟩ := hT10.at (by omega)
      have hgA := hg g (by rw [hao]; rfl)
      have hcg : W.cell? ⟨g, (pre S' a).length, none⟩ = some (.int .i64 (i' : Int)) := by
        have hc0 := hcells _ hlt
        rw [List.getD_eq_getElem?_getD, hat] at hc0
        exact (ho.cell (p := ⟨g, (pre S' a).length, none⟩) (World.block_lt_of_cell? w10 _ hc0) (.inl hgA)).trans hc0
      have hcT : W.cell? ⟨bT, 0, none⟩ = some (.slice ao (pre S' N).length cp) := (ho.cell (p := ⟨bT, 0, none⟩) (World.block_lt_of_cell? w10 _ hT10.cell) (.inl hbA)).trans hT10.cell
      rw [hao] at hcT
      have hle := pre_le S' a
      refine (walk1_any bA bT bN g cp (pre S' N).length (pre S' a).length i' (W.drewN m) hc hcT hf hcg (by omega) (by omega) (by omega)).mono ?_
      rintro e w' ⟨rfl, rfl⟩
      refine .inl ⟨rfl, S', rfl, by omega, (ho.drewN m).setCell (.inl ⟨Nat.le_refl _, Nat.lt_succ_self _⟩) _, ?_, ?_⟩
      · rw [cell_set (W.drewN m) bA (.int .i64 ((pre S' a).length : Nat)) _ hc, pre_next hai h4 (fun j hj hj2 => h5 j (by omega) hj2), List.length_append]; rfl
      · rw [frozen_set]; exact hf
  · rintro a S' W m ⟨rfl, ha, ho, hc, hf⟩ hnx
    refine ⟨ho.drewN m, ?_⟩
    rcases Bm.next_spec S' N (a : Int) with ⟨_, h2'⟩ | ⟨i', h1, _⟩
    · rw [pre_end ha (fun j hj hj2 => h2' j (by omega) hj2)]; exact hc
    · omega

set_option maxHeartbeats 1600000 in
theorem walk_walk (long : Int) (a : Option Addr) (len cap : Nat) (zs : List Int) (w : World) (hl : (Lit.int .i64 long).wf = true) (hr : IsRow .i64 w a len cap zs) (hT : Tab w) (h0 : 0 < w.heap.size) :
    Calls Tryd.prog 5 #[.int .i64 long, .slice a len cap] w fun e w' => e = .returned (.bool true) ∧ Below w.heap.size w w' := by
  obtain ⟨hl1, hl2⟩ := wf_i64 hl
  clear hl
  have hn := wi_range long 20000 (by omega)
  obtain ⟨N, hN⟩ : ∃ N : Nat, 1 + wi long 20000 = N := ⟨(1 + wi long 20000).toNat, by omega⟩
  have hN1 : 1 ≤ N := by omega
  have hN2 : N ≤ 20000 := by omega
  have HR := Lib.hid hr; clear hr
  have HT := Lib.hid hT; clear hT
  go_enter Tryd.func5, Tryd.ntmps5
  go_wp2_with fail
  refine (within_any long 20000 _ hl1 hl2 (by omega) (by omega)).mono ?_
  rintro e w2 ⟨rfl, rfl⟩
  go_wp2_with fail
  clear hN hn
  obtain ⟨w0, hw0⟩ : ∃ w0, w.alloc (Obj.cells #[.int .i64 (N : Int)] 3) = w0 := ⟨_, rfl⟩
  rw [hw0]
  have hcN : w0.cell? ⟨w.heap.size, 0, none⟩ = some (.int .i64 (N : Int)) := by rw [← hw0]; exact cell_new _ _ _ 0
  have hz0 : w0.heap.size = w.heap.size + 1 := by rw [← hw0]; simp
  have hs0 : Still w w0 := by rw [← hw0]; exact (Only.refl _ _ w).alloc _
  clear hw0
  generalize hbN : w.heap.size = bN at hcN
  have HBN := Lib.hid hbN; clear hbN
  have HS0 := Lib.hid hs0; clear hs0
  have HZ0 := Lib.hid hz0; clear hz0
  have HCN := Lib.hid hcN; clear hcN
  have HR0 : Hid (IsRow .i64 w0 a len cap zs) := by
    rcases HR.out with h | ⟨x, h1, h2, h3, h4, h5, h6⟩
    · exact .inl h
    · exact .inr ⟨x, h1, h2, h3, h4, fun i hi => (HS0.out.below.cell (World.block_lt_of_cell? w _ (h5 i hi))).trans (h5 i hi), h6⟩
  refine (filled_any N a len cap zs _ hN1 (by omega) HR0.out).mono ?_
  rintro e w1 ⟨p, rfl, hm⟩
  have HFS : Hid (∀ k, k < min len 2000 → fillS zs N (min len 2000) (wi (zs.getD k 0) N).toNat = true) := fillS_mem zs N (by omega) _
  generalize fillS zs N (min len 2000) = S at *
  have HM := Lib.hid hm; clear hm
  have HT0 : Hid (Tab w0) := HT.out.only HS0.out h0
  have h00 : 0 < w0.heap.size := by have := HZ0.out; omega
  go_wp2_with fail
  refine (alive_any _ (HM.out.tab HT0.out h00) (by obtain ⟨hi, h1, h2⟩ := HM.out; have := h2.size; omega)).mono ?_
  rintro e w2 ⟨rfl, hs2⟩
  have HM2 := Lib.hid (HM.out.yields hs2); clear hs2 HM
  have HCN2 : Hid (w2.cell? ⟨bN, 0, none⟩ = some (.int .i64 (N : Int))) := by
    obtain ⟨hi, h1, h2⟩ := HM2.out
    exact (h2.below.cell (p := ⟨bN, 0, none⟩) (by have := HZ0.out; have := HBN.out; show bN < _; omega)).trans HCN.out
  have HTT2 : Hid (Tab w2) := HM2.out.tab HT0.out h00
  have HS2 : Hid (Still w w2) := by obtain ⟨hi, h1, h2⟩ := HM2.out; exact HS0.out.trans' h2 (.inr HS0.out.size) (.inr HS0.out.size)
  go_wp2_with fail
  obtain ⟨w3, hw3⟩ : ∃ w3, w2.alloc (Obj.cells #[.slice none 0 0] 27) = w3 := ⟨_, rfl⟩
  rw [hw3]
  have hs3 : Still w2 w3 := by rw [← hw3]; exact (Only.refl _ _ w2).alloc _
  have ht3 : Told w3 w2.heap.size (pre S 0) none 0 := by
    refine ⟨?_, ?_⟩
    · rw [← hw3]; exact heap_alloc_new w2 _
    · exact World.ownsRow_nil _ _ _ _
  clear hw3
  generalize hbT : w2.heap.size = bT at ht3 ⊢
  have HBT := Lib.hid hbT; clear hbT
  have HS3 := Lib.hid hs3; clear hs3
  have HT3 := Lib.hid ht3; clear ht3
  obtain ⟨hi, hm2, _⟩ := HM2.out
  have HI := Lib.hid hm2; clear hm2
  refine (next_any _ hi N p S 0 _ (HI.out.still HS3.out) (HTT2.out.only HS3.out (by have := HS2.out.size; omega)) (by omega)).mono ?_
  rintro e w4 ⟨rfl, m4, hw4⟩
  have HS4 : Hid (Still w2 w4) := by rw [hw4]; exact HS3.out.drewN m4
  have HT4 : Hid (Told w4 bT (pre S 0) none 0) := by rw [hw4]; exact HT3.out
  have HB4 : Hid (bT < w4.heap.size) := by
    have := (Array.getElem?_eq_some_iff.1 HT4.out.1).1
    exact this
  clear hw4 HT3 HS3
  have h2pos : 0 < w2.heap.size := by have := HS2.out.size; omega
  go_wp2_with fail
  go_loopw [8] (fun x wr => ∃ a : Nat, a ≤ N ∧ x = .int .i64 (Bm.next S N (a : Int)) ∧ Still w2 wr ∧ bT < wr.heap.size ∧ ∃ ao cp, Told wr bT (pre S a) ao cp) (fun x _ => itm N x)
  case atStart => exact ⟨0, by omega, rfl, HS4.out, HB4.out, none, 0, HT4.out⟩
  case round =>
    obtain ⟨a1, ha1, rfl, hsr, hbr, ao, cp, htr⟩ := hrel
    have HSR := Lib.hid hsr; clear hsr
    have HTR := Lib.hid htr; clear htr
    have HBR := Lib.hid hbr; clear hbr
    have hns := Bm.next_spec S N (a1 : Int)
    generalize hx : Bm.next S N (a1 : Int) = x at *
    have HX := Lib.hid hx; clear hx
    rcases hns with ⟨h1, h2⟩ | ⟨i, h1, h2, h3, h4, h5⟩
    · have hx0 : x < 0 := by omega
      have HP : Hid (pre S N = pre S a1) := pre_end ha1 (fun j hj hj2 => h2 j (by omega) hj2)
      clear h1 h2
      have HTN : Hid (Told wr bT (pre S N) ao cp) := by rw [HP.out]; exact HTR.out
      clear HTR HP
      go_wp2_with fail
      obtain ⟨w9, hw9⟩ : ∃ w9, wr.alloc (Obj.cells #[.int .i64 0] 3) = w9 := ⟨_, rfl⟩
      rw [hw9]
      have hcA : w9.cell? ⟨wr.heap.size, 0, none⟩ = some (.int .i64 0) := by rw [← hw9]; exact cell_new _ _ _ 0
      have hfA : w9.frozen? ⟨wr.heap.size, 0, none⟩ = false := by rw [← hw9]; exact frozen_new _ _ _ 0
      have hs9 : Still w2 w9 := by rw [← hw9]; exact HSR.out.alloc _
      have ht9 : Told w9 bT (pre S N) ao cp := by rw [← hw9]; exact HTN.out.alloc _
      have hz9 : w9.heap.size = wr.heap.size + 1 := by rw [← hw9]; simp
      clear hw9
      have HGA : Hid (∀ g, Value.ownBlock (.slice ao (pre S N).length cp) = some g → g < wr.heap.size) := fun g hg => (HTN.out.2.lt g hg).2
      have hbA := HBR.out
      generalize hba : wr.heap.size = bA at *
      have HBA := Lib.hid hbA; clear hbA hba HBR
      refine (all_any p _).mono ?_
      rintro e w10 ⟨rfl, hw10⟩
      have hcX : w10.cell? ⟨w9.heap.size, 0, none⟩ = some (.pointer (some p)) := by rw [hw10]; exact cell_new _ _ _ 0
      have hst : Still w9 w10 := by rw [hw10]; exact (Only.refl _ _ w9).alloc _
      have hz10 : w10.heap.size = w9.heap.size + 1 := by rw [hw10]; simp
      clear hw10
      have hcA10 : w10.cell? ⟨bA, 0, none⟩ = some (.int .i64 0) := (hst.below.cell (p := ⟨bA, 0, none⟩) (by show bA < _; omega)).trans hcA
      have hfA10 : w10.frozen? ⟨bA, 0, none⟩ = false := (hst.below.frozen (p := ⟨bA, 0, none⟩) (by show bA < _; omega)).trans hfA
      have hs10 : Still w2 w10 := hs9.trans' hst (.inr hs9.size) (.inr hs9.size)
      have ht10 : Told w10 bT (pre S N) ao cp := ht9.still hst (fun k _ hk => .inl hk)
      clear hcA hfA hs9 ht9 hst
      generalize hbx : w9.heap.size = bx at *
      have HBX : Hid (bA < bx ∧ bx < w10.heap.size) := ⟨by omega, by omega⟩
      clear hbx hz9 hz10
      have HCX := Lib.hid hcX; clear hcX
      have HCA := Lib.hid hcA10; clear hcA10
      have HFA := Lib.hid hfA10; clear hfA10
      have HS10 := Lib.hid hs10; clear hs10
      have HT10 := Lib.hid ht10; clear ht10
      go_wp2_with fail
      refine (walk_iter p S N _ hi bA bT bN bx ao cp w2 w10 HI.out HTT2.out h2pos HS10.out HBA.out HBX.out.1 HBX.out.2 (by have := HBT.out; omega) HCX.out HCA.out HFA.out HT10.out HGA.out (by omega)).mono ?_
      rintro e w11 ⟨rfl, ho11, hc11⟩
      have hcT11 : w11.cell? ⟨bT, 0, none⟩ = some (.slice ao (pre S N).length cp) := (ho11.cell (p := ⟨bT, 0, none⟩) (World.block_lt_of_cell? w10 _ HT10.out.cell) (.inl HBA.out)).trans HT10.out.cell
      have hile : hi ≤ w2.heap.size := by obtain ⟨pb, v, rows, _, hm, _⟩ := HI.out; exact hm.top
      have HI11 : Hid (IsMap w11 w0.heap.size hi p N S) := (HI.out.still HS10.out).kept ho11 (.inl (by have := HBA.out; have := HBT.out; omega))
      have HS11 : Hid (Still w2 w11) := HS10.out.trans' ho11 (.inr (by have := HBA.out; have := HBT.out; omega)) (.inr (by have := HBA.out; have := HBT.out; omega))
      have HCN11 : Hid (w11.cell? ⟨bN, 0, none⟩ = some (.int .i64 (N : Int))) := (HS11.out.below.cell (p := ⟨bN, 0, none⟩) (World.block_lt_of_cell? w2 _ HCN2.out)).trans HCN2.out
      have HSW : Hid (Still w w11) := HS2.out.trans' HS11.out (.inr HS2.out.size) (.inr HS2.out.size)
      clear ho11
      generalize hLL : (pre S N).length = L at *
      have HLL : Hid (L = Bm.cnt S 0 N) := by rw [← pre_length, hLL]; exact rfl
      clear hLL
      go_wp2_with fail
      have HCNT : Hid (∀ n, Calls Tryd.prog 21 #[.pointer (some p)] (w11.drewN n) fun e w' => e = .returned (.int .i64 (L : Int)) ∧ ∃ m, w' = (w11.drewN n).drewN m) := fun n => by
        rw [HLL.out]; exact count_any _ hi N p S _ (HI11.out.drewN _)
      go_quiet ((go_at_call 21; exact Calls.quiet_of (HCNT.out _)))
      go_wp2_with fail
      clear hc11 hcT11
      go_loopw [10] (fun x wr2 => ∃ k : Nat, k ≤ min len 2000 ∧ x = .int .i64 k ∧ ∃ m, wr2 = w11.drewN m) (fun x _ => 2000 - (intOf x).toNat)
      case atStart => exact ⟨0, by omega, rfl, nq, rfl⟩
      case round =>
        obtain ⟨k, hk, rfl, m2, hwm⟩ := hrel
        have hk0 : (0 : Int) ≤ (k : Int) := by omega
        have hcN2 : wr.cell? ⟨bN, 0, none⟩ = some (.int .i64 (N : Int)) := by rw [hwm]; exact HCN11.out
        have HIr : Hid (IsMap wr w0.heap.size hi p N S) := by rw [hwm]; exact HI11.out.drewN m2
        have HSr : Hid (Still w wr) := by rw [hwm]; exact HSW.out.drewN m2
        have HWM := Lib.hid hwm; clear hwm
        by_cases hlt : k < min len 2000
        · have h1 : (k : Int) < (len : Int) := by omega
          have h2 : (k : Int) < 2000 := by omega
          rcases HR.out with ⟨rfl, rfl, rfl, rfl⟩ | ⟨y, rfl, hlc, hcm, hz, hcell, hwz⟩
          · omega
          · obtain ⟨b, off, spot⟩ := y
            have hc := hcell k (by omega)
            have hspot : spot = none := by
              have h0 := hcell 0 (by omega)
              simpa [Addr.add] using World.cell?_spot h0
            subst hspot
            have hbl := World.block_lt_of_cell? w _ hc
            have hc2 : wr.cell? ⟨b, off + k, none⟩ = some (.int .i64 (zs.getD k 0)) := by
              have e : (⟨b, off, none⟩ : Addr).add k = ⟨b, off + k, none⟩ := by unfold Addr.add; split <;> simp_all
              rw [e] at hc hbl
              rw [← hc]
              exact HSr.out.below.cell hbl
            obtain ⟨hw1, hw2⟩ := wf_i64 (hwz (zs.getD k 0) (by rw [List.getD_eq_getElem?_getD, List.getElem?_eq_getElem (by omega)]; exact List.getElem_mem _))
            have hfs := HFS.out k hlt
            clear hc hcell hwz hz hbl
            have hrng := wi_range (zs.getD k 0) N (by omega)
            generalize zs.getD k 0 = z at *
            have HGT : Hid (∀ n, Calls Tryd.prog 23 #[.pointer (some p), .int .i64 (wi z N)] (wr.drewN n) fun e w' => e = .returned (.bool true) ∧ wr.drewN n = w') := fun n =>
              get_any _ hi N p S (wi z N) _ (HIr.out.drewN n) true (by rw [hfs, decide_eq_true hrng.1]; rfl)
            have HWT : Hid (∀ n, Calls Tryd.prog 16 #[.int .i64 z, .int .i64 (N : Int)] (wr.drewN n) fun e w' => e = .returned (.int .i64 (wi z N)) ∧ wr.drewN n = w') := fun n =>
              within_any z N _ hw1 hw2 (by omega) (by omega)
            clear hfs
            go_wp2_with fail
            go_quiet ((first | (go_at_call 16; exact quiet_eq (HWT.out _)) | (go_at_call 23; exact quiet_eq (HGT.out _))))
            go_wp2
            go_roundw
            case rel => exact ⟨k + 1, by omega, by go_num, m2 + nq, by rw [HWM.out, World.drewN_drewN]⟩
            case measure => simp [intOf]; omega
        · by_cases h1 : (k : Int) < (len : Int)
          · have h2 : ¬ (k : Int) < 2000 := by omega
            go_wp2
            go_ret
            exact ⟨rfl, Still.below HSr.out⟩
          · go_wp2
            go_ret
            exact ⟨rfl, Still.below HSr.out⟩
    · subst h1
      have hi0 : (0 : Int) ≤ (i : Int) := by omega
      have hd1 : decide (N ≤ i) = false := decide_eq_false (by omega)
      have hai : a1 ≤ i := by omega
      have HP : Hid (pre S (i + 1) = pre S a1 ++ [i]) := pre_next hai h4 (fun j hj hj2 => h5 j (by omega) hj2)
      have hlast := @pre_last S a1
      have hTl := pre_le S a1
      clear h5
      generalize pre S a1 = T at *
      have HG : Hid (true = (decide (0 ≤ (i : Int)) && S (i : Int).toNat)) := by
        rw [decide_eq_true hi0, Int.toNat_natCast, h4]; rfl
      clear h4
      have hcN : wr.cell? ⟨bN, 0, none⟩ = some (.int .i64 (N : Int)) := (HSR.out.below.cell (p := ⟨bN, 0, none⟩) (World.block_lt_of_cell? w2 _ HCN2.out)).trans HCN2.out
      have hcT := HTR.out.cell
      have hfT := HTR.out.frozen
      by_cases hL : 0 < T.length
      · obtain ⟨g, rfl, hg, hcells⟩ := HTR.out.at hL
        have hlc := hcells (T.length - 1) (by omega)
        have hl2 := hlast hL
        clear hcells hlast
        generalize hLL : T.length = L at *
        have HLL := Lib.hid hLL; clear hLL
        generalize T.getD (L - 1) 0 = y at *
        have hL' : (0 : Int) < (L : Int) := by omega
        have hd3 : decide (i ≤ y) = false := decide_eq_false (by omega)
        go_wp2_with fail
        refine (get_any _ hi N p S (i : Int) _ (HI.out.still HSR.out) true HG.out).mono ?_
        rintro e w5 ⟨rfl, rfl⟩
        have hown := HTR.out.2
        rw [HLL.out] at hown
        obtain ⟨i0, hinf, hz0, hz1, hz2⟩ := info_parts Tryd.infoI
        have HOWN := Lib.hid hown; clear hown
        go_wp2_with (at_builtin; refine wpList_append_own _ rfl _ _ 27 rfl (bT + 1) 3 i0 (.int .i64 0) 1 8 Tryd.underlying27 hinf hz0 hz1 hz2 rfl (by decide) _ L (T.map I) rfl (HOWN.out.alloc _) ⟨wr.heap.size, 0, none⟩ 1 1 [I i] rfl rfl ?c1 ?c2 ?c3 ?c4 ?c5 ?_)
        case c1 => exact one_new _ _ _
        case c2 => intro u hu; simp at hu; subst hu; rfl
        case c3 => unfold maxLen; omega
        case c4 => omega
        case c5 => have := HBR.out; simp; omega
        intro v' w6 hown' hgrow _
        rw [← HLL.out] at hown' hgrow
        obtain ⟨ao', cp', hv', hcT6, hfT6, hT7, hS7, hB7⟩ := told_append HTR.out HBR.out HSR.out (by have := HBT.out; omega) hgrow hown'
        rw [hv']
        clear hown' hgrow hv' hcT hfT hcN
        rw [HLL.out] at hcT6 hT7 hS7 hB7 ⊢
        have HT7 := Lib.hid hT7; clear hT7
        have HS7 := Lib.hid hS7; clear hS7
        have HB7 := Lib.hid hB7; clear hB7
        go_wp2_with fail
        refine (next_any _ hi N p S ((i : Int) + 1) _ (HI.out.still HS7.out) (HTT2.out.only HS7.out h2pos) (by omega)).mono ?_
        rintro e w8 ⟨rfl, m8, hw8⟩
        have HS8 : Hid (Still w2 w8) := by rw [hw8]; exact HS7.out.drewN m8
        have HT8 : Hid (Told w8 bT (pre S (i + 1)) ao' cp') := by rw [hw8, HP.out]; exact HT7.out
        have HB8 : Hid (bT < w8.heap.size) := by rw [hw8]; exact HB7.out
        clear hw8 hcT6 hfT6 hd1 hd3
        go_wp2
        go_roundw
        case rel => first | exact ⟨i + 1, by omega, by go_num, HS8.out, HB8.out, ao', cp', HT8.out⟩ | ((repeat apply Exists.intro); exact ⟨⟨i + 1, by omega, by go_num, HS8.out, HB8.out, ao', cp', HT8.out⟩, rfl⟩)
        case measure =>
          have hns := Bm.next_spec S N ((i : Int) + 1)
          refine itm_lt N i _ h3 ?_
          rcases hns with ⟨h, _⟩ | ⟨j, h, hj, _⟩
          · exact .inl h
          · exact .inr (by omega)
      · clear hlast
        generalize hLL : T.length = L at *
        have HLL := Lib.hid hLL; clear hLL
        have hL' : ¬ (0 : Int) < (L : Int) := by omega
        have hd3 : decide (0 < L) = false := decide_eq_false (by omega)
        go_wp2_with fail
        refine (get_any _ hi N p S (i : Int) _ (HI.out.still HSR.out) true HG.out).mono ?_
        rintro e w5 ⟨rfl, rfl⟩
        have hown := HTR.out.2
        rw [HLL.out] at hown
        obtain ⟨i0, hinf, hz0, hz1, hz2⟩ := info_parts Tryd.infoI
        have HOWN := Lib.hid hown; clear hown
        go_wp2_with (at_builtin; refine wpList_append_own _ rfl _ _ 27 rfl (bT + 1) 3 i0 (.int .i64 0) 1 8 Tryd.underlying27 hinf hz0 hz1 hz2 rfl (by decide) _ L (T.map I) rfl (HOWN.out.alloc _) ⟨wr.heap.size, 0, none⟩ 1 1 [I i] rfl rfl ?c1 ?c2 ?c3 ?c4 ?c5 ?_)
        case c1 => exact one_new _ _ _
        case c2 => intro u hu; simp at hu; subst hu; rfl
        case c3 => unfold maxLen; omega
        case c4 => omega
        case c5 => have := HBR.out; simp; omega
        intro v' w6 hown' hgrow _
        rw [← HLL.out] at hown' hgrow
        obtain ⟨ao', cp', hv', hcT6, hfT6, hT7, hS7, hB7⟩ := told_append HTR.out HBR.out HSR.out (by have := HBT.out; omega) hgrow hown'
        rw [hv']
        clear hown' hgrow hv' hcT hfT hcN
        rw [HLL.out] at hcT6 hT7 hS7 hB7 ⊢
        have HT7 := Lib.hid hT7; clear hT7
        have HS7 := Lib.hid hS7; clear hS7
        have HB7 := Lib.hid hB7; clear hB7
        go_wp2_with fail
        refine (next_any _ hi N p S ((i : Int) + 1) _ (HI.out.still HS7.out) (HTT2.out.only HS7.out h2pos) (by omega)).mono ?_
        rintro e w8 ⟨rfl, m8, hw8⟩
        have HS8 : Hid (Still w2 w8) := by rw [hw8]; exact HS7.out.drewN m8
        have HT8 : Hid (Told w8 bT (pre S (i + 1)) ao' cp') := by rw [hw8, HP.out]; exact HT7.out
        have HB8 : Hid (bT < w8.heap.size) := by rw [hw8]; exact HB7.out
        clear hw8 hcT6 hfT6 hd1 hd3
        go_wp2
        go_roundw
        case rel => first | exact ⟨i + 1, by omega, by go_num, HS8.out, HB8.out, ao', cp', HT8.out⟩ | ((repeat apply Exists.intro); exact ⟨⟨i + 1, by omega, by go_num, HS8.out, HB8.out, ao', cp', HT8.out⟩, rfl⟩)
        case measure =>
          have hns := Bm.next_spec S N ((i : Int) + 1)
          refine itm_lt N i _ h3 ?_
          rcases hns with ⟨h, _⟩ | ⟨j, h, hj, _⟩
          · exact .inl h
          · exact .inr (by omega)
end Go.Proofs.YtppeiljecgeifaaDoor
