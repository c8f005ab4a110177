/-
  The walks of (*hearthlaw3.pair).looked. Printed by wip/gen13.py.
-/
import Derived.Test.YtppeiljecgeifaaDoorL13
namespace Go.Proofs.YtppeiljecgeifaaDoor
open Go Go.RowKit

theorem all_world (w w1 : World) (p : Addr) (m : Nat) (h : w1 = (w.drewN m).alloc (.cells #[.pointer (some p)] 29)) : Still w w1 ∧ w1.cell? ⟨w.heap.size, 0, none⟩ = some (.pointer (some p)) ∧ w.heap.size < w1.heap.size := by
  subst h
  exact ⟨((Only.refl _ _ w).drewN m).alloc _, cell_new (w.drewN m) _ _ 0, by simp⟩
theorem still_cell {w w' : World} (h : Still w w') {ob : Nat} (ho : ob < w.heap.size) (j : Nat) : w'.cell? ⟨ob, j, none⟩ = w.cell? ⟨ob, j, none⟩ := h.below.cell (p := ⟨ob, j, none⟩) ho

set_option maxRecDepth 8000 in
set_option maxHeartbeats 1600000 in
theorem looked_14z (lo hi qb bx : Nat) (pm pr : Addr) (a b c d n : Nat) (S : Nat → Bool) (who A B C : Int) (w : World) (hp : PairAt w lo hi qb bx pm pr a b c d n S) (hlo : 0 < lo) (hT : Tab w) (hz : A = 0) (hA : A ≤ 9223372036854775807) (hB : B ≤ 9223372036854775807 ∧ -9223372036854775808 ≤ B) :
    Calls Tryd.prog 42 #[.pointer (some ⟨qb, 0, none⟩), opv who 14 A B C] w fun e w' => e = .returned (.bool true) ∧ (∃ S', PairAt w' lo hi qb bx pm pr a b c d n S') ∧ Only lo hi w w' := by
  have _ := hlo; have _ := hT; have _ := hA; have _ := hB
  have HP := Lib.hid hp; clear hp
  subst hz
  go_enter Tryd.func42, Tryd.ntmps42
  go_wp2_with fail
  obtain ⟨w0, hw0⟩ : ∃ w0, w.alloc (.cells #[.int .i64 who, .int .i64 14, .int .i64 0, .int .i64 B, .int .i64 C] 66) = w0 := ⟨_, rfl⟩
  rw [hw0]
  clear hT
  have hb2 : w0.cell? ⟨w.heap.size, 2, none⟩ = some (.int .i64 0) := by rw [← hw0]; exact cell_new _ _ _ 2
  have hb3 : w0.cell? ⟨w.heap.size, 3, none⟩ = some (.int .i64 B) := by rw [← hw0]; exact cell_new _ _ _ 3
  have hb4 : w0.cell? ⟨w.heap.size, 4, none⟩ = some (.int .i64 C) := by rw [← hw0]; exact cell_new _ _ _ 4
  have hs : Still w w0 := by rw [← hw0]; exact (Only.refl _ _ w).alloc _
  have hob : w.heap.size < w0.heap.size := by rw [← hw0]; simp
  clear hw0
  have HS := Lib.hid (hs.any lo hi)
  have HP0 := Lib.hid (HP.out.kept hs (.inl HP.out.top))
  go_wp2
  go_ret
  exact ⟨rfl, ⟨_, HP0.out⟩, HS.out⟩

set_option maxRecDepth 8000 in
set_option maxHeartbeats 1600000 in
theorem looked_14 (lo hi qb bx : Nat) (pm pr : Addr) (a b c d n : Nat) (S : Nat → Bool) (who A B C : Int) (w : World) (hp : PairAt w lo hi qb bx pm pr a b c d n S) (hlo : 0 < lo) (hT : Tab w) (hz : A ≠ 0) (hA : A ≤ 9223372036854775807) (hB : B ≤ 9223372036854775807 ∧ -9223372036854775808 ≤ B) :
    Calls Tryd.prog 42 #[.pointer (some ⟨qb, 0, none⟩), opv who 14 A B C] w fun e w' => e = .returned (.bool true) ∧ (∃ S', PairAt w' lo hi qb bx pm pr a b c d n S') ∧ Only lo hi w w' := by
  have _ := hlo; have _ := hT; have _ := hA; have _ := hB
  have HP := Lib.hid hp; clear hp
  go_enter Tryd.func42, Tryd.ntmps42
  go_wp2_with fail
  obtain ⟨w0, hw0⟩ : ∃ w0, w.alloc (.cells #[.int .i64 who, .int .i64 14, .int .i64 A, .int .i64 B, .int .i64 C] 66) = w0 := ⟨_, rfl⟩
  rw [hw0]
  have hz2 : (A == 0) = false := beq_eq_false_iff_ne.2 hz
  have hb2 : w0.cell? ⟨w.heap.size, 2, none⟩ = some (.int .i64 A) := by rw [← hw0]; exact cell_new _ _ _ 2
  have hb3 : w0.cell? ⟨w.heap.size, 3, none⟩ = some (.int .i64 B) := by rw [← hw0]; exact cell_new _ _ _ 3
  have hb4 : w0.cell? ⟨w.heap.size, 4, none⟩ = some (.int .i64 C) := by rw [← hw0]; exact cell_new _ _ _ 4
  have hs : Still w w0 := by rw [← hw0]; exact (Only.refl _ _ w).alloc _
  have hob : w.heap.size < w0.heap.size := by rw [← hw0]; simp
  clear hw0
  have HS := Lib.hid (hs.any lo hi)
  have HP0 := Lib.hid (HP.out.kept hs (.inl HP.out.top))
  have hc0 := HP0.out.c0
  have hc1 := HP0.out.c1
  have HIob : Hid (hi ≤ w.heap.size) := HP.out.top
  have HT0 : Hid (Tab w0) := hT.only hs (by have := HIob.out; have := HP.out.qhi; omega)
  clear hs hT
  generalize w.heap.size = ob at *
  have HOB := Lib.hid hob; clear hob
  go_wp2_with fail
  go_region_held3 (fun w' => w'.cell? ⟨qb, 0, none⟩ = some (.pointer (some pm)) ∧ w'.cell? ⟨ob, 2, none⟩ = some (.int .i64 A) ∧ w'.cell? ⟨ob, 3, none⟩ = some (.int .i64 B) ∧ w'.cell? ⟨ob, 4, none⟩ = some (.int .i64 C)) (first | exact ⟨hc0, hb2, hb3, hb4⟩ | exact ⟨hd0, hd2, hd3, hd4⟩ | exact ⟨he0, he2, he3, he4⟩)
    (first
      | (go_at_call 24; refine (all_any pm _).mono ?_; rintro e w1 ⟨rfl, hw1⟩; obtain ⟨hs1, hcy, hsz⟩ := all_world w0 w1 pm 1 hw1; have HP1 := Lib.hid (HP0.out.kept hs1 (.inl HP0.out.top)); have HS1 := Lib.hid (HS.out.trans (hs1.any lo hi)); have HT1 : Hid (Tab w1) := HT0.out.only hs1 (by have := HIob.out; have := HP0.out.qhi; have := HOB.out; omega); have HCY := Lib.hid hcy; have HSZ := Lib.hid hsz; have hd0 := HP1.out.c0; have hd2 := (still_cell hs1 HOB.out 2).trans hb2; have hd3 := (still_cell hs1 HOB.out 3).trans hb3; have hd4 := (still_cell hs1 HOB.out 4).trans hb4; have HOB1 := Lib.hid (Nat.lt_of_lt_of_le HOB.out hs1.size); clear hs1 hcy hsz hw1)
      | (go_at_call 51; refine (gone_any lo hi qb bx w0.heap.size pm pr a b c d n S (A) (-1) 0 0 0 0 0 _ HP1.out hlo HT1.out (by omega) (by omega) (.inr ⟨by have := HP0.out.top; omega, HSZ.out, HCY.out⟩)).mono ?_; rintro e w2 ⟨rfl, hp2, ho2⟩; have HP2 := Lib.hid hp2; have HO2 := Lib.hid (HS1.out.trans ho2); have he0 := hp2.choose_spec.c0; have he2 := (half_cell ho2 HIob.out HOB1.out 2).trans hd2; have he3 := (half_cell ho2 HIob.out HOB1.out 3).trans hd3; have he4 := (half_cell ho2 HIob.out HOB1.out 4).trans hd4; clear hp2 ho2))
  go_wp2
  go_ret
  exact ⟨rfl, HP2.out, HO2.out⟩

set_option maxRecDepth 8000 in
set_option maxHeartbeats 1600000 in
theorem looked_15 (lo hi qb bx : Nat) (pm pr : Addr) (a b c d n : Nat) (S : Nat → Bool) (who A B C : Int) (w : World) (hp : PairAt w lo hi qb bx pm pr a b c d n S) (hlo : 0 < lo) (hT : Tab w) (hA : A ≤ 9223372036854775807) (hB : B ≤ 9223372036854775807 ∧ -9223372036854775808 ≤ B) :
    Calls Tryd.prog 42 #[.pointer (some ⟨qb, 0, none⟩), opv who 15 A B C] w fun e w' => e = .returned (.bool true) ∧ (∃ S', PairAt w' lo hi qb bx pm pr a b c d n S') ∧ Only lo hi w w' := by
  have _ := hlo; have _ := hT; have _ := hA; have _ := hB
  have HP := Lib.hid hp; clear hp
  go_enter Tryd.func42, Tryd.ntmps42
  go_wp2_with fail
  obtain ⟨w0, hw0⟩ : ∃ w0, w.alloc (.cells #[.int .i64 who, .int .i64 15, .int .i64 A, .int .i64 B, .int .i64 C] 66) = w0 := ⟨_, rfl⟩
  rw [hw0]
  have hb2 : w0.cell? ⟨w.heap.size, 2, none⟩ = some (.int .i64 A) := by rw [← hw0]; exact cell_new _ _ _ 2
  have hb3 : w0.cell? ⟨w.heap.size, 3, none⟩ = some (.int .i64 B) := by rw [← hw0]; exact cell_new _ _ _ 3
  have hb4 : w0.cell? ⟨w.heap.size, 4, none⟩ = some (.int .i64 C) := by rw [← hw0]; exact cell_new _ _ _ 4
  have hs : Still w w0 := by rw [← hw0]; exact (Only.refl _ _ w).alloc _
  have hob : w.heap.size < w0.heap.size := by rw [← hw0]; simp
  clear hw0
  have HS := Lib.hid (hs.any lo hi)
  have HP0 := Lib.hid (HP.out.kept hs (.inl HP.out.top))
  have hc0 := HP0.out.c0
  have hc1 := HP0.out.c1
  have HIob : Hid (hi ≤ w.heap.size) := HP.out.top
  have HT0 : Hid (Tab w0) := hT.only hs (by have := HIob.out; have := HP.out.qhi; omega)
  clear hs hT
  generalize w.heap.size = ob at *
  have HOB := Lib.hid hob; clear hob
  go_wp2_with fail
  go_region_held3 (fun w' => w'.cell? ⟨qb, 0, none⟩ = some (.pointer (some pm)) ∧ w'.cell? ⟨ob, 2, none⟩ = some (.int .i64 A) ∧ w'.cell? ⟨ob, 3, none⟩ = some (.int .i64 B) ∧ w'.cell? ⟨ob, 4, none⟩ = some (.int .i64 C)) (first | exact ⟨hc0, hb2, hb3, hb4⟩ | exact ⟨hd0, hd2, hd3, hd4⟩ | exact ⟨he0, he2, he3, he4⟩)
    (first
      | (go_at_call 24; refine (all_any pm _).mono ?_; rintro e w1 ⟨rfl, hw1⟩; obtain ⟨hs1, hcy, hsz⟩ := all_world w0 w1 pm 1 hw1; have HP1 := Lib.hid (HP0.out.kept hs1 (.inl HP0.out.top)); have HS1 := Lib.hid (HS.out.trans (hs1.any lo hi)); have HT1 : Hid (Tab w1) := HT0.out.only hs1 (by have := HIob.out; have := HP0.out.qhi; have := HOB.out; omega); have HCY := Lib.hid hcy; have HSZ := Lib.hid hsz; have hd0 := HP1.out.c0; have hd2 := (still_cell hs1 HOB.out 2).trans hb2; have hd3 := (still_cell hs1 HOB.out 3).trans hb3; have hd4 := (still_cell hs1 HOB.out 4).trans hb4; have HOB1 := Lib.hid (Nat.lt_of_lt_of_le HOB.out hs1.size); clear hs1 hcy hsz hw1)
      | (go_at_call 51; refine (gone_any lo hi qb bx w0.heap.size pm pr a b c d n S (-1) (A) 0 _ B 0 0 _ HP1.out hlo HT1.out (by omega) (by omega) (.inr ⟨by have := HP0.out.top; omega, HSZ.out, HCY.out⟩)).mono ?_; rintro e w2 ⟨rfl, hp2, ho2⟩; have HP2 := Lib.hid hp2; have HO2 := Lib.hid (HS1.out.trans ho2); have he0 := hp2.choose_spec.c0; have he2 := (half_cell ho2 HIob.out HOB1.out 2).trans hd2; have he3 := (half_cell ho2 HIob.out HOB1.out 3).trans hd3; have he4 := (half_cell ho2 HIob.out HOB1.out 4).trans hd4; clear hp2 ho2))
  go_wp2
  go_ret
  exact ⟨rfl, HP2.out, HO2.out⟩

set_option maxRecDepth 8000 in
set_option maxHeartbeats 1600000 in
theorem looked_16 (lo hi qb bx : Nat) (pm pr : Addr) (a b c d n : Nat) (S : Nat → Bool) (who A B C : Int) (w : World) (hp : PairAt w lo hi qb bx pm pr a b c d n S) (hlo : 0 < lo) (hT : Tab w) (hA : A ≤ 9223372036854775807) (hB : B ≤ 9223372036854775807 ∧ -9223372036854775808 ≤ B) :
    Calls Tryd.prog 42 #[.pointer (some ⟨qb, 0, none⟩), opv who 16 A B C] w fun e w' => e = .returned (.bool true) ∧ (∃ S', PairAt w' lo hi qb bx pm pr a b c d n S') ∧ Only lo hi w w' := by
  have _ := hlo; have _ := hT; have _ := hA; have _ := hB
  have HP := Lib.hid hp; clear hp
  have hcz : (w.alloc (.cells #[.int .i64 who, .int .i64 16, .int .i64 A, .int .i64 B, .int .i64 C] 66)).cell? ⟨qb, 2, none⟩ = some (itv bx) := (HP.out.kept (lo' := w.heap.size) (hi' := w.heap.size) ((Only.refl _ _ w).alloc _) (.inl HP.out.top)).c2
  go_enter Tryd.func42, Tryd.ntmps42
  go_wp2_with fail
  obtain ⟨w0, hw0⟩ : ∃ w0, w.alloc (.cells #[.int .i64 who, .int .i64 16, .int .i64 A, .int .i64 B, .int .i64 C] 66) = w0 := ⟨_, rfl⟩
  rw [hw0]
  have hb2 : w0.cell? ⟨w.heap.size, 2, none⟩ = some (.int .i64 A) := by rw [← hw0]; exact cell_new _ _ _ 2
  have hb3 : w0.cell? ⟨w.heap.size, 3, none⟩ = some (.int .i64 B) := by rw [← hw0]; exact cell_new _ _ _ 3
  have hb4 : w0.cell? ⟨w.heap.size, 4, none⟩ = some (.int .i64 C) := by rw [← hw0]; exact cell_new _ _ _ 4
  have hs : Still w w0 := by rw [← hw0]; exact (Only.refl _ _ w).alloc _
  have hob : w.heap.size < w0.heap.size := by rw [← hw0]; simp
  clear hw0
  have HS := Lib.hid (hs.any lo hi)
  have HP0 := Lib.hid (HP.out.kept hs (.inl HP.out.top))
  have hc0 := HP0.out.c0
  have hc1 := HP0.out.c1
  have HIob : Hid (hi ≤ w.heap.size) := HP.out.top
  have HT0 : Hid (Tab w0) := hT.only hs (by have := HIob.out; have := HP.out.qhi; omega)
  clear hs hT
  generalize w.heap.size = ob at *
  have HOB := Lib.hid hob; clear hob
  refine (gone_any lo hi qb bx bx pm pr a b c d n S (-1) (-1) 0 0 0 0 0 _ HP0.out hlo HT0.out (by omega) (by omega) (.inl rfl)).mono ?_
  rintro e w2 ⟨rfl, ⟨S2, hp2⟩, ho2⟩
  have HP2 := Lib.hid hp2; have HO2 := Lib.hid ho2; have hc2 := hp2.c2
  have HT2 : Hid (Tab w2) := HT0.out.only ho2 hlo
  clear hp2 ho2
  go_wp2_with fail
  refine (gone_any lo hi qb bx bx pm pr a b c d n S2 (-1) (-1) 0 0 0 0 0 _ HP2.out hlo HT2.out (by omega) (by omega) (.inl rfl)).mono ?_
  rintro e w3 ⟨rfl, hp3, ho3⟩
  have HP3 := Lib.hid hp3; have HO3 := Lib.hid ho3
  clear hp3 ho3
  go_wp2
  go_ret
  exact ⟨rfl, HP3.out, (HS.out.trans HO2.out).trans HO3.out⟩

set_option maxRecDepth 8000 in
set_option maxHeartbeats 1600000 in
theorem looked_k (lo hi qb bx : Nat) (pm pr : Addr) (a b c d n : Nat) (S : Nat → Bool) (who k A B C : Int) (w : World) (hp : PairAt w lo hi qb bx pm pr a b c d n S) (hlo : 0 < lo) (hT : Tab w) (hA : A ≤ 9223372036854775807) (hB : B ≤ 9223372036854775807 ∧ -9223372036854775808 ≤ B) (hk : k < 10 ∨ 17 < k) :
    Calls Tryd.prog 42 #[.pointer (some ⟨qb, 0, none⟩), opv who k A B C] w fun e w' => e = .returned (.bool true) ∧ (∃ S', PairAt w' lo hi qb bx pm pr a b c d n S') ∧ Only lo hi w w' := by
  have _ := hlo; have _ := hT; have _ := hA; have _ := hB
  have h10 : (k == 10) = false := beq_eq_false_iff_ne.2 (by omega)
  have h11 : (k == 11) = false := beq_eq_false_iff_ne.2 (by omega)
  have h12 : (k == 12) = false := beq_eq_false_iff_ne.2 (by omega)
  have h13 : (k == 13) = false := beq_eq_false_iff_ne.2 (by omega)
  have h14 : (k == 14) = false := beq_eq_false_iff_ne.2 (by omega)
  have h15 : (k == 15) = false := beq_eq_false_iff_ne.2 (by omega)
  have h16 : (k == 16) = false := beq_eq_false_iff_ne.2 (by omega)
  have h17 : (k == 17) = false := beq_eq_false_iff_ne.2 (by omega)
  clear hk
  have HP := Lib.hid hp; clear hp
  go_enter Tryd.func42, Tryd.ntmps42
  go_wp2_with fail
  obtain ⟨w0, hw0⟩ : ∃ w0, w.alloc (.cells #[.int .i64 who, .int .i64 k, .int .i64 A, .int .i64 B, .int .i64 C] 66) = w0 := ⟨_, rfl⟩
  rw [hw0]
  have hb2 : w0.cell? ⟨w.heap.size, 2, none⟩ = some (.int .i64 A) := by rw [← hw0]; exact cell_new _ _ _ 2
  have hb3 : w0.cell? ⟨w.heap.size, 3, none⟩ = some (.int .i64 B) := by rw [← hw0]; exact cell_new _ _ _ 3
  have hb4 : w0.cell? ⟨w.heap.size, 4, none⟩ = some (.int .i64 C) := by rw [← hw0]; exact cell_new _ _ _ 4
  have hs : Still w w0 := by rw [← hw0]; exact (Only.refl _ _ w).alloc _
  have hob : w.heap.size < w0.heap.size := by rw [← hw0]; simp
  clear hw0
  have HS := Lib.hid (hs.any lo hi)
  have HP0 := Lib.hid (HP.out.kept hs (.inl HP.out.top))
  go_wp2
  go_ret
  exact ⟨rfl, ⟨_, HP0.out⟩, HS.out⟩

theorem looked_any (lo hi qb bx : Nat) (pm pr : Addr) (a b c d n : Nat) (S : Nat → Bool) (who k A B C : Int) (w : World) (hp : PairAt w lo hi qb bx pm pr a b c d n S) (hlo : 0 < lo) (hT : Tab w) (hA : A ≤ 9223372036854775807) (hB : B ≤ 9223372036854775807 ∧ -9223372036854775808 ≤ B) :
    Calls Tryd.prog 42 #[.pointer (some ⟨qb, 0, none⟩), opv who k A B C] w fun e w' => e = .returned (.bool true) ∧ (∃ S', PairAt w' lo hi qb bx pm pr a b c d n S') ∧ Only lo hi w w' := by
  by_cases h : k < 10 ∨ 17 < k
  · exact looked_k lo hi qb bx pm pr a b c d n S who k A B C w hp hlo hT hA hB h
  · have : k = 10 ∨ k = 11 ∨ k = 12 ∨ k = 13 ∨ k = 14 ∨ k = 15 ∨ k = 16 ∨ k = 17 := by omega
    rcases this with rfl | rfl | rfl | rfl | rfl | rfl | rfl | rfl
    · exact looked_10 lo hi qb bx pm pr a b c d n S who A B C w hp hlo hT hA hB
    · exact looked_11 lo hi qb bx pm pr a b c d n S who A B C w hp hlo hT hA hB
    · exact looked_12 lo hi qb bx pm pr a b c d n S who A B C w hp hlo hT hA hB
    · exact looked_13 lo hi qb bx pm pr a b c d n S who A B C w hp hlo hT hA hB
    · by_cases hz : A = 0
      · exact looked_14z lo hi qb bx pm pr a b c d n S who A B C w hp hlo hT hz hA hB
      · exact looked_14 lo hi qb bx pm pr a b c d n S who A B C w hp hlo hT hz hA hB
    · exact looked_15 lo hi qb bx pm pr a b c d n S who A B C w hp hlo hT hA hB
    · exact looked_16 lo hi qb bx pm pr a b c d n S who A B C w hp hlo hT hA hB
    · exact looked_17 lo hi qb bx pm pr a b c d n S who A B C w hp hlo hT hA hB

end Go.Proofs.YtppeiljecgeifaaDoor

