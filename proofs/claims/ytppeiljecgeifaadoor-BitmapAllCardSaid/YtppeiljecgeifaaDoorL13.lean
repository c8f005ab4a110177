/-
  The walks of (*hearthlaw3.pair).looked. Printed by wip/gen13.py.
-/
import Derived.Test.YtppeiljecgeifaaDoorL12
namespace Go.Proofs.YtppeiljecgeifaaDoor
open Go Go.RowKit

theorem map_top {w : World} {lo hi n : Nat} {p : Addr} {S : Nat → Bool} (h : IsMap w lo hi p n S) : ∀ i, n ≤ i → S i = false := by
  obtain ⟨_, _, _, _, _, _, hz⟩ := h
  exact hz

set_option maxRecDepth 8000 in
set_option maxHeartbeats 1600000 in
theorem looked_10 (lo hi qb bx : Nat) (pm pr : Addr) (a b c d n : Nat) (S : Nat → Bool) (who A B C : Int) (w : World) (hp : PairAt w lo hi qb bx pm pr a b c d n S) (hlo : 0 < lo) (hT : Tab w) (hA : A ≤ 9223372036854775807) (hB : B ≤ 9223372036854775807 ∧ -9223372036854775808 ≤ B) :
    Calls Tryd.prog 42 #[.pointer (some ⟨qb, 0, none⟩), opv who 10 A B C] w fun e w' => e = .returned (.bool true) ∧ (∃ S', PairAt w' lo hi qb bx pm pr a b c d n S') ∧ Only lo hi w w' := by
  have _ := hlo; have _ := hT; have _ := hA; have _ := hB
  have HP := Lib.hid hp; clear hp
  go_enter Tryd.func42, Tryd.ntmps42
  go_wp2_with fail
  obtain ⟨w0, hw0⟩ : ∃ w0, w.alloc (.cells #[.int .i64 who, .int .i64 10, .int .i64 A, .int .i64 B, .int .i64 C] 66) = w0 := ⟨_, rfl⟩
  rw [hw0]
  have hb2 : w0.cell? ⟨w.heap.size, 2, none⟩ = some (.int .i64 A) := by rw [← hw0]; exact cell_new _ _ _ 2
  have hb3 : w0.cell? ⟨w.heap.size, 3, none⟩ = some (.int .i64 B) := by rw [← hw0]; exact cell_new _ _ _ 3
  have hb4 : w0.cell? ⟨w.heap.size, 4, none⟩ = some (.int .i64 C) := by rw [← hw0]; exact cell_new _ _ _ 4
  have hs : Still w w0 := by rw [← hw0]; exact (Only.refl _ _ w).alloc _
  have hob : w.heap.size < w0.heap.size := by rw [← hw0]; simp
  clear hw0
  have HS := Lib.hid (hs.any lo hi)
  have HP0 := Lib.hid (HP.out.kept hs (.inl HP.out.top))
  have hc0 := HP0.out.c0
  have hc1 := HP0.out.c1
  have HIob : Hid (hi ≤ w.heap.size) := HP.out.top
  have HT0 : Hid (Tab w0) := hT.only hs (by have := HIob.out; have := HP.out.qhi; omega)
  clear hs hT
  generalize w.heap.size = ob at *
  have HOB := Lib.hid hob; clear hob
  have H1 : Hid (∀ m, Calls Tryd.prog 23 #[.pointer (some pm), .int .i64 A] (w0.drewN m) fun e w' => e = .returned (.bool (decide (0 ≤ A) && S A.toNat)) ∧ (w0.drewN m) = w') := fun m => get_any a b n pm S A _ (HP0.out.map.drewN m) _ rfl
  have H2 : Hid (∀ m, Calls Tryd.prog 47 #[.pointer (some pr), .int .i64 A] (w0.drewN m) fun e w' => e = .returned (.bool (decide (0 ≤ A) && S A.toNat)) ∧ (w0.drewN m) = w') := fun m => rget_any c d n pr S A _ (HP0.out.ref.drewN m) (map_top HP0.out.map) _ rfl
  generalize (decide (0 ≤ A) && S A.toNat) = x at *
  go_quiet ((first | (go_at_call 23; exact quiet_eq (H1.out _)) | (go_at_call 47; exact quiet_eq (H2.out _))))
  go_wp2
  go_ret
  exact ⟨rfl, ⟨_, HP0.out.drewN _⟩, HS.out.drewN _⟩

set_option maxRecDepth 8000 in
set_option maxHeartbeats 1600000 in
theorem looked_11 (lo hi qb bx : Nat) (pm pr : Addr) (a b c d n : Nat) (S : Nat → Bool) (who A B C : Int) (w : World) (hp : PairAt w lo hi qb bx pm pr a b c d n S) (hlo : 0 < lo) (hT : Tab w) (hA : A ≤ 9223372036854775807) (hB : B ≤ 9223372036854775807 ∧ -9223372036854775808 ≤ B) :
    Calls Tryd.prog 42 #[.pointer (some ⟨qb, 0, none⟩), opv who 11 A B C] w fun e w' => e = .returned (.bool true) ∧ (∃ S', PairAt w' lo hi qb bx pm pr a b c d n S') ∧ Only lo hi w w' := by
  have _ := hlo; have _ := hT; have _ := hA; have _ := hB
  have HP := Lib.hid hp; clear hp
  go_enter Tryd.func42, Tryd.ntmps42
  go_wp2_with fail
  obtain ⟨w0, hw0⟩ : ∃ w0, w.alloc (.cells #[.int .i64 who, .int .i64 11, .int .i64 A, .int .i64 B, .int .i64 C] 66) = w0 := ⟨_, rfl⟩
  rw [hw0]
  have hb2 : w0.cell? ⟨w.heap.size, 2, none⟩ = some (.int .i64 A) := by rw [← hw0]; exact cell_new _ _ _ 2
  have hb3 : w0.cell? ⟨w.heap.size, 3, none⟩ = some (.int .i64 B) := by rw [← hw0]; exact cell_new _ _ _ 3
  have hb4 : w0.cell? ⟨w.heap.size, 4, none⟩ = some (.int .i64 C) := by rw [← hw0]; exact cell_new _ _ _ 4
  have hs : Still w w0 := by rw [← hw0]; exact (Only.refl _ _ w).alloc _
  have hob : w.heap.size < w0.heap.size := by rw [← hw0]; simp
  clear hw0
  have HS := Lib.hid (hs.any lo hi)
  have HP0 := Lib.hid (HP.out.kept hs (.inl HP.out.top))
  have hc0 := HP0.out.c0
  have hc1 := HP0.out.c1
  have HIob : Hid (hi ≤ w.heap.size) := HP.out.top
  have HT0 : Hid (Tab w0) := hT.only hs (by have := HIob.out; have := HP.out.qhi; omega)
  clear hs hT
  generalize w.heap.size = ob at *
  have HOB := Lib.hid hob; clear hob
  obtain ⟨rb, ao, cap, rfl, hr⟩ := HP0.out.ref
  have hcr := hr.cell0
  clear hr
  have H1 : Hid (∀ m, Calls Tryd.prog 21 #[.pointer (some pm)] (w0.drewN m) fun e w' => e = .returned (.int .i64 (Bm.cnt S 0 n : Nat)) ∧ ∃ k, w' = (w0.drewN m).drewN k) := fun m => count_any a b n pm S _ (HP0.out.map.drewN m)
  have H2 : Hid (∀ m, Calls Tryd.prog 18 #[.pointer (some pm), .int .i64 A, .int .i64 B] (w0.drewN m) fun e w' => e = .returned (.int .i64 (Bm.count S n A B : Nat)) ∧ ∃ k, w' = (w0.drewN m).drewN k) := fun m => countRange_any a b n pm S A B _ (HP0.out.map.drewN m) hA hB.2
  have H3 : Hid (∀ m, Calls Tryd.prog 48 #[.pointer (some ⟨rb, 0, none⟩), .int .i64 A, .int .i64 B] (w0.drewN m) fun e w' => e = .returned (.int .i64 (Bm.count S n A B : Nat)) ∧ (w0.drewN m) = w') := fun m => rcount_any c d n _ S A B _ (HP0.out.ref.drewN m)
  have H4 : Hid (∀ m, Calls Tryd.prog 48 #[.pointer (some ⟨rb, 0, none⟩), .int .i64 0, .int .i64 (n : Int)] (w0.drewN m) fun e w' => e = .returned (.int .i64 (Bm.cnt S 0 n : Nat)) ∧ (w0.drewN m) = w') := fun m => by rw [← Bm.count_all]; exact rcount_any c d n _ S 0 n _ (HP0.out.ref.drewN m)
  generalize ((Bm.cnt S 0 n : Nat) : Int) = x at *
  generalize ((Bm.count S n A B : Nat) : Int) = y at *
  have hx : (x == x) = true := beq_self_eq_true x
  have hy : (y == y) = true := beq_self_eq_true y
  go_quiet ((first | (go_at_call 21; with_reducible exact Calls.quiet_of (H1.out _)) | (go_at_call 18; with_reducible exact Calls.quiet_of (H2.out _)) | (go_at_call 48; with_reducible exact quiet_eq (H3.out _)) | (go_at_call 48; with_reducible exact quiet_eq (H4.out _))))
  go_wp2
  go_ret
  exact ⟨rfl, ⟨_, HP0.out.drewN _⟩, HS.out.drewN _⟩

set_option maxRecDepth 8000 in
set_option maxHeartbeats 1600000 in
theorem looked_12 (lo hi qb bx : Nat) (pm pr : Addr) (a b c d n : Nat) (S : Nat → Bool) (who A B C : Int) (w : World) (hp : PairAt w lo hi qb bx pm pr a b c d n S) (hlo : 0 < lo) (hT : Tab w) (hA : A ≤ 9223372036854775807) (hB : B ≤ 9223372036854775807 ∧ -9223372036854775808 ≤ B) :
    Calls Tryd.prog 42 #[.pointer (some ⟨qb, 0, none⟩), opv who 12 A B C] w fun e w' => e = .returned (.bool true) ∧ (∃ S', PairAt w' lo hi qb bx pm pr a b c d n S') ∧ Only lo hi w w' := by
  have _ := hlo; have _ := hT; have _ := hA; have _ := hB
  have HP := Lib.hid hp; clear hp
  go_enter Tryd.func42, Tryd.ntmps42
  go_wp2_with fail
  obtain ⟨w0, hw0⟩ : ∃ w0, w.alloc (.cells #[.int .i64 who, .int .i64 12, .int .i64 A, .int .i64 B, .int .i64 C] 66) = w0 := ⟨_, rfl⟩
  rw [hw0]
  have hb2 : w0.cell? ⟨w.heap.size, 2, none⟩ = some (.int .i64 A) := by rw [← hw0]; exact cell_new _ _ _ 2
  have hb3 : w0.cell? ⟨w.heap.size, 3, none⟩ = some (.int .i64 B) := by rw [← hw0]; exact cell_new _ _ _ 3
  have hb4 : w0.cell? ⟨w.heap.size, 4, none⟩ = some (.int .i64 C) := by rw [← hw0]; exact cell_new _ _ _ 4
  have hs : Still w w0 := by rw [← hw0]; exact (Only.refl _ _ w).alloc _
  have hob : w.heap.size < w0.heap.size := by rw [← hw0]; simp
  clear hw0
  have HS := Lib.hid (hs.any lo hi)
  have HP0 := Lib.hid (HP.out.kept hs (.inl HP.out.top))
  have hc0 := HP0.out.c0
  have hc1 := HP0.out.c1
  have HIob : Hid (hi ≤ w.heap.size) := HP.out.top
  have HT0 : Hid (Tab w0) := hT.only hs (by have := HIob.out; have := HP.out.qhi; omega)
  clear hs hT
  generalize w.heap.size = ob at *
  have HOB := Lib.hid hob; clear hob
  have H1 : Hid (∀ m, Calls Tryd.prog 22 #[.pointer (some pm), .int .i64 A] (w0.drewN m) fun e w' => e = .returned (.int .i64 (Bm.next S n A)) ∧ ∃ k, w' = (w0.drewN m).drewN k) := fun m => next_any a b n pm S A _ (HP0.out.map.drewN m) HT0.out hA
  have H2 : Hid (∀ m, Calls Tryd.prog 49 #[.pointer (some pr), .int .i64 A] (w0.drewN m) fun e w' => e = .returned (.int .i64 (Bm.next S n A)) ∧ (w0.drewN m) = w') := fun m => rnext_any c d n pr S A _ (HP0.out.ref.drewN m)
  generalize Bm.next S n A = x at *
  go_quiet ((first | (go_at_call 22; exact Calls.quiet_of (H1.out _)) | (go_at_call 49; exact quiet_eq (H2.out _))))
  go_wp2
  go_ret
  exact ⟨rfl, ⟨_, HP0.out.drewN _⟩, HS.out.drewN _⟩

set_option maxRecDepth 8000 in
set_option maxHeartbeats 1600000 in
theorem looked_13 (lo hi qb bx : Nat) (pm pr : Addr) (a b c d n : Nat) (S : Nat → Bool) (who A B C : Int) (w : World) (hp : PairAt w lo hi qb bx pm pr a b c d n S) (hlo : 0 < lo) (hT : Tab w) (hA : A ≤ 9223372036854775807) (hB : B ≤ 9223372036854775807 ∧ -9223372036854775808 ≤ B) :
    Calls Tryd.prog 42 #[.pointer (some ⟨qb, 0, none⟩), opv who 13 A B C] w fun e w' => e = .returned (.bool true) ∧ (∃ S', PairAt w' lo hi qb bx pm pr a b c d n S') ∧ Only lo hi w w' := by
  have _ := hlo; have _ := hT; have _ := hA; have _ := hB
  have HP := Lib.hid hp; clear hp
  go_enter Tryd.func42, Tryd.ntmps42
  go_wp2_with fail
  obtain ⟨w0, hw0⟩ : ∃ w0, w.alloc (.cells #[.int .i64 who, .int .i64 13, .int .i64 A, .int .i64 B, .int .i64 C] 66) = w0 := ⟨_, rfl⟩
  rw [hw0]
  have hb2 : w0.cell? ⟨w.heap.size, 2, none⟩ = some (.int .i64 A) := by rw [← hw0]; exact cell_new _ _ _ 2
  have hb3 : w0.cell? ⟨w.heap.size, 3, none⟩ = some (.int .i64 B) := by rw [← hw0]; exact cell_new _ _ _ 3
  have hb4 : w0.cell? ⟨w.heap.size, 4, none⟩ = some (.int .i64 C) := by rw [← hw0]; exact cell_new _ _ _ 4
  have hs : Still w w0 := by rw [← hw0]; exact (Only.refl _ _ w).alloc _
  have hob : w.heap.size < w0.heap.size := by rw [← hw0]; simp
  clear hw0
  have HS := Lib.hid (hs.any lo hi)
  have HP0 := Lib.hid (HP.out.kept hs (.inl HP.out.top))
  have hc0 := HP0.out.c0
  have hc1 := HP0.out.c1
  have HIob : Hid (hi ≤ w.heap.size) := HP.out.top
  have HT0 : Hid (Tab w0) := hT.only hs (by have := HIob.out; have := HP.out.qhi; omega)
  clear hs hT
  generalize w.heap.size = ob at *
  have HOB := Lib.hid hob; clear hob
  have H1 : Hid (∀ m, Calls Tryd.prog 26 #[.pointer (some pm), .int .i64 A, .int .i64 B] (w0.drewN m) fun e w' => e = .returned (.int .i64 (Bm.gap S n A B)) ∧ ∃ k, w' = (w0.drewN m).drewN k) := fun m => gap_any a b n pm S A B _ (HP0.out.map.drewN m) HT0.out hA
  have H2 : Hid (∀ m, Calls Tryd.prog 50 #[.pointer (some pr), .int .i64 A, .int .i64 B] (w0.drewN m) fun e w' => e = .returned (.int .i64 (Bm.gap S n A B)) ∧ (w0.drewN m) = w') := fun m => rgap_any c d n pr S A B _ (HP0.out.ref.drewN m)
  generalize Bm.gap S n A B = x at *
  go_quiet ((first | (go_at_call 26; exact Calls.quiet_of (H1.out _)) | (go_at_call 50; exact quiet_eq (H2.out _))))
  go_wp2
  go_ret
  exact ⟨rfl, ⟨_, HP0.out.drewN _⟩, HS.out.drewN _⟩

set_option maxRecDepth 8000 in
set_option maxHeartbeats 1600000 in
theorem looked_17 (lo hi qb bx : Nat) (pm pr : Addr) (a b c d n : Nat) (S : Nat → Bool) (who A B C : Int) (w : World) (hp : PairAt w lo hi qb bx pm pr a b c d n S) (hlo : 0 < lo) (hT : Tab w) (hA : A ≤ 9223372036854775807) (hB : B ≤ 9223372036854775807 ∧ -9223372036854775808 ≤ B) :
    Calls Tryd.prog 42 #[.pointer (some ⟨qb, 0, none⟩), opv who 17 A B C] w fun e w' => e = .returned (.bool true) ∧ (∃ S', PairAt w' lo hi qb bx pm pr a b c d n S') ∧ Only lo hi w w' := by
  have _ := hlo; have _ := hT; have _ := hA; have _ := hB
  have HP := Lib.hid hp; clear hp
  go_enter Tryd.func42, Tryd.ntmps42
  go_wp2_with fail
  obtain ⟨w0, hw0⟩ : ∃ w0, w.alloc (.cells #[.int .i64 who, .int .i64 17, .int .i64 A, .int .i64 B, .int .i64 C] 66) = w0 := ⟨_, rfl⟩
  rw [hw0]
  have hb2 : w0.cell? ⟨w.heap.size, 2, none⟩ = some (.int .i64 A) := by rw [← hw0]; exact cell_new _ _ _ 2
  have hb3 : w0.cell? ⟨w.heap.size, 3, none⟩ = some (.int .i64 B) := by rw [← hw0]; exact cell_new _ _ _ 3
  have hb4 : w0.cell? ⟨w.heap.size, 4, none⟩ = some (.int .i64 C) := by rw [← hw0]; exact cell_new _ _ _ 4
  have hs : Still w w0 := by rw [← hw0]; exact (Only.refl _ _ w).alloc _
  have hob : w.heap.size < w0.heap.size := by rw [← hw0]; simp
  clear hw0
  have HS := Lib.hid (hs.any lo hi)
  have HP0 := Lib.hid (HP.out.kept hs (.inl HP.out.top))
  have hc0 := HP0.out.c0
  have hc1 := HP0.out.c1
  have HIob : Hid (hi ≤ w.heap.size) := HP.out.top
  have HT0 : Hid (Tab w0) := hT.only hs (by have := HIob.out; have := HP.out.qhi; omega)
  clear hs hT
  generalize w.heap.size = ob at *
  have HOB := Lib.hid hob; clear hob
  obtain ⟨rb, ao, cap, rfl, hr⟩ := HP0.out.ref
  have hcr := hr.cell0
  clear hr
  have H1 : Hid (∀ m, Calls Tryd.prog 31 #[.pointer (some pm)] (w0.drewN m) fun e w' => e = .returned (.int .i64 (n : Int)) ∧ (w0.drewN m) = w') := fun m => len_any a b n pm S _ (HP0.out.map.drewN m)
  go_quiet ((first | (go_at_call 31; exact quiet_eq (H1.out _))))
  go_wp2
  go_ret
  exact ⟨rfl, ⟨_, HP0.out.drewN _⟩, HS.out.drewN _⟩

end Go.Proofs.YtppeiljecgeifaaDoor

