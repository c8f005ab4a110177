/-
  The walk of (*hearthlaw3.pair).turned.
-/
import Derived.Test.YtppeiljecgeifaaDoorL9
import Derived.Deep.RegionHeld3
namespace Go.Proofs.YtppeiljecgeifaaDoor
open Go Go.RowKit

/-- The code of a call at one number, at a range; what it leaves. -/
def codeI (n : Nat) (i : Int) : Int := if 0 ≤ i ∧ i < (n : Int) then 0 else 10
def codeR (n : Nat) (f t : Int) : Int := if 0 ≤ f ∧ t ≤ (n : Int) ∧ f ≤ t then 0 else 10
def putI (S : Nat → Bool) (n : Nat) (i : Int) (b : Bool) : Nat → Bool := if 0 ≤ i ∧ i < (n : Int) then rangeS S i (i + 1) b else S
def putR (S : Nat → Bool) (n : Nat) (f t : Int) (b : Bool) : Nat → Bool := if 0 ≤ f ∧ t ≤ (n : Int) ∧ f ≤ t then rangeS S f t b else S

section
variable (lo hi n : Nat) (p : Addr) (S : Nat → Bool) (w : World)
theorem set_all (i : Int) (hm : IsMap w lo hi p n S) (h2 : i ≤ 9223372036854775807) :
    Calls Tryd.prog 28 #[.pointer (some p), .int .i64 i] w fun e w' => e = .returned (.int .i64 (codeI n i)) ∧ IsMap w' lo hi p n (putI S n i true) ∧ Only lo hi w w' := by
  unfold codeI putI
  by_cases h : 0 ≤ i ∧ i < (n : Int)
  · simp only [if_pos h]; exact set_yes lo hi n p S i w hm h.1 h.2
  · simp only [if_neg h]
    refine (set_no lo hi n p S i w hm h2 (by omega)).mono ?_
    rintro e w' ⟨rfl, rfl⟩
    exact ⟨rfl, hm, Only.refl _ _ _⟩
theorem clear_all (i : Int) (hm : IsMap w lo hi p n S) (h2 : i ≤ 9223372036854775807) :
    Calls Tryd.prog 44 #[.pointer (some p), .int .i64 i] w fun e w' => e = .returned (.int .i64 (codeI n i)) ∧ IsMap w' lo hi p n (putI S n i false) ∧ Only lo hi w w' := by
  unfold codeI putI
  by_cases h : 0 ≤ i ∧ i < (n : Int)
  · simp only [if_pos h]; exact clear_yes lo hi n p S i w hm h.1 h.2
  · simp only [if_neg h]
    refine (clear_no lo hi n p S i w hm h2 (by omega)).mono ?_
    rintro e w' ⟨rfl, rfl⟩
    exact ⟨rfl, hm, Only.refl _ _ _⟩
theorem setRange_all (f t : Int) (hm : IsMap w lo hi p n S) :
    Calls Tryd.prog 19 #[.pointer (some p), .int .i64 f, .int .i64 t] w fun e w' => e = .returned (.int .i64 (codeR n f t)) ∧ IsMap w' lo hi p n (putR S n f t true) ∧ Only lo hi w w' := by
  unfold codeR putR
  by_cases h : 0 ≤ f ∧ t ≤ (n : Int) ∧ f ≤ t
  · simp only [if_pos h]; exact setRange_any lo hi n p S f t w hm h.1 h.2.1 h.2.2
  · simp only [if_neg h]
    refine (setRange_no lo hi n p S f t w hm h).mono ?_
    rintro e w' ⟨rfl, rfl⟩
    exact ⟨rfl, hm, Only.refl _ _ _⟩
theorem clearRange_all (f t : Int) (hm : IsMap w lo hi p n S) :
    Calls Tryd.prog 20 #[.pointer (some p), .int .i64 f, .int .i64 t] w fun e w' => e = .returned (.int .i64 (codeR n f t)) ∧ IsMap w' lo hi p n (putR S n f t false) ∧ Only lo hi w w' := by
  unfold codeR putR
  by_cases h : 0 ≤ f ∧ t ≤ (n : Int) ∧ f ≤ t
  · simp only [if_pos h]; exact clearRange_any lo hi n p S f t w hm h.1 h.2.1 h.2.2
  · simp only [if_neg h]
    refine (clearRange_no lo hi n p S f t w hm h).mono ?_
    rintro e w' ⟨rfl, rfl⟩
    exact ⟨rfl, hm, Only.refl _ _ _⟩
theorem put_all (i : Int) (b : Bool) (hm : IsRef w lo hi p n S) :
    Calls Tryd.prog 43 #[.pointer (some p), .int .i64 i, .bool b] w fun e w' => e = .returned (.int .i64 (codeI n i)) ∧ IsRef w' lo hi p n (putI S n i b) ∧ Only lo hi w w' := by
  unfold codeI putI
  by_cases h : 0 ≤ i ∧ i < (n : Int)
  · simp only [if_pos h]; exact put_yes lo hi n p S i b w hm h.1 h.2
  · simp only [if_neg h]
    refine (put_no lo hi n p S i b w hm (by omega)).mono ?_
    rintro e w' ⟨rfl, rfl⟩
    exact ⟨rfl, hm, Only.refl _ _ _⟩
theorem putRange_all (f t : Int) (b : Bool) (hm : IsRef w lo hi p n S) :
    Calls Tryd.prog 45 #[.pointer (some p), .int .i64 f, .int .i64 t, .bool b] w fun e w' => e = .returned (.int .i64 (codeR n f t)) ∧ IsRef w' lo hi p n (putR S n f t b) ∧ Only lo hi w w' := by
  unfold codeR putR
  by_cases h : 0 ≤ f ∧ t ≤ (n : Int) ∧ f ≤ t
  · simp only [if_pos h]; exact putRange_yes lo hi n p S f t b w hm h.1 h.2.1 h.2.2
  · simp only [if_neg h]
    refine (putRange_no lo hi n p S f t b w hm h).mono ?_
    rintro e w' ⟨rfl, rfl⟩
    exact ⟨rfl, hm, Only.refl _ _ _⟩
end

/-- A step of a script as a value. -/
abbrev opv (who kind a b c : Int) : Value := .agg #[.int .i64 who, .int .i64 kind, .int .i64 a, .int .i64 b, .int .i64 c]

theorem PairAt.half {w w' : World} {lo hi qb bx : Nat} {pm pr : Addr} {a b c d n : Nat} {S : Nat → Bool} (h : PairAt w lo hi qb bx pm pr a b c d n S) (ho : Only a b w w') :
    w'.cell? ⟨qb, 0, none⟩ = some (.pointer (some pm)) ∧ w'.cell? ⟨qb, 1, none⟩ = some (.pointer (some pr)) ∧ IsRef w' c d pr n S := by
  have h1 := h.qhi; have h2 := h.top; have h3 := h.qm; have h4 := h.mr
  refine ⟨(ho.cell (p := ⟨qb, 0, none⟩) (by show qb < _; omega) (by show qb < a ∨ b ≤ qb; omega)).trans h.c0, (ho.cell (p := ⟨qb, 1, none⟩) (by show qb < _; omega) (by show qb < a ∨ b ≤ qb; omega)).trans h.c1, h.ref.kept ho (by omega)⟩
theorem half_cell {w w' : World} {a b ob : Nat} (ho : Only a b w w') (hb : b ≤ ob) (hs : ob < w.heap.size) (j : Nat) : w'.cell? ⟨ob, j, none⟩ = w.cell? ⟨ob, j, none⟩ := ho.cell (p := ⟨ob, j, none⟩) hs (.inr hb)
theorem PairAt.full {w w1 w2 : World} {lo hi qb bx : Nat} {pm pr : Addr} {a b c d n : Nat} {S S' : Nat → Bool} (h : PairAt w lo hi qb bx pm pr a b c d n S) (ho1 : Only a b w w1) (hm1 : IsMap w1 a b pm n S') (ho2 : Only c d w1 w2) (hr2 : IsRef w2 c d pr n S') :
    PairAt w2 lo hi qb bx pm pr a b c d n S' ∧ Only lo hi w w2 := by
  have h1 := h.top; have h2 := h.qlo; have h3 := h.qhi; have h4 := h.xlo; have h5 := h.xhi; have h6 := h.alo; have h7 := h.bhi; have h8 := h.clo; have h9 := h.dhi
  have i1 := h.mr; have i2 := h.qm; have i3 := h.qr; have i4 := h.xm; have i5 := h.xr
  have s1 := ho1.size; have s2 := ho2.size
  refine ⟨⟨by omega, h2, h3, h4, h5, ?_, ?_, hm1.kept ho2 (by omega), hr2, h6, h7, h8, h9, i1, i2, i3, i4, i5⟩, (ho1.mono h6 h7).trans (ho2.mono h8 h9)⟩
  · rw [ho2.block qb (by omega) (by omega), ho1.block qb (by omega) (by omega)]; exact h.qhead
  · rw [ho2.block bx (by omega) (by omega), ho1.block bx (by omega) (by omega)]; exact h.xhead

set_option maxHeartbeats 1600000 in
theorem turned_1 (lo hi qb bx : Nat) (pm pr : Addr) (a b c d n : Nat) (S : Nat → Bool) (who A B C : Int) (w : World) (hp : PairAt w lo hi qb bx pm pr a b c d n S) (hA : A ≤ 9223372036854775807) :
    Calls Tryd.prog 40 #[.pointer (some ⟨qb, 0, none⟩), opv who 1 A B C] w fun e w' => e = .returned (.bool true) ∧ (∃ S', PairAt w' lo hi qb bx pm pr a b c d n S') ∧ Only lo hi w w' := by
  have hc0 := hp.c0
  have hc1 := hp.c1
  have HP := Lib.hid hp; clear hp
  go_enter Tryd.func40, Tryd.ntmps40
  go_wp2_with fail
  obtain ⟨w0, hw0⟩ : ∃ w0, w.alloc (.cells #[.int .i64 who, .int .i64 1, .int .i64 A, .int .i64 B, .int .i64 C] 66) = w0 := ⟨_, rfl⟩
  rw [hw0]
  have hb2 : w0.cell? ⟨w.heap.size, 2, none⟩ = some (.int .i64 A) := by rw [← hw0]; exact cell_new _ _ _ 2
  have hb3 : w0.cell? ⟨w.heap.size, 3, none⟩ = some (.int .i64 B) := by rw [← hw0]; exact cell_new _ _ _ 3
  have hs : Still w w0 := by rw [← hw0]; exact (Only.refl _ _ w).alloc _
  have hob : w.heap.size < w0.heap.size := by rw [← hw0]; simp
  clear hw0
  have HS := Lib.hid (hs.any lo hi)
  have HP0 := Lib.hid (HP.out.kept hs (.inl HP.out.top))
  have hc0 := HP0.out.c0
  have hc1 := HP0.out.c1
  have HIob : Hid (hi ≤ w.heap.size) := HP.out.top
  clear hs
  generalize w.heap.size = ob at *
  have HOB := Lib.hid hob; clear hob
  have HM : Hid (∀ m, Calls Tryd.prog 28 #[.pointer (some pm), .int .i64 A] (w0.drewN m) fun e w' => e = .returned (.int .i64 (codeI n A)) ∧ IsMap w' a b pm n (putI S n A true) ∧ Only a b (w0.drewN m) w') := fun m => set_all a b n pm S _ A (HP0.out.map.drewN m) hA
  go_region_held3 (fun w' => w'.cell? ⟨qb, 0, none⟩ = some (.pointer (some pm)) ∧ w'.cell? ⟨qb, 1, none⟩ = some (.pointer (some pr)) ∧ w'.cell? ⟨ob, 2, none⟩ = some (.int .i64 A) ∧ w'.cell? ⟨ob, 3, none⟩ = some (.int .i64 B)) (first | exact ⟨hc0, hc1, hb2, hb3⟩ | exact ⟨hd0, hd1, hd2, hd3⟩ | exact ⟨he0, he1, he2, he3⟩)
    (first
      | (go_at_call 28; refine (HM.out 1).mono ?_; rintro e w1 ⟨rfl, hm1, ho1⟩; obtain ⟨hd0, hd1, hr1⟩ := (HP0.out.drewN 1).half ho1; have HR1 := Lib.hid hr1; clear hr1; have hd2 := (half_cell ho1 (by have := HP0.out.bhi; have := HIob.out; omega) HOB.out 2).trans hb2; have hd3 := (half_cell ho1 (by have := HP0.out.bhi; have := HIob.out; omega) HOB.out 3).trans hb3; have HM1 := Lib.hid hm1; have HO1 := Lib.hid ho1; clear hm1 ho1)
      | (go_at_call 43; refine (put_all c d n pr S _ A true HR1.out).mono ?_; rintro e w2 ⟨rfl, hm2, ho2⟩; obtain ⟨hp2, hop2⟩ := (HP0.out.drewN 1).full HO1.out HM1.out ho2 hm2; have HP2 := Lib.hid hp2; have HO2 := Lib.hid hop2; have he0 := hp2.c0; have he1 := hp2.c1; have he2 := (half_cell ho2 (by have := HP0.out.dhi; have := HIob.out; omega) (Nat.lt_of_lt_of_le HOB.out HO1.out.size) 2).trans hd2; have he3 := (half_cell ho2 (by have := HP0.out.dhi; have := HIob.out; omega) (Nat.lt_of_lt_of_le HOB.out HO1.out.size) 3).trans hd3; clear hp2 hop2 ho2 hm2))
  go_wp2
  go_ret
  exact ⟨rfl, ⟨_, HP2.out⟩, (HS.out.drewN 1).trans HO2.out⟩

set_option maxHeartbeats 1600000 in
theorem turned_2 (lo hi qb bx : Nat) (pm pr : Addr) (a b c d n : Nat) (S : Nat → Bool) (who A B C : Int) (w : World) (hp : PairAt w lo hi qb bx pm pr a b c d n S) (hA : A ≤ 9223372036854775807) :
    Calls Tryd.prog 40 #[.pointer (some ⟨qb, 0, none⟩), opv who 2 A B C] w fun e w' => e = .returned (.bool true) ∧ (∃ S', PairAt w' lo hi qb bx pm pr a b c d n S') ∧ Only lo hi w w' := by
  have hc0 := hp.c0
  have hc1 := hp.c1
  have HP := Lib.hid hp; clear hp
  go_enter Tryd.func40, Tryd.ntmps40
  go_wp2_with fail
  obtain ⟨w0, hw0⟩ : ∃ w0, w.alloc (.cells #[.int .i64 who, .int .i64 2, .int .i64 A, .int .i64 B, .int .i64 C] 66) = w0 := ⟨_, rfl⟩
  rw [hw0]
  have hb2 : w0.cell? ⟨w.heap.size, 2, none⟩ = some (.int .i64 A) := by rw [← hw0]; exact cell_new _ _ _ 2
  have hb3 : w0.cell? ⟨w.heap.size, 3, none⟩ = some (.int .i64 B) := by rw [← hw0]; exact cell_new _ _ _ 3
  have hs : Still w w0 := by rw [← hw0]; exact (Only.refl _ _ w).alloc _
  have hob : w.heap.size < w0.heap.size := by rw [← hw0]; simp
  clear hw0
  have HS := Lib.hid (hs.any lo hi)
  have HP0 := Lib.hid (HP.out.kept hs (.inl HP.out.top))
  have hc0 := HP0.out.c0
  have hc1 := HP0.out.c1
  have HIob : Hid (hi ≤ w.heap.size) := HP.out.top
  clear hs
  generalize w.heap.size = ob at *
  have HOB := Lib.hid hob; clear hob
  have HM : Hid (∀ m, Calls Tryd.prog 44 #[.pointer (some pm), .int .i64 A] (w0.drewN m) fun e w' => e = .returned (.int .i64 (codeI n A)) ∧ IsMap w' a b pm n (putI S n A false) ∧ Only a b (w0.drewN m) w') := fun m => clear_all a b n pm S _ A (HP0.out.map.drewN m) hA
  go_region_held3 (fun w' => w'.cell? ⟨qb, 0, none⟩ = some (.pointer (some pm)) ∧ w'.cell? ⟨qb, 1, none⟩ = some (.pointer (some pr)) ∧ w'.cell? ⟨ob, 2, none⟩ = some (.int .i64 A) ∧ w'.cell? ⟨ob, 3, none⟩ = some (.int .i64 B)) (first | exact ⟨hc0, hc1, hb2, hb3⟩ | exact ⟨hd0, hd1, hd2, hd3⟩ | exact ⟨he0, he1, he2, he3⟩)
    (first
      | (go_at_call 44; refine (HM.out 1).mono ?_; rintro e w1 ⟨rfl, hm1, ho1⟩; obtain ⟨hd0, hd1, hr1⟩ := (HP0.out.drewN 1).half ho1; have HR1 := Lib.hid hr1; clear hr1; have hd2 := (half_cell ho1 (by have := HP0.out.bhi; have := HIob.out; omega) HOB.out 2).trans hb2; have hd3 := (half_cell ho1 (by have := HP0.out.bhi; have := HIob.out; omega) HOB.out 3).trans hb3; have HM1 := Lib.hid hm1; have HO1 := Lib.hid ho1; clear hm1 ho1)
      | (go_at_call 43; refine (put_all c d n pr S _ A false HR1.out).mono ?_; rintro e w2 ⟨rfl, hm2, ho2⟩; obtain ⟨hp2, hop2⟩ := (HP0.out.drewN 1).full HO1.out HM1.out ho2 hm2; have HP2 := Lib.hid hp2; have HO2 := Lib.hid hop2; have he0 := hp2.c0; have he1 := hp2.c1; have he2 := (half_cell ho2 (by have := HP0.out.dhi; have := HIob.out; omega) (Nat.lt_of_lt_of_le HOB.out HO1.out.size) 2).trans hd2; have he3 := (half_cell ho2 (by have := HP0.out.dhi; have := HIob.out; omega) (Nat.lt_of_lt_of_le HOB.out HO1.out.size) 3).trans hd3; clear hp2 hop2 ho2 hm2))
  go_wp2
  go_ret
  exact ⟨rfl, ⟨_, HP2.out⟩, (HS.out.drewN 1).trans HO2.out⟩

set_option maxHeartbeats 1600000 in
theorem turned_3 (lo hi qb bx : Nat) (pm pr : Addr) (a b c d n : Nat) (S : Nat → Bool) (who A B C : Int) (w : World) (hp : PairAt w lo hi qb bx pm pr a b c d n S) :
    Calls Tryd.prog 40 #[.pointer (some ⟨qb, 0, none⟩), opv who 3 A B C] w fun e w' => e = .returned (.bool true) ∧ (∃ S', PairAt w' lo hi qb bx pm pr a b c d n S') ∧ Only lo hi w w' := by
  have hc0 := hp.c0
  have hc1 := hp.c1
  have HP := Lib.hid hp; clear hp
  go_enter Tryd.func40, Tryd.ntmps40
  go_wp2_with fail
  obtain ⟨w0, hw0⟩ : ∃ w0, w.alloc (.cells #[.int .i64 who, .int .i64 3, .int .i64 A, .int .i64 B, .int .i64 C] 66) = w0 := ⟨_, rfl⟩
  rw [hw0]
  have hb2 : w0.cell? ⟨w.heap.size, 2, none⟩ = some (.int .i64 A) := by rw [← hw0]; exact cell_new _ _ _ 2
  have hb3 : w0.cell? ⟨w.heap.size, 3, none⟩ = some (.int .i64 B) := by rw [← hw0]; exact cell_new _ _ _ 3
  have hs : Still w w0 := by rw [← hw0]; exact (Only.refl _ _ w).alloc _
  have hob : w.heap.size < w0.heap.size := by rw [← hw0]; simp
  clear hw0
  have HS := Lib.hid (hs.any lo hi)
  have HP0 := Lib.hid (HP.out.kept hs (.inl HP.out.top))
  have hc0 := HP0.out.c0
  have hc1 := HP0.out.c1
  have HIob : Hid (hi ≤ w.heap.size) := HP.out.top
  clear hs
  generalize w.heap.size = ob at *
  have HOB := Lib.hid hob; clear hob
  have HM : Hid (∀ m, Calls Tryd.prog 19 #[.pointer (some pm), .int .i64 A, .int .i64 B] (w0.drewN m) fun e w' => e = .returned (.int .i64 (codeR n A B)) ∧ IsMap w' a b pm n (putR S n A B true) ∧ Only a b (w0.drewN m) w') := fun m => setRange_all a b n pm S _ A B (HP0.out.map.drewN m)
  go_region_held3 (fun w' => w'.cell? ⟨qb, 0, none⟩ = some (.pointer (some pm)) ∧ w'.cell? ⟨qb, 1, none⟩ = some (.pointer (some pr)) ∧ w'.cell? ⟨ob, 2, none⟩ = some (.int .i64 A) ∧ w'.cell? ⟨ob, 3, none⟩ = some (.int .i64 B)) (first | exact ⟨hc0, hc1, hb2, hb3⟩ | exact ⟨hd0, hd1, hd2, hd3⟩ | exact ⟨he0, he1, he2, he3⟩)
    (first
      | (go_at_call 19; refine (HM.out 1).mono ?_; rintro e w1 ⟨rfl, hm1, ho1⟩; obtain ⟨hd0, hd1, hr1⟩ := (HP0.out.drewN 1).half ho1; have HR1 := Lib.hid hr1; clear hr1; have hd2 := (half_cell ho1 (by have := HP0.out.bhi; have := HIob.out; omega) HOB.out 2).trans hb2; have hd3 := (half_cell ho1 (by have := HP0.out.bhi; have := HIob.out; omega) HOB.out 3).trans hb3; have HM1 := Lib.hid hm1; have HO1 := Lib.hid ho1; clear hm1 ho1)
      | (go_at_call 45; refine (putRange_all c d n pr S _ A B true HR1.out).mono ?_; rintro e w2 ⟨rfl, hm2, ho2⟩; obtain ⟨hp2, hop2⟩ := (HP0.out.drewN 1).full HO1.out HM1.out ho2 hm2; have HP2 := Lib.hid hp2; have HO2 := Lib.hid hop2; have he0 := hp2.c0; have he1 := hp2.c1; have he2 := (half_cell ho2 (by have := HP0.out.dhi; have := HIob.out; omega) (Nat.lt_of_lt_of_le HOB.out HO1.out.size) 2).trans hd2; have he3 := (half_cell ho2 (by have := HP0.out.dhi; have := HIob.out; omega) (Nat.lt_of_lt_of_le HOB.out HO1.out.size) 3).trans hd3; clear hp2 hop2 ho2 hm2))
  go_wp2
  go_ret
  exact ⟨rfl, ⟨_, HP2.out⟩, (HS.out.drewN 1).trans HO2.out⟩

set_option maxHeartbeats 1600000 in
theorem turned_4 (lo hi qb bx : Nat) (pm pr : Addr) (a b c d n : Nat) (S : Nat → Bool) (who A B C : Int) (w : World) (hp : PairAt w lo hi qb bx pm pr a b c d n S) :
    Calls Tryd.prog 40 #[.pointer (some ⟨qb, 0, none⟩), opv who 4 A B C] w fun e w' => e = .returned (.bool true) ∧ (∃ S', PairAt w' lo hi qb bx pm pr a b c d n S') ∧ Only lo hi w w' := by
  have hc0 := hp.c0
  have hc1 := hp.c1
  have HP := Lib.hid hp; clear hp
  go_enter Tryd.func40, Tryd.ntmps40
  go_wp2_with fail
  obtain ⟨w0, hw0⟩ : ∃ w0, w.alloc (.cells #[.int .i64 who, .int .i64 4, .int .i64 A, .int .i64 B, .int .i64 C] 66) = w0 := ⟨_, rfl⟩
  rw [hw0]
  have hb2 : w0.cell? ⟨w.heap.size, 2, none⟩ = some (.int .i64 A) := by rw [← hw0]; exact cell_new _ _ _ 2
  have hb3 : w0.cell? ⟨w.heap.size, 3, none⟩ = some (.int .i64 B) := by rw [← hw0]; exact cell_new _ _ _ 3
  have hs : Still w w0 := by rw [← hw0]; exact (Only.refl _ _ w).alloc _
  have hob : w.heap.size < w0.heap.size := by rw [← hw0]; simp
  clear hw0
  have HS := Lib.hid (hs.any lo hi)
  have HP0 := Lib.hid (HP.out.kept hs (.inl HP.out.top))
  have hc0 := HP0.out.c0
  have hc1 := HP0.out.c1
  have HIob : Hid (hi ≤ w.heap.size) := HP.out.top
  clear hs
  generalize w.heap.size = ob at *
  have HOB := Lib.hid hob; clear hob
  have HM : Hid (∀ m, Calls Tryd.prog 20 #[.pointer (some pm), .int .i64 A, .int .i64 B] (w0.drewN m) fun e w' => e = .returned (.int .i64 (codeR n A B)) ∧ IsMap w' a b pm n (putR S n A B false) ∧ Only a b (w0.drewN m) w') := fun m => clearRange_all a b n pm S _ A B (HP0.out.map.drewN m)
  go_region_held3 (fun w' => w'.cell? ⟨qb, 0, none⟩ = some (.pointer (some pm)) ∧ w'.cell? ⟨qb, 1, none⟩ = some (.pointer (some pr)) ∧ w'.cell? ⟨ob, 2, none⟩ = some (.int .i64 A) ∧ w'.cell? ⟨ob, 3, none⟩ = some (.int .i64 B)) (first | exact ⟨hc0, hc1, hb2, hb3⟩ | exact ⟨hd0, hd1, hd2, hd3⟩ | exact ⟨he0, he1, he2, he3⟩)
    (first
      | (go_at_call 20; refine (HM.out 1).mono ?_; rintro e w1 ⟨rfl, hm1, ho1⟩; obtain ⟨hd0, hd1, hr1⟩ := (HP0.out.drewN 1).half ho1; have HR1 := Lib.hid hr1; clear hr1; have hd2 := (half_cell ho1 (by have := HP0.out.bhi; have := HIob.out; omega) HOB.out 2).trans hb2; have hd3 := (half_cell ho1 (by have := HP0.out.bhi; have := HIob.out; omega) HOB.out 3).trans hb3; have HM1 := Lib.hid hm1; have HO1 := Lib.hid ho1; clear hm1 ho1)
      | (go_at_call 45; refine (putRange_all c d n pr S _ A B false HR1.out).mono ?_; rintro e w2 ⟨rfl, hm2, ho2⟩; obtain ⟨hp2, hop2⟩ := (HP0.out.drewN 1).full HO1.out HM1.out ho2 hm2; have HP2 := Lib.hid hp2; have HO2 := Lib.hid hop2; have he0 := hp2.c0; have he1 := hp2.c1; have he2 := (half_cell ho2 (by have := HP0.out.dhi; have := HIob.out; omega) (Nat.lt_of_lt_of_le HOB.out HO1.out.size) 2).trans hd2; have he3 := (half_cell ho2 (by have := HP0.out.dhi; have := HIob.out; omega) (Nat.lt_of_lt_of_le HOB.out HO1.out.size) 3).trans hd3; clear hp2 hop2 ho2 hm2))
  go_wp2
  go_ret
  exact ⟨rfl, ⟨_, HP2.out⟩, (HS.out.drewN 1).trans HO2.out⟩

set_option maxHeartbeats 1600000 in
theorem turned_else (lo hi qb bx : Nat) (pm pr : Addr) (a b c d n : Nat) (S : Nat → Bool) (who k A B C : Int) (w : World) (hp : PairAt w lo hi qb bx pm pr a b c d n S) (hk : k < 1 ∨ 4 < k) :
    Calls Tryd.prog 40 #[.pointer (some ⟨qb, 0, none⟩), opv who k A B C] w fun e w' => e = .returned (.bool true) ∧ (∃ S', PairAt w' lo hi qb bx pm pr a b c d n S') ∧ Only lo hi w w' := by
  have hc0 := hp.c0
  have hc1 := hp.c1
  have hql : qb < w.heap.size := by have := hp.qhi; have := hp.top; omega
  have k1 : (k == 1) = false := beq_eq_false_iff_ne.2 (by omega)
  have k2 : (k == 2) = false := beq_eq_false_iff_ne.2 (by omega)
  have k3 : (k == 3) = false := beq_eq_false_iff_ne.2 (by omega)
  have k4 : (k == 4) = false := beq_eq_false_iff_ne.2 (by omega)
  clear hk
  have HP := Lib.hid hp; clear hp
  go_enter Tryd.func40, Tryd.ntmps40
  go_wp2_with fail
  obtain ⟨w0, hw0⟩ : ∃ w0, w.alloc (.cells #[.int .i64 who, .int .i64 k, .int .i64 A, .int .i64 B, .int .i64 C] 66) = w0 := ⟨_, rfl⟩
  rw [hw0]
  have hs : Still w w0 := by rw [← hw0]; exact (Only.refl _ _ w).alloc _
  clear hw0
  have HS := Lib.hid (hs.any lo hi)
  have HP0 := Lib.hid (HP.out.kept hs (.inl HP.out.top))
  clear hs
  refine (reset_any a b n pm S _ HP0.out.map).mono ?_
  rintro e w1 ⟨rfl, hm1, ho1⟩
  obtain ⟨hd0, hd1, hr1⟩ := HP0.out.half ho1
  have HR1 := Lib.hid hr1; clear hr1
  have HM1 := Lib.hid hm1; clear hm1
  have HO1 := Lib.hid ho1; clear ho1
  clear hc0 hc1
  go_wp2_with fail
  refine (rreset_any c d n pr S _ HR1.out).mono ?_
  rintro e w2 ⟨rfl, hm2, ho2⟩
  obtain ⟨hp2, hop2⟩ := HP0.out.full HO1.out HM1.out ho2 hm2
  have HP2 := Lib.hid hp2; have HO2 := Lib.hid hop2
  clear hp2 hop2 hm2 ho2
  go_wp2
  go_ret
  exact ⟨rfl, ⟨_, HP2.out⟩, HS.out.trans HO2.out⟩

theorem turned_any (lo hi qb bx : Nat) (pm pr : Addr) (a b c d n : Nat) (S : Nat → Bool) (who k A B C : Int) (w : World) (hp : PairAt w lo hi qb bx pm pr a b c d n S) (hA : A ≤ 9223372036854775807) :
    Calls Tryd.prog 40 #[.pointer (some ⟨qb, 0, none⟩), opv who k A B C] w fun e w' => e = .returned (.bool true) ∧ (∃ S', PairAt w' lo hi qb bx pm pr a b c d n S') ∧ Only lo hi w w' := by
  by_cases h1 : k = 1
  · subst h1; exact turned_1 lo hi qb bx pm pr a b c d n S who A B C w hp hA
  · by_cases h2 : k = 2
    · subst h2; exact turned_2 lo hi qb bx pm pr a b c d n S who A B C w hp hA
    · by_cases h3 : k = 3
      · subst h3; exact turned_3 lo hi qb bx pm pr a b c d n S who A B C w hp
      · by_cases h4 : k = 4
        · subst h4; exact turned_4 lo hi qb bx pm pr a b c d n S who A B C w hp
        · exact turned_else lo hi qb bx pm pr a b c d n S who k A B C w hp (by omega)
end Go.Proofs.YtppeiljecgeifaaDoor
