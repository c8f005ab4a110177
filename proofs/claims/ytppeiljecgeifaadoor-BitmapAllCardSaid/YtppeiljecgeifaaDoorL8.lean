/-
  A pair of a map and the reference's map; the walks of hearthlaw3.made, (*pair).same.
-/
import Derived.Test.YtppeiljecgeifaaDoorW8
import Derived.Deep.QuietTactic
import Derived.BigQuiet
namespace Go.Proofs.YtppeiljecgeifaaDoor
open Go Go.RowKit

/-- The iterator that All hands back. -/
abbrev itv (bx : Nat) : Value := .func (.func 39) #[] #[.pointer (some ⟨bx, 0, none⟩)]

structure PairAt (w : World) (lo hi qb bx : Nat) (pm pr : Addr) (a b c d n : Nat) (S : Nat → Bool) : Prop where
  top : hi ≤ w.heap.size
  qlo : lo ≤ qb
  qhi : qb < hi
  xlo : lo ≤ bx
  xhi : bx < hi
  qhead : w.heap[qb]? = some (.cells #[.pointer (some pm), .pointer (some pr), itv bx] 52 (0, 0))
  xhead : w.heap[bx]? = some (.cells #[.pointer (some pm)] 29 (0, 0))
  map : IsMap w a b pm n S
  ref : IsRef w c d pr n S
  alo : lo ≤ a
  bhi : b ≤ hi
  clo : lo ≤ c
  dhi : d ≤ hi
  mr : b ≤ c ∨ d ≤ a
  qm : qb < a ∨ b ≤ qb
  qr : qb < c ∨ d ≤ qb
  xm : bx < a ∨ b ≤ bx
  xr : bx < c ∨ d ≤ bx
/-- A pair in which both hold just the numbers of S; all its blocks lie from lo up to, not with, hi. -/
def IsPair (w : World) (lo hi : Nat) (q : Addr) (n : Nat) (S : Nat → Bool) : Prop := ∃ qb bx pm pr a b c d, q = ⟨qb, 0, none⟩ ∧ PairAt w lo hi qb bx pm pr a b c d n S

theorem PairAt.kept {w w' : World} {lo hi qb bx : Nat} {pm pr : Addr} {a b c d n : Nat} {S : Nat → Bool} (h : PairAt w lo hi qb bx pm pr a b c d n S) {lo' hi' : Nat} (ho : Only lo' hi' w w') (hd : hi ≤ lo' ∨ hi' ≤ lo) : PairAt w' lo hi qb bx pm pr a b c d n S := by
  have h1 := h.top; have h2 := h.qlo; have h3 := h.qhi; have h4 := h.xlo; have h5 := h.xhi; have h6 := h.alo; have h7 := h.bhi; have h8 := h.clo; have h9 := h.dhi
  exact ⟨Nat.le_trans h.top ho.size, h.qlo, h.qhi, h.xlo, h.xhi, by rw [ho.block qb (by omega) (by omega)]; exact h.qhead, by rw [ho.block bx (by omega) (by omega)]; exact h.xhead,
    h.map.kept ho (by omega), h.ref.kept ho (by omega), h.alo, h.bhi, h.clo, h.dhi, h.mr, h.qm, h.qr, h.xm, h.xr⟩
theorem PairAt.drewN {w : World} {lo hi qb bx : Nat} {pm pr : Addr} {a b c d n : Nat} {S : Nat → Bool} (h : PairAt w lo hi qb bx pm pr a b c d n S) (m : Nat) : PairAt (w.drewN m) lo hi qb bx pm pr a b c d n S :=
  ⟨h.top, h.qlo, h.qhi, h.xlo, h.xhi, h.qhead, h.xhead, h.map.drewN m, h.ref.drewN m, h.alo, h.bhi, h.clo, h.dhi, h.mr, h.qm, h.qr, h.xm, h.xr⟩
theorem PairAt.c0 {w : World} {lo hi qb bx : Nat} {pm pr : Addr} {a b c d n : Nat} {S : Nat → Bool} (h : PairAt w lo hi qb bx pm pr a b c d n S) : w.cell? ⟨qb, 0, none⟩ = some (.pointer (some pm)) := by simp [World.cell?, h.qhead]
theorem PairAt.c1 {w : World} {lo hi qb bx : Nat} {pm pr : Addr} {a b c d n : Nat} {S : Nat → Bool} (h : PairAt w lo hi qb bx pm pr a b c d n S) : w.cell? ⟨qb, 1, none⟩ = some (.pointer (some pr)) := by simp [World.cell?, h.qhead]
theorem PairAt.c2 {w : World} {lo hi qb bx : Nat} {pm pr : Addr} {a b c d n : Nat} {S : Nat → Bool} (h : PairAt w lo hi qb bx pm pr a b c d n S) : w.cell? ⟨qb, 2, none⟩ = some (itv bx) := by simp [World.cell?, h.qhead]
theorem PairAt.cx {w : World} {lo hi qb bx : Nat} {pm pr : Addr} {a b c d n : Nat} {S : Nat → Bool} (h : PairAt w lo hi qb bx pm pr a b c d n S) : w.cell? ⟨bx, 0, none⟩ = some (.pointer (some pm)) := by simp [World.cell?, h.xhead]
theorem IsPair.kept {w w' : World} {lo hi n : Nat} {q : Addr} {S : Nat → Bool} (h : IsPair w lo hi q n S) {lo' hi' : Nat} (ho : Only lo' hi' w w') (hd : hi ≤ lo' ∨ hi' ≤ lo) : IsPair w' lo hi q n S := by
  obtain ⟨qb, bx, pm, pr, a, b, c, d, hq, h⟩ := h
  exact ⟨qb, bx, pm, pr, a, b, c, d, hq, h.kept ho hd⟩
theorem IsPair.top {w : World} {lo hi n : Nat} {q : Addr} {S : Nat → Bool} (h : IsPair w lo hi q n S) : hi ≤ w.heap.size := by
  obtain ⟨qb, bx, pm, pr, a, b, c, d, hq, h⟩ := h
  exact h.top
theorem IsPair.still {w w' : World} {lo hi n : Nat} {q : Addr} {S : Nat → Bool} (h : IsPair w lo hi q n S) (ho : Still w w') : IsPair w' lo hi q n S := h.kept ho (.inl h.top)

theorem new_next_neg (n : Nat) : Bm.next (fun _ => false) n (-1) = -1 := Bm.next_none (fun _ _ _ => rfl)

set_option maxHeartbeats 800000 in
theorem made_yes (n : Nat) (w : World) (hn : n ≤ 262144) (hT : Tab w) (h0 : 0 < w.heap.size) :
    Calls Tryd.prog 14 #[.int .i64 (n : Int)] w fun e w' => ∃ q, e = .returned (.tuple #[.pointer (some q), .bool true]) ∧ IsPair w' w.heap.size w'.heap.size q n (fun _ => false) ∧ Still w w' := by
  have HT := Lib.hid hT; clear hT
  go_enter Tryd.func14, Tryd.ntmps14
  go_wp2_with fail
  refine (new_yes n _ hn).mono ?_
  rintro e w1 ⟨pm, rfl, hm, hs⟩
  have HM := Lib.hid hm; clear hm
  have HS := Lib.hid hs; clear hs
  go_wp2_with fail
  refine (rnew_yes n _ hn).mono ?_
  rintro e w2 ⟨pr, rfl, hr2, hs2⟩
  have HM2 := Lib.hid (HM.out.still hs2); clear HM
  have HR2 := Lib.hid hr2; clear hr2
  have hs2' : Still w w2 := HS.out.trans' hs2 (.inr HS.out.size) (.inr HS.out.size)
  have HS2 := Lib.hid hs2'
  have HZ : Hid (w.heap.size ≤ w1.heap.size ∧ w1.heap.size ≤ w2.heap.size) := ⟨HS.out.size, hs2.size⟩
  clear hs2 hs2' HS
  go_wp2_with fail
  refine (all_any pm _).mono ?_
  rintro e w3 ⟨rfl, hw3⟩
  have HW3 := Lib.hid hw3; clear hw3
  go_wp2_with fail
  obtain ⟨w4, hw4⟩ : ∃ w4, w3.alloc (.cells #[.pointer (some pm), .pointer (some pr), itv w2.heap.size] 52) = w4 := ⟨_, rfl⟩
  have HP4 : Hid (PairAt w4 w.heap.size w4.heap.size w3.heap.size w2.heap.size pm pr w.heap.size w1.heap.size w1.heap.size w2.heap.size n (fun _ => false)) := by
    have z3 : w3.heap.size = w2.heap.size + 1 := by rw [HW3.out]; simp
    have z4 : w4.heap.size = w3.heap.size + 1 := by rw [← hw4]; simp
    have hz := HZ.out
    have s23 : Still w2 w3 := by rw [HW3.out]; exact (Only.refl _ _ w2).alloc _
    have s34 : Still w3 w4 := by rw [← hw4]; exact (Only.refl _ _ w3).alloc _
    have s24 : Still w2 w4 := s23.trans' s34 (.inr s23.size) (.inr s23.size)
    refine ⟨Nat.le_refl _, by omega, by omega, by omega, by omega, ?_, ?_, HM2.out.still s24, HR2.out.still s24, by omega, by omega, by omega, by omega, by omega, by omega, by omega, by omega, by omega⟩
    · rw [← hw4]; exact heap_alloc_new w3 _
    · rw [← hw4, Below.heap_alloc _ _ _ (by omega), HW3.out]; exact heap_alloc_new w2 _
  have HS4 : Hid (Still w w4) := by rw [← hw4, HW3.out]; exact (HS2.out.alloc _).alloc _
  rw [hw4]
  generalize hz3 : w3.heap.size = qb at *
  clear hw4 HW3 hz3
  go_wp2_with fail
  refine (len_any _ _ n pm _ _ HP4.out.map).mono ?_
  rintro e w5 ⟨rfl, rfl⟩
  go_wp2_with fail
  refine (count_any _ _ n pm _ _ HP4.out.map).mono ?_
  rintro e w5 ⟨rfl, m5, hw5⟩
  rw [Bm.cnt_zero (fun _ _ _ => rfl)]
  have HP5 : Hid (PairAt w5 w.heap.size w5.heap.size qb w2.heap.size pm pr w.heap.size w1.heap.size w1.heap.size w2.heap.size n (fun _ => false)) := by rw [hw5]; exact HP4.out.drewN m5
  have HS5 : Hid (Still w w5) := by rw [hw5]; exact HS4.out.drewN m5
  clear hw5 HP4 HS4
  go_wp2_with fail
  refine (next_any _ _ n pm _ (-1) _ HP5.out.map (HT.out.only HS5.out h0) (by omega)).mono ?_
  rintro e w6 ⟨rfl, m6, hw6⟩
  rw [new_next_neg]
  have HP6 : Hid (PairAt w6 w.heap.size w6.heap.size qb w2.heap.size pm pr w.heap.size w1.heap.size w1.heap.size w2.heap.size n (fun _ => false)) := by rw [hw6]; exact HP5.out.drewN m6
  have HS6 : Hid (Still w w6) := by rw [hw6]; exact HS5.out.drewN m6
  clear hw6 HP5 HS5
  go_wp2
  go_ret2
  exact ⟨_, rfl, ⟨qb, _, pm, pr, _, _, _, _, rfl, HP6.out⟩, HS6.out⟩
set_option maxHeartbeats 400000 in
theorem made_no (n : Int) (w : World) (hn : n < 0 ∨ 262144 < n) :
    Calls Tryd.prog 14 #[.int .i64 n] w fun e w' => e = .returned (.tuple #[.pointer none, .bool true]) ∧ w = w' := by
  have HN := Lib.hid hn; clear hn
  go_enter Tryd.func14, Tryd.ntmps14
  go_wp2_with fail
  refine (new_no n _ HN.out).mono ?_
  rintro e w1 ⟨rfl, rfl⟩
  go_wp2_with fail
  refine (rnew_no n _ HN.out).mono ?_
  rintro e w1 ⟨rfl, rfl⟩
  go_wp2
  go_ret2
  exact ⟨rfl, rfl⟩
end Go.Proofs.YtppeiljecgeifaaDoor
