/-
  The walks of (*hearthlaw3.pair).gone, looked.
-/
import Derived.Test.YtppeiljecgeifaaDoorL11
namespace Go.Proofs.YtppeiljecgeifaaDoor
open Go Go.RowKit

theorem heap_alloc_lt {w : World} {b : Nat} {o u : Obj} (h : w.heap[b]? = some o) : (w.alloc u).heap[b]? = some o := by
  have := (Array.getElem?_eq_some_iff.1 h).1
  show (w.heap.push u)[b]? = _
  rw [Array.getElem?_push_lt this, ← h, Array.getElem?_eq_getElem this]
theorem heap_alloc_eq (w : World) (u : Obj) : (w.alloc u).heap[w.heap.size]? = some u := by
  show (w.heap.push u)[w.heap.size]? = _
  exact Array.getElem?_push_size
theorem heap_alloc_to {w w' : World} {b : Nat} {o u : Obj} (hw : w.alloc u = w') (h : w.heap[b]? = some o) : w'.heap[b]? = some o := hw ▸ heap_alloc_lt h
theorem boxes_new (w : World) (x stop at' : Int) (q : Addr) (who k A B C : Int) :
    Boxes (((((((w.alloc (.cells #[.pointer (some q)] 23)).alloc (.cells #[.int .i64 stop] 3)).alloc (.cells #[.int .i64 at'] 3)).alloc (.cells #[.int .i64 who, .int .i64 k, .int .i64 A, .int .i64 B, .int .i64 C] 66)).alloc (.cells #[.int .i64 x] 3)).alloc (.cells #[.int .i64 0] 3)).alloc (.cells #[.bool true] 4)) w.heap.size true x stop 0 at' q who k A B C := by
  have e1 := heap_alloc_eq w (.cells #[.pointer (some q)] 23)
  generalize hw1 : w.alloc (.cells #[.pointer (some q)] 23) = w1 at *
  have z1 : w1.heap.size = w.heap.size + 1 := by rw [← hw1]; simp
  have e2 := heap_alloc_eq w1 (.cells #[.int .i64 stop] 3)
  generalize hw2 : w1.alloc (.cells #[.int .i64 stop] 3) = w2 at *
  have z2 : w2.heap.size = w.heap.size + 2 := by rw [← hw2]; simp [z1]
  have e3 := heap_alloc_eq w2 (.cells #[.int .i64 at'] 3)
  generalize hw3 : w2.alloc (.cells #[.int .i64 at'] 3) = w3 at *
  have z3 : w3.heap.size = w.heap.size + 3 := by rw [← hw3]; simp [z2]
  have e4 := heap_alloc_eq w3 (.cells #[.int .i64 who, .int .i64 k, .int .i64 A, .int .i64 B, .int .i64 C] 66)
  generalize hw4 : w3.alloc (.cells #[.int .i64 who, .int .i64 k, .int .i64 A, .int .i64 B, .int .i64 C] 66) = w4 at *
  have z4 : w4.heap.size = w.heap.size + 4 := by rw [← hw4]; simp [z3]
  have e5 := heap_alloc_eq w4 (.cells #[.int .i64 x] 3)
  generalize hw5 : w4.alloc (.cells #[.int .i64 x] 3) = w5 at *
  have z5 : w5.heap.size = w.heap.size + 5 := by rw [← hw5]; simp [z4]
  have e6 := heap_alloc_eq w5 (.cells #[.int .i64 0] 3)
  generalize hw6 : w5.alloc (.cells #[.int .i64 0] 3) = w6 at *
  have z6 : w6.heap.size = w.heap.size + 6 := by rw [← hw6]; simp [z5]
  have e7 := heap_alloc_eq w6 (.cells #[.bool true] 4)
  rw [z1] at e2; rw [z2] at e3; rw [z3] at e4; rw [z4] at e5; rw [z5] at e6; rw [z6] at e7
  have f1 := heap_alloc_to hw2 e1
  have f1 := heap_alloc_to hw3 f1
  have f1 := heap_alloc_to hw4 f1
  have f1 := heap_alloc_to hw5 f1
  have f1 := heap_alloc_to hw6 f1
  have f2 := heap_alloc_to hw3 e2
  have f2 := heap_alloc_to hw4 f2
  have f2 := heap_alloc_to hw5 f2
  have f2 := heap_alloc_to hw6 f2
  have f3 := heap_alloc_to hw4 e3
  have f3 := heap_alloc_to hw5 f3
  have f3 := heap_alloc_to hw6 f3
  have f4 := heap_alloc_to hw5 e4
  have f4 := heap_alloc_to hw6 f4
  have f5 := heap_alloc_to hw6 e5
  exact ⟨heap_alloc_lt f1, heap_alloc_lt f2, heap_alloc_lt f3, heap_alloc_lt f4, heap_alloc_lt f5, heap_alloc_lt e6, e7⟩

set_option maxHeartbeats 1600000 in
theorem gone_any (lo hi qb bx by' : Nat) (pm pr : Addr) (a b c d n : Nat) (S : Nat → Bool) (stop at' who k A B C : Int) (w : World) (hp : PairAt w lo hi qb bx pm pr a b c d n S)
    (hlo : 0 < lo) (hT : Tab w) (hA : A ≤ 9223372036854775807) (hst : stop ≠ 0)
    (hby : by' = bx ∨ hi ≤ by' ∧ by' < w.heap.size ∧ w.cell? ⟨by', 0, none⟩ = some (.pointer (some pm))) :
    Calls Tryd.prog 51 #[.pointer (some ⟨qb, 0, none⟩), itv by', .int .i64 stop, .int .i64 at', opv who k A B C] w
      fun e w' => e = .returned (.bool true) ∧ (∃ S', PairAt w' lo hi qb bx pm pr a b c d n S') ∧ Only lo hi w w' := by
  have hc1 := hp.c1
  have HT := Lib.hid hT; clear hT
  have HBY := Lib.hid hby; clear hby
  have hnf : ∀ w, (binOp BinOp.eql 36 (itv by') Value.nilFunc).run Tryd.prog w = .ok (.bool false) w := fun _ => by kernel_rfl
  have hq1 : (((((w.alloc (.cells #[.pointer (some ⟨qb, 0, none⟩)] 23)).alloc (.cells #[.int .i64 stop] 3)).alloc (.cells #[.int .i64 at'] 3)).alloc (.cells #[.int .i64 who, .int .i64 k, .int .i64 A, .int .i64 B, .int .i64 C] 66))).cell? ⟨qb, 1, none⟩ = some (.pointer (some pr)) := by
    have h1 := hp.top; have h2 := hp.qhi
    exact ((((((Only.refl 0 0 w).alloc _).alloc _).alloc _).alloc _).cell (p := ⟨qb, 1, none⟩) (by show qb < _; omega) (.inr (Nat.zero_le _))).trans hp.c1
  have HP4 : Hid (PairAt (((((w.alloc (.cells #[.pointer (some ⟨qb, 0, none⟩)] 23)).alloc (.cells #[.int .i64 stop] 3)).alloc (.cells #[.int .i64 at'] 3)).alloc (.cells #[.int .i64 who, .int .i64 k, .int .i64 A, .int .i64 B, .int .i64 C] 66))) lo hi qb bx pm pr a b c d n S) :=
    hp.kept ((((((Only.refl 0 0 w).alloc _).alloc _).alloc _).alloc _)) (.inr (by omega))
  have HP := Lib.hid hp; clear hp
  go_enter Tryd.func51, Tryd.ntmps51
  go_wp2_with fail
  refine (rnext_any c d n pr S 0 _ HP4.out.ref).mono ?_
  rintro e w5 ⟨rfl, rfl⟩
  generalize hx : Bm.next S n 0 = x at *
  have HX := Lib.hid hx; clear hx
  go_wp2_with fail
  refine (gone_iter lo hi qb bx by' pm pr a b c d n w.heap.size S stop at' who k A B C _ w (HP4.out.kept ((((Only.refl 0 0 _).alloc _).alloc _).alloc _) (.inr (by omega)))
    (by rw [HX.out]; exact boxes_new w x stop at' ⟨qb, 0, none⟩ who k A B C) (((((((((Only.refl lo hi w).alloc _).alloc _).alloc _).alloc _).alloc _).alloc _).alloc _)) (Nat.le_refl _) HP.out.top hlo HT.out hA hst HBY.out).mono ?_
  rintro e w6 ⟨rfl, S', want, told, hp', hb', ho', hend⟩
  have hcg := hb'.cg; have hcw := hb'.cw; have hcs := hb'.cs; have hct := hb'.ct
  have HP' := Lib.hid hp'; have HO' := Lib.hid ho'
  clear hp' hb' ho'
  by_cases hw : want < 0
  · have hd1 : decide (want < 0) = true := decide_eq_true hw
    clear hend
    go_wp2
    go_ret
    exact ⟨rfl, ⟨_, HP'.out⟩, HO'.out⟩
  · have hd1 : decide (want < 0) = false := decide_eq_false hw
    have hh : 0 ≤ stop ∧ told = stop := by rcases hend with h | h; exact absurd h hw; exact h
    obtain ⟨hs0, rfl⟩ := hh
    have hd2 : decide (0 ≤ told) = true := decide_eq_true hs0
    clear hend
    go_wp2
    go_ret
    exact ⟨rfl, ⟨_, HP'.out⟩, HO'.out⟩
end Go.Proofs.YtppeiljecgeifaaDoor
