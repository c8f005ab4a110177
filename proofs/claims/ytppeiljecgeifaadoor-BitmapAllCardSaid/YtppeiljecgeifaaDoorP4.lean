/-
  Counts over ranges that are put in or taken out. Plain; no program is in sight.
-/
import Derived.Test.YtppeiljecgeifaaDoorW4
namespace Go.Proofs.YtppeiljecgeifaaDoor
open Go

theorem count_range (S : Nat → Bool) (n a b : Nat) (h1 : a ≤ b) (h2 : b ≤ n) : Bm.count S n a b = Bm.cnt S a (b - a) := by
  unfold Bm.count
  have e1 := Bm.cnt_add (fun i : Nat => S i && (decide ((a : Int) ≤ (i : Int)) && decide ((i : Int) < (b : Int)))) 0 a (n - a)
  have e2 := Bm.cnt_add (fun i : Nat => S i && (decide ((a : Int) ≤ (i : Int)) && decide ((i : Int) < (b : Int)))) a (b - a) (n - b)
  rw [show a + (n - a) = n by omega] at e1
  rw [show b - a + (n - b) = n - a by omega, show a + (b - a) = b by omega] at e2
  rw [e1, Nat.zero_add, e2]
  have z1 : Bm.cnt (fun i : Nat => S i && (decide ((a : Int) ≤ (i : Int)) && decide ((i : Int) < (b : Int)))) 0 a = 0 := by
    apply Bm.cnt_zero
    intro i _ h
    rw [decide_eq_false (by omega : ¬ (a : Int) ≤ (i : Int))]; simp
  have z2 : Bm.cnt (fun i : Nat => S i && (decide ((a : Int) ≤ (i : Int)) && decide ((i : Int) < (b : Int)))) b (n - b) = 0 := by
    apply Bm.cnt_zero
    intro i h _
    rw [decide_eq_false (by omega : ¬ (i : Int) < (b : Int))]; simp
  have z3 : Bm.cnt (fun i : Nat => S i && (decide ((a : Int) ≤ (i : Int)) && decide ((i : Int) < (b : Int)))) a (b - a) = Bm.cnt S a (b - a) := by
    apply Bm.cnt_congr
    intro i h h'
    rw [decide_eq_true (by omega : (a : Int) ≤ (i : Int)), decide_eq_true (by omega : (i : Int) < (b : Int))]; simp
  rw [z1, z2, z3]; omega

theorem count_empty (S : Nat → Bool) (n : Nat) (a b : Int) (h : b ≤ a) : Bm.count S n a b = 0 := by
  apply Bm.cnt_zero
  intro i _ _
  by_cases h1 : a ≤ (i : Int)
  · rw [decide_eq_false (by omega : ¬ (i : Int) < b)]; simp
  · rw [decide_eq_false h1]; simp

theorem rangeS_in {S : Nat → Bool} {f t : Int} {b : Bool} {i : Nat} (h1 : f ≤ (i : Int)) (h2 : (i : Int) < t) : rangeS S f t b i = b := by
  unfold rangeS; rw [if_pos ⟨h1, h2⟩]
theorem rangeS_out {S : Nat → Bool} {f t : Int} {b : Bool} {i : Nat} (h : (i : Int) < f ∨ t ≤ (i : Int)) : rangeS S f t b i = S i := by
  unfold rangeS; rw [if_neg (by omega)]
theorem rangeS_twice (S : Nat → Bool) (f t : Int) (b c : Bool) : rangeS (rangeS S f t b) f t c = rangeS S f t c := by
  funext i
  unfold rangeS
  split <;> rfl

theorem parts_sum (S : Nat → Bool) (n a b : Nat) (h1 : a ≤ b) (h2 : b ≤ n) : Bm.cnt S 0 n = Bm.count S n 0 a + Bm.count S n a b + Bm.count S n b n := by
  have e0 := count_range S n 0 a (by omega) (by omega)
  have e1 := count_range S n a b h1 h2
  have e2 := count_range S n b n h2 (Nat.le_refl _)
  rw [show ((0 : Nat) : Int) = 0 from rfl] at e0
  rw [e0, e1, e2]
  have s1 := Bm.cnt_add S 0 a (n - a)
  have s2 := Bm.cnt_add S a (b - a) (n - b)
  rw [show a + (n - a) = n by omega] at s1
  rw [show b - a + (n - b) = n - a by omega, show a + (b - a) = b by omega] at s2
  rw [Nat.zero_add] at s1
  rw [Nat.sub_zero]
  omega
theorem count_set (S : Nat → Bool) (n a b : Nat) (h1 : a ≤ b) (h2 : b ≤ n) : Bm.count (rangeS S a b true) n a b = b - a := by
  rw [count_range _ n a b h1 h2]
  exact Bm.cnt_full fun i h h' => rangeS_in (by omega) (by omega)
theorem count_cut (S : Nat → Bool) (n a b : Nat) (h1 : a ≤ b) (h2 : b ≤ n) : Bm.count (rangeS S a b false) n a b = 0 := by
  rw [count_range _ n a b h1 h2]
  exact Bm.cnt_zero fun i h h' => rangeS_in (by omega) (by omega)
theorem count_low (S : Nat → Bool) (n a b : Nat) (c : Bool) (h1 : a ≤ b) (h2 : b ≤ n) : Bm.count (rangeS S a b c) n 0 a = Bm.count S n 0 a := by
  have e0 := count_range (rangeS S a b c) n 0 a (by omega) (by omega)
  have e1 := count_range S n 0 a (by omega) (by omega)
  rw [show ((0 : Nat) : Int) = 0 from rfl] at e0 e1
  rw [e0, e1]
  exact Bm.cnt_congr fun i h h' => rangeS_out (by omega)
theorem count_high (S : Nat → Bool) (n a b : Nat) (c : Bool) (h2 : b ≤ n) : Bm.count (rangeS S a b c) n b n = Bm.count S n b n := by
  rw [count_range _ n b n h2 (Nat.le_refl _), count_range _ n b n h2 (Nat.le_refl _)]
  exact Bm.cnt_congr fun i h h' => rangeS_out (by omega)
theorem next_cut (S : Nat → Bool) (n a b : Nat) (h1 : a ≤ b) : Bm.next (rangeS S a b false) n a = Bm.next (rangeS S a b false) n b := by
  unfold Bm.next
  congr 1
  funext i
  by_cases h : (a : Int) ≤ (i : Int) ∧ (i : Int) < (b : Int)
  · rw [rangeS_in h.1 h.2]; rfl
  · have : decide ((a : Int) ≤ (i : Int)) = decide ((b : Int) ≤ (i : Int)) := by
      by_cases h3 : (b : Int) ≤ (i : Int)
      · rw [decide_eq_true h3, decide_eq_true (by omega)]
      · rw [decide_eq_false h3, decide_eq_false (by omega)]
    rw [this]
theorem count_le (S : Nat → Bool) (n : Nat) (a b : Int) : Bm.count S n a b ≤ n := Bm.cnt_le _ _ _
end Go.Proofs.YtppeiljecgeifaaDoor
