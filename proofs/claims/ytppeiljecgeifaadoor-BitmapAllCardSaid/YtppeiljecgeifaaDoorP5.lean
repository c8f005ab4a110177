/-
  The numbers of a set below a bound, in order. Plain; no program is in sight.
-/
import Derived.Test.YtppeiljecgeifaaDoorP4
namespace Go.Proofs.YtppeiljecgeifaaDoor
open Go

/-- The numbers below a that are in, rising. -/
def pre (S : Nat → Bool) (a : Nat) : List Nat := (List.range a).filter S

theorem pre_zero (S : Nat → Bool) : pre S 0 = [] := rfl
theorem pre_succ (S : Nat → Bool) (a : Nat) : pre S (a + 1) = if S a then pre S a ++ [a] else pre S a := by
  unfold pre
  rw [List.range_succ, List.filter_append]
  cases h : S a <;> simp [h]
theorem pre_length (S : Nat → Bool) (a : Nat) : (pre S a).length = Bm.cnt S 0 a := by
  induction a with
  | zero => rfl
  | succ a ih =>
    rw [pre_succ]
    unfold Bm.cnt
    rw [Nat.zero_add, ← ih]
    cases S a <;> simp
theorem pre_le (S : Nat → Bool) (a : Nat) : (pre S a).length ≤ a := by rw [pre_length]; exact Bm.cnt_le _ _ _
theorem pre_mem {S : Nat → Bool} {a x : Nat} (h : x ∈ pre S a) : x < a ∧ S x = true := by
  unfold pre at h
  rw [List.mem_filter, List.mem_range] at h
  exact h
/-- Nothing is in between. -/
theorem pre_gap (S : Nat → Bool) (a d : Nat) (h : ∀ j, a ≤ j → j < a + d → S j = false) : pre S (a + d) = pre S a := by
  induction d with
  | zero => rfl
  | succ d ih =>
    rw [← Nat.add_assoc, pre_succ, h (a + d) (by omega) (by omega)]
    exact ih (fun j h1 h2 => h j h1 (by omega))
theorem pre_next {S : Nat → Bool} {a i : Nat} (h1 : a ≤ i) (hi : S i = true) (hn : ∀ j, a ≤ j → j < i → S j = false) : pre S (i + 1) = pre S a ++ [i] := by
  rw [pre_succ, hi]
  obtain ⟨d, rfl⟩ : ∃ d, i = a + d := ⟨i - a, by omega⟩
  rw [pre_gap S a d hn]
  rfl
theorem pre_end {S : Nat → Bool} {a n : Nat} (h1 : a ≤ n) (hn : ∀ j, a ≤ j → j < n → S j = false) : pre S n = pre S a := by
  obtain ⟨d, rfl⟩ : ∃ d, n = a + d := ⟨n - a, by omega⟩
  exact pre_gap S a d hn
theorem pre_prefix (S : Nat → Bool) (a d : Nat) : ∃ r, pre S (a + d) = pre S a ++ r := by
  induction d with
  | zero => exact ⟨[], by simp⟩
  | succ d ih =>
    obtain ⟨r, hr⟩ := ih
    rw [← Nat.add_assoc, pre_succ]
    split
    · exact ⟨r ++ [a + d], by rw [hr, List.append_assoc]⟩
    · exact ⟨r, hr⟩
/-- The number that comes next stands at the place that is reached. -/
theorem pre_at {S : Nat → Bool} {a i n : Nat} (h1 : a ≤ i) (h2 : i < n) (hi : S i = true) (hn : ∀ j, a ≤ j → j < i → S j = false) : (pre S n)[(pre S a).length]? = some i := by
  obtain ⟨d, rfl⟩ : ∃ d, n = i + 1 + d := ⟨n - (i + 1), by omega⟩
  obtain ⟨r, hr⟩ := pre_prefix S (i + 1) d
  rw [hr, pre_next h1 hi hn, List.append_assoc, List.getElem?_append_right (Nat.le_refl _), Nat.sub_self]
  rfl
theorem pre_last {S : Nat → Bool} {a : Nat} (h : 0 < (pre S a).length) : (pre S a).getD ((pre S a).length - 1) 0 < a := by
  rw [List.getD_eq_getElem?_getD, List.getElem?_eq_getElem (by omega)]
  exact (pre_mem (List.getElem_mem _)).1
end Go.Proofs.YtppeiljecgeifaaDoor
