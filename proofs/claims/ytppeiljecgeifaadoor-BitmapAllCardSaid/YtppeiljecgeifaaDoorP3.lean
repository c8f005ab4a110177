/-
  Looking for the least number that is in; counting those in a range; rows of words as sets. Plain; no program is in sight.
-/
import Derived.Test.YtppeiljecgeifaaDoorP2
namespace Go.Proofs.YtppeiljecgeifaaDoor.Bm

/-- The first of a, .., a + d - 1 that is in; -1: none. -/
def first (S : Nat → Bool) (a : Nat) : Nat → Int
  | 0 => -1
  | d + 1 => if S a then (a : Int) else first S (a + 1) d

theorem first_eq {S : Nat → Bool} {a d i : Nat} (h1 : a ≤ i) (h2 : i < a + d) (hi : S i = true) (hn : ∀ j, a ≤ j → j < i → S j = false) : first S a d = (i : Int) := by
  induction d generalizing a with
  | zero => omega
  | succ d ih =>
    unfold first
    by_cases e : a = i
    · subst e; rw [if_pos hi]
    · have : S a = false := hn a (Nat.le_refl _) (by omega)
      rw [this]
      exact ih (by omega) (by omega) (fun j hj1 hj2 => hn j (by omega) hj2)
theorem first_none {S : Nat → Bool} {a d : Nat} (hn : ∀ j, a ≤ j → j < a + d → S j = false) : first S a d = -1 := by
  induction d generalizing a with
  | zero => rfl
  | succ d ih =>
    unfold first
    have : S a = false := hn a (Nat.le_refl _) (by omega)
    rw [this]
    exact ih (fun j hj1 hj2 => hn j (by omega) (by omega))
theorem first_spec (S : Nat → Bool) (a d : Nat) : (first S a d = -1 ∧ ∀ j, a ≤ j → j < a + d → S j = false) ∨
    ∃ i : Nat, first S a d = (i : Int) ∧ a ≤ i ∧ i < a + d ∧ S i = true ∧ ∀ j, a ≤ j → j < i → S j = false := by
  induction d generalizing a with
  | zero => exact .inl ⟨rfl, fun j _ _ => by omega⟩
  | succ d ih =>
    unfold first
    cases ha : S a with
    | true => exact .inr ⟨a, by simp, Nat.le_refl _, by omega, ha, fun j _ _ => by omega⟩
    | false =>
      rcases ih (a + 1) with ⟨h1, h2⟩ | ⟨i, h1, h2, h3, h4, h5⟩
      · refine .inl ⟨by simpa using h1, fun j hj1 hj2 => ?_⟩
        by_cases e : j = a
        · subst e; exact ha
        · exact h2 j (by omega) (by omega)
      · refine .inr ⟨i, by simpa using h1, by omega, by omega, h4, fun j hj1 hj2 => ?_⟩
        by_cases e : j = a
        · subst e; exact ha
        · exact h5 j (by omega) hj2

/-- The least number that is in, from a number on. -/
def next (S : Nat → Bool) (n : Nat) (from' : Int) : Int := first (fun i => S i && decide (from' ≤ (i : Int))) 0 n
/-- How many are in, in a range. -/
def count (S : Nat → Bool) (n : Nat) (f t : Int) : Nat := cnt (fun i => S i && (decide (f ≤ (i : Int)) && decide ((i : Int) < t))) 0 n

theorem next_eq {S : Nat → Bool} {n i : Nat} {f : Int} (h1 : f ≤ (i : Int)) (h2 : i < n) (hi : S i = true) (hn : ∀ j : Nat, f ≤ (j : Int) → j < i → S j = false) : next S n f = (i : Int) := by
  refine first_eq (Nat.zero_le _) (by omega) (by simp [hi, h1]) (fun j _ hj => ?_)
  by_cases e : f ≤ (j : Int)
  · rw [hn j e hj]; rfl
  · simp [e]
theorem next_none {S : Nat → Bool} {n : Nat} {f : Int} (hn : ∀ j : Nat, f ≤ (j : Int) → j < n → S j = false) : next S n f = -1 := by
  refine first_none (fun j _ hj => ?_)
  by_cases e : f ≤ (j : Int)
  · rw [hn j e (by omega)]; rfl
  · simp [e]
theorem next_spec (S : Nat → Bool) (n : Nat) (f : Int) : (next S n f = -1 ∧ ∀ j : Nat, f ≤ (j : Int) → j < n → S j = false) ∨
    ∃ i : Nat, next S n f = (i : Int) ∧ f ≤ (i : Int) ∧ i < n ∧ S i = true ∧ ∀ j : Nat, f ≤ (j : Int) → j < i → S j = false := by
  rcases first_spec (fun i => S i && decide (f ≤ (i : Int))) 0 n with ⟨h1, h2⟩ | ⟨i, h1, _, h3, h4, h5⟩
  · refine .inl ⟨h1, fun j hj hj2 => ?_⟩
    have := h2 j (Nat.zero_le _) (by omega)
    simpa [hj] using this
  · simp only [Bool.and_eq_true, decide_eq_true_eq] at h4
    refine .inr ⟨i, h1, h4.2, by omega, h4.1, fun j hj hj2 => ?_⟩
    have := h5 j (Nat.zero_le _) hj2
    simpa [hj] using this

theorem next_clip (S : Nat → Bool) (n : Nat) (f : Int) : next S n (max f 0) = next S n f := by
  unfold next
  congr 1
  funext i
  have : decide (max f 0 ≤ (i : Int)) = decide (f ≤ (i : Int)) := by
    by_cases h : f ≤ (i : Int)
    · rw [decide_eq_true h, decide_eq_true (by omega)]
    · rw [decide_eq_false h, decide_eq_false (by omega)]
  rw [this]
theorem count_all (S : Nat → Bool) (n : Nat) : count S n 0 n = cnt S 0 n := by
  unfold count
  apply cnt_congr
  intro i _ h2
  have a : decide ((0 : Int) ≤ (i : Int)) = true := decide_eq_true (by omega)
  have b : decide ((i : Int) < (n : Int)) = true := decide_eq_true (by omega)
  rw [a, b]; simp
theorem count_clip (S : Nat → Bool) (n : Nat) (f t : Int) : count S n (max f 0) (min t n) = count S n f t := by
  unfold count
  apply cnt_congr
  intro i _ h2
  have a : decide (max f 0 ≤ (i : Int)) = decide (f ≤ (i : Int)) := by
    by_cases h : f ≤ (i : Int)
    · rw [decide_eq_true h, decide_eq_true (by omega)]
    · rw [decide_eq_false h, decide_eq_false (by omega)]
  have b : decide ((i : Int) < min t n) = decide ((i : Int) < t) := by
    by_cases h : (i : Int) < t
    · rw [decide_eq_true h, decide_eq_true (by omega)]
    · rw [decide_eq_false h, decide_eq_false (by omega)]
  rw [a, b]

/-! ### A word's lowest bit -/
theorem ctz_bit (x : Nat) (h0 : x ≠ 0) (h : x < 18446744073709551616) : Lib.ctz 64 x < 64 ∧ x.testBit (Lib.ctz 64 x) = true ∧ ∀ j, j < Lib.ctz 64 x → x.testBit j = false := by
  obtain ⟨m, hm, hk⟩ := Lib.ctzFrom_spec 64 x (by omega) h
  have e : Lib.ctz 64 x = Lib.ctzFrom 64 x := by simp [Lib.ctz, h0]
  rw [e]
  generalize Lib.ctzFrom 64 x = c at *
  subst hm
  refine ⟨hk, ?_, fun j hj => ?_⟩
  · rw [Nat.mul_comm, Nat.testBit_mul_two_pow]
    simp
  · rw [Nat.mul_comm, Nat.testBit_mul_two_pow]
    simp; omega

/-! ### A row's word under its part -/
/-- The word k of the rows, cut to its part of a range, bit by bit. -/
theorem word_bit (rows : List Nat) (n : Nat) (S : Nat → Bool) (hS : ∀ i, i < n → (rows.getD (i / 64) 0).testBit (i % 64) = S i) (k f t j : Nat) (ht : t ≤ n) (hj : j < 64) :
    (rows.getD k 0 &&& partN k f t).testBit j = (S (j + k * 64) && (decide (f ≤ j + k * 64) && decide (j + k * 64 < t))) := by
  rw [Nat.testBit_and, partN_bit, show decide (j < 64) = true from decide_eq_true hj, Bool.true_and, show k * 64 + j = j + k * 64 by omega]
  by_cases h : j + k * 64 < t
  · have := hS (j + k * 64) (by omega)
    rw [show (j + k * 64) / 64 = k by omega, show (j + k * 64) % 64 = j by omega] at this
    rw [this]
  · rw [decide_eq_false h]; simp
theorem word_pc (rows : List Nat) (n : Nat) (S : Nat → Bool) (hS : ∀ i, i < n → (rows.getD (i / 64) 0).testBit (i % 64) = S i) (k f t : Nat) (ht : t ≤ n) :
    pc (rows.getD k 0 &&& partN k f t) = cnt (fun i => S i && (decide (f ≤ i) && decide (i < t))) (k * 64) 64 := by
  unfold pc
  rw [show k * 64 = 0 + k * 64 by omega, cnt_shift]
  apply cnt_congr
  intro j _ hj
  exact word_bit rows n S hS k f t j ht (by omega)
theorem word_lt (rows : List Nat) (k f t : Nat) : rows.getD k 0 &&& partN k f t < 18446744073709551616 := Nat.lt_of_le_of_lt Nat.and_le_right (partN_lt _ _ _)
/-- No bit of the word k is left: nothing of S between. -/
theorem word_zero (rows : List Nat) (n : Nat) (S : Nat → Bool) (hS : ∀ i, i < n → (rows.getD (i / 64) 0).testBit (i % 64) = S i) (k f t : Nat) (ht : t ≤ n)
    (h0 : rows.getD k 0 &&& partN k f t = 0) : ∀ i, k * 64 ≤ i → i < k * 64 + 64 → f ≤ i → i < t → S i = false := by
  intro i h1 h2 h3 h4
  have := word_bit rows n S hS k f t (i - k * 64) ht (by omega)
  rw [h0, show i - k * 64 + k * 64 = i by omega, decide_eq_true h3, decide_eq_true h4] at this
  simpa using this.symm
theorem word_first (rows : List Nat) (n : Nat) (S : Nat → Bool) (hS : ∀ i, i < n → (rows.getD (i / 64) 0).testBit (i % 64) = S i) (k f : Nat)
    (h0 : rows.getD k 0 &&& partN k f n ≠ 0) (hb : ∀ i, f ≤ i → i < k * 64 → S i = false) :
    next S n f = ((k * 64 + Lib.ctz 64 (rows.getD k 0 &&& partN k f n) : Nat) : Int) ∧ Lib.ctz 64 (rows.getD k 0 &&& partN k f n) < 64 := by
  obtain ⟨c1, c2, c3⟩ := ctz_bit _ h0 (word_lt rows k f n)
  generalize hc : Lib.ctz 64 (rows.getD k 0 &&& partN k f n) = c at *
  refine ⟨?_, c1⟩
  have hb1 := word_bit rows n S hS k f n c (Nat.le_refl _) c1
  rw [c2] at hb1
  have hb2 := hb1.symm
  simp only [Bool.and_eq_true, decide_eq_true_eq] at hb2
  obtain ⟨b1, b2, b3⟩ := hb2
  rw [show k * 64 + c = c + k * 64 by omega]
  refine next_eq (by omega) b3 b1 (fun j hj1 hj2 => ?_)
  by_cases e : j < k * 64
  · exact hb j (by omega) e
  · have := word_bit rows n S hS k f n (j - k * 64) (Nat.le_refl _) (by omega)
    rw [c3 _ (by omega), show j - k * 64 + k * 64 = j by omega, decide_eq_true (by omega : f ≤ j), decide_eq_true (by omega : j < n)] at this
    simpa using this.symm

/-- The count over the words from a up to, not with, b is the count over a range within them. -/
theorem count_words (S : Nat → Bool) (n f t b : Nat) (ht : t ≤ n) (hb : t ≤ b * 64) (hfb : f / 64 ≤ b) :
    cnt (fun i => S i && (decide (f ≤ i) && decide (i < t))) (f / 64 * 64) ((b - f / 64) * 64) = count S n f t := by
  have e0 : count S n f t = cnt (fun i => S i && (decide (f ≤ i) && decide (i < t))) 0 n := by
    unfold count
    apply cnt_congr
    intro i _ _
    have a : decide ((f : Int) ≤ (i : Int)) = decide (f ≤ i) := by simp
    have b : decide ((i : Int) < (t : Int)) = decide (i < t) := by simp
    rw [a, b]
  rw [e0]
  have z1 : cnt (fun i => S i && (decide (f ≤ i) && decide (i < t))) 0 (f / 64 * 64) = 0 := by
    apply cnt_zero
    intro i _ h2
    have : decide (f ≤ i) = false := decide_eq_false (by omega)
    rw [this]; simp
  by_cases hc : b * 64 ≤ n
  · have z2 : cnt (fun i => S i && (decide (f ≤ i) && decide (i < t))) (b * 64) (n - b * 64) = 0 := by
      apply cnt_zero
      intro i h1 h2
      have : decide (i < t) = false := decide_eq_false (by omega)
      rw [this]; simp
    have e1 := cnt_add (fun i => S i && (decide (f ≤ i) && decide (i < t))) 0 (f / 64 * 64) ((b - f / 64) * 64)
    have e2 := cnt_add (fun i => S i && (decide (f ≤ i) && decide (i < t))) 0 (b * 64) (n - b * 64)
    rw [show f / 64 * 64 + (b - f / 64) * 64 = b * 64 by rw [← Nat.add_mul]; congr 1; omega, z1] at e1
    rw [Nat.zero_add, z2, show b * 64 + (n - b * 64) = n by omega] at e2
    simp only [Nat.zero_add] at e1
    omega
  · have z2 : cnt (fun i => S i && (decide (f ≤ i) && decide (i < t))) n (b * 64 - n) = 0 := by
      apply cnt_zero
      intro i h1 h2
      have : decide (i < t) = false := decide_eq_false (by omega)
      rw [this]; simp
    have e1 := cnt_add (fun i => S i && (decide (f ≤ i) && decide (i < t))) 0 (f / 64 * 64) ((b - f / 64) * 64)
    have e2 := cnt_add (fun i => S i && (decide (f ≤ i) && decide (i < t))) 0 n (b * 64 - n)
    rw [show f / 64 * 64 + (b - f / 64) * 64 = b * 64 by rw [← Nat.add_mul]; congr 1; omega, z1] at e1
    rw [Nat.zero_add, z2, show n + (b * 64 - n) = b * 64 by omega] at e2
    simp only [Nat.zero_add] at e1
    omega

/-! ### Gaps -/
/-- k behind one another, from i on, are below n and out. -/
def fits (S : Nat → Bool) (n : Nat) (k : Int) (i : Nat) : Bool := decide ((i : Int) + k ≤ (n : Int)) && (cnt S i k.toNat == 0)
/-- The least number, from a number on, from which k ones are out; -1: there is none, or k is below 1. -/
def gap (S : Nat → Bool) (n : Nat) (f k : Int) : Int := if k < 1 then -1 else first (fun i => decide (f ≤ (i : Int)) && fits S n k i) 0 n

theorem fits_iff (S : Nat → Bool) (n K i : Nat) : fits S n K i = true ↔ i + K ≤ n ∧ ∀ j, i ≤ j → j < i + K → S j = false := by
  unfold fits
  rw [Int.toNat_natCast, Bool.and_eq_true, decide_eq_true_eq, beq_iff_eq]
  constructor
  · intro ⟨h1, h2⟩; exact ⟨by omega, fun j a b => cnt_eq_zero h2 j a b⟩
  · intro ⟨h1, h2⟩; exact ⟨by omega, cnt_zero h2⟩

theorem gap_eq {S : Nat → Bool} {n K i : Nat} {f : Int} (hK : 1 ≤ K) (h1 : f ≤ (i : Int)) (h2 : fits S n K i = true) (hn : ∀ j : Nat, f ≤ (j : Int) → j < i → fits S n K j = false) : gap S n f K = (i : Int) := by
  unfold gap
  rw [if_neg (by omega)]
  have hb := ((fits_iff S n K i).1 h2).1
  refine first_eq (Nat.zero_le _) (by omega) (by rw [h2, decide_eq_true h1]; rfl) (fun j _ hj => ?_)
  by_cases e : f ≤ (j : Int)
  · rw [hn j e hj]; simp
  · rw [decide_eq_false e]; rfl
theorem gap_none {S : Nat → Bool} {n K : Nat} {f : Int} (hK : 1 ≤ K) (hn : ∀ j : Nat, f ≤ (j : Int) → fits S n K j = false) : gap S n f K = -1 := by
  unfold gap
  rw [if_neg (by omega)]
  refine first_none (fun j _ _ => ?_)
  by_cases e : f ≤ (j : Int)
  · rw [hn j e]; simp
  · rw [decide_eq_false e]; rfl
theorem gap_low (S : Nat → Bool) (n : Nat) (f k : Int) (h : k < 1) : gap S n f k = -1 := by unfold gap; rw [if_pos h]
theorem gap_high (S : Nat → Bool) (n : Nat) (f k : Int) (h : (n : Int) < k) : gap S n f k = -1 := by
  obtain ⟨K, rfl⟩ : ∃ K : Nat, k = K := ⟨k.toNat, by omega⟩
  refine gap_none (by omega) (fun j _ => ?_)
  cases hf : fits S n K j with
  | false => rfl
  | true => have := ((fits_iff S n K j).1 hf).1; omega
theorem gap_clip (S : Nat → Bool) (n : Nat) (f k : Int) : gap S n (max f 0) k = gap S n f k := by
  unfold gap
  split
  · rfl
  · congr 1
    funext i
    have : decide (max f 0 ≤ (i : Int)) = decide (f ≤ (i : Int)) := by
      by_cases h : f ≤ (i : Int)
      · rw [decide_eq_true h, decide_eq_true (by omega)]
      · rw [decide_eq_false h, decide_eq_false (by omega)]
    rw [this]
/-- A number that is in lies in the way of all from which it is reached. -/
theorem fits_blocked {S : Nat → Bool} {n K i x : Nat} (hx : S x = true) (h1 : i ≤ x) (h2 : x < i + K) : fits S n K i = false := by
  cases hf : fits S n K i with
  | false => rfl
  | true => have := ((fits_iff S n K i).1 hf).2 x h1 h2; rw [hx] at this; cases this
end Go.Proofs.YtppeiljecgeifaaDoor.Bm
