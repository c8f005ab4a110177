/-
  Plain facts on numbers of 64 bits and on sets of small numbers: masks, counts of set bits, the sum that math/bits.OnesCount64 makes. No program is in sight.
-/
import Derived.Laws.Bits64b
import Derived.Laws.Bits64
import Derived.Lib.TrailingZeros
namespace Go.Proofs.YtfbcdmhmpfijjaaGreatDoor.Bm

/-! ### Counting -/
/-- How many of a, .., a + n - 1 are in. -/
def cnt (S : Nat → Bool) (a : Nat) : Nat → Nat
  | 0 => 0
  | n + 1 => cnt S a n + (S (a + n)).toNat

theorem cnt_congr {S T : Nat → Bool} {a n : Nat} (h : ∀ i, a ≤ i → i < a + n → S i = T i) : cnt S a n = cnt T a n := by
  induction n with
  | zero => rfl
  | succ n ih => simp only [cnt]; rw [ih (fun i h1 h2 => h i h1 (by omega)), h (a + n) (by omega) (by omega)]

theorem cnt_zero {S : Nat → Bool} {a n : Nat} (h : ∀ i, a ≤ i → i < a + n → S i = false) : cnt S a n = 0 := by
  induction n with
  | zero => rfl
  | succ n ih => simp only [cnt]; rw [ih (fun i h1 h2 => h i h1 (by omega)), h (a + n) (by omega) (by omega)]; rfl

theorem cnt_eq_zero {S : Nat → Bool} {a n : Nat} (h : cnt S a n = 0) : ∀ i, a ≤ i → i < a + n → S i = false := by
  induction n with
  | zero => intro i h1 h2; omega
  | succ n ih =>
    simp only [cnt] at h
    intro i h1 h2
    by_cases e : i = a + n
    · subst e
      cases hs : S (a + n) with
      | false => rfl
      | true => rw [hs] at h; simp at h
    · exact ih (by omega) i h1 (by omega)

/-! ### Masks -/
/-- The bits from lo up to, not with, hi. -/
def mask (lo hi : Nat) : Nat := (2 ^ (hi - lo) - 1) * 2 ^ lo

theorem mask_bit (lo hi j : Nat) : (mask lo hi).testBit j = (decide (lo ≤ j) && decide (j < hi)) := by
  unfold mask
  rw [Nat.testBit_mul_two_pow, Nat.testBit_two_pow_sub_one]
  by_cases h : lo ≤ j
  · simp only [h, decide_true, Bool.true_and]
    by_cases h2 : j < hi
    · simp only [h2, decide_true]; exact decide_eq_true (by omega)
    · simp only [h2, decide_false]; exact decide_eq_false (by omega)
  · simp [h]

theorem lt_of_bits {x : Nat} (h : ∀ j, 64 ≤ j → x.testBit j = false) : x < 18446744073709551616 := by
  have : x < 2 ^ 64 := Nat.lt_pow_two_of_testBit x h
  simpa using this

theorem bit_of_lt {x : Nat} (h : x < 18446744073709551616) {j : Nat} (hj : 64 ≤ j) : x.testBit j = false :=
  Nat.testBit_lt_two_pow (Nat.lt_of_lt_of_le (by simpa using h : x < 2 ^ 64) (Nat.pow_le_pow_right (by decide) hj))

theorem mask_lt (lo : Nat) {hi : Nat} (h : hi ≤ 64) : mask lo hi < 18446744073709551616 :=
  lt_of_bits fun j hj => by rw [mask_bit]; simp; omega

theorem or_lt {a b : Nat} (ha : a < 18446744073709551616) (hb : b < 18446744073709551616) : a ||| b < 18446744073709551616 :=
  lt_of_bits fun j hj => by rw [Nat.testBit_or, bit_of_lt ha hj, bit_of_lt hb hj]; rfl

theorem mask_and (lo hi : Nat) : mask lo 64 &&& mask 0 hi = mask lo (min hi 64) := by
  apply Nat.eq_of_testBit_eq
  intro j
  rw [Nat.testBit_and, mask_bit, mask_bit, mask_bit]
  simp only [Nat.zero_le, decide_true, Bool.true_and]
  by_cases h1 : lo ≤ j <;> by_cases h2 : j < 64 <;> by_cases h3 : j < hi <;> simp [h1, h2, h3, Nat.lt_min]

/-- The bits of row k that lie from f up to, not with, t. -/
def partN (k f t : Nat) : Nat := mask (f - k * 64) (min (t - k * 64) 64)

theorem partN_bit (k f t j : Nat) : (partN k f t).testBit j = (decide (j < 64) && (decide (f ≤ k * 64 + j) && decide (k * 64 + j < t))) := by
  unfold partN
  rw [mask_bit]
  by_cases h1 : j < 64 <;> by_cases h2 : f ≤ k * 64 + j <;> by_cases h3 : k * 64 + j < t <;> simp [h1, h2, h3, Nat.lt_min] <;> omega

theorem partN_lt (k f t : Nat) : partN k f t < 18446744073709551616 := mask_lt _ (Nat.min_le_right _ _)

/-! ### The walk's forms -/
theorem shl_all (a : Nat) (h : a ≤ 63) : IntKind.u64.wrap (18446744073709551615 * 2 ^ a) = ((mask a 64 : Nat) : Int) := by
  rw [IntKind.wrap_u64]
  have h1 : (2 : Nat) ^ (64 - a) * 2 ^ a = 18446744073709551616 := by rw [← Nat.pow_add, show 64 - a + a = 64 by omega]
  have hp : 0 < 2 ^ a := Nat.pow_pos (by decide)
  have hle : 2 ^ a ≤ 2 ^ 63 := Nat.pow_le_pow_right (by decide) h
  unfold mask
  rw [Nat.sub_mul, h1, Nat.one_mul]
  have e : ((2 : Int) ^ a) = ((2 ^ a : Nat) : Int) := by simp
  rw [e]
  generalize 2 ^ a = p at *
  omega

theorem shl_one (b : Nat) (h : b ≤ 63) : IntKind.u64.wrap (IntKind.u64.wrap (2 ^ b) - 1) = ((mask 0 b : Nat) : Int) := by
  rw [IntKind.wrap_u64, IntKind.wrap_u64]
  have hp : 0 < 2 ^ b := Nat.pow_pos (by decide)
  have hle : 2 ^ b ≤ 2 ^ 63 := Nat.pow_le_pow_right (by decide) h
  unfold mask
  have e : ((2 : Int) ^ b) = ((2 ^ b : Nat) : Int) := by simp
  rw [e]
  simp only [Nat.sub_zero, Nat.pow_zero, Nat.mul_one]
  generalize 2 ^ b = p at *
  omega

theorem bits_andNot_u64_nat (a b : Nat) (ha : a < 18446744073709551616) (_hb : b < 18446744073709551616) :
    bits .andNot .u64 (a : Int) (b : Int) = ((a ^^^ (a &&& b) : Nat) : Int) := by
  have ea : (BitVec.ofInt 64 (a : Int)) = BitVec.ofNat 64 a := by simp
  have eb : (BitVec.ofInt 64 (b : Int)) = BitVec.ofNat 64 b := by simp
  have hx : (BitVec.ofInt 64 (a : Int) &&& ~~~(BitVec.ofInt 64 (b : Int))).toNat = a ^^^ (a &&& b) := by
    rw [ea, eb]
    apply Nat.eq_of_testBit_eq
    intro j
    rw [BitVec.testBit_toNat, Nat.testBit_xor, Nat.testBit_and]
    by_cases hj : j < 64
    · rw [BitVec.getLsbD_and, BitVec.getLsbD_not, BitVec.getLsbD_ofNat, BitVec.getLsbD_ofNat]
      simp only [hj, decide_true, Bool.true_and]
      cases a.testBit j <;> cases b.testBit j <;> rfl
    · rw [BitVec.getLsbD_of_ge _ _ (by omega), bit_of_lt ha (by omega)]; rfl
  unfold bits
  show IntKind.u64.wrap ((BitVec.ofInt 64 (a : Int) &&& ~~~(BitVec.ofInt 64 (b : Int))).toNat : Int) = _
  rw [hx, IntKind.wrap_u64]
  have hlt : a ^^^ (a &&& b) < 18446744073709551616 := lt_of_bits fun j hj => by rw [Nat.testBit_xor, Nat.testBit_and, bit_of_lt ha hj]; rfl
  omega

theorem andNot_bit (a b j : Nat) : (a ^^^ (a &&& b)).testBit j = (a.testBit j && !b.testBit j) := by
  rw [Nat.testBit_xor, Nat.testBit_and]
  cases a.testBit j <;> cases b.testBit j <;> rfl
theorem andNot_lt {a b : Nat} (ha : a < 18446744073709551616) : a ^^^ (a &&& b) < 18446744073709551616 :=
  lt_of_bits fun j hj => by rw [andNot_bit, bit_of_lt ha hj]; rfl

end Go.Proofs.YtfbcdmhmpfijjaaGreatDoor.Bm

namespace Go.Proofs.YtfbcdmhmpfijjaaGreatDoor.Bm

/-- How many bits of a number of 64 bits are set. -/
def pc (x : Nat) : Nat := cnt x.testBit 0 64

/-- n bytes b. -/
def M (b : Nat) : Nat → Nat
  | 0 => 0
  | n + 1 => 256 * M b n + b

def s1 (n x : Nat) : Nat := (x / 2 &&& M 85 n) + (x &&& M 85 n)
def s2 (n x : Nat) : Nat := (x / 4 &&& M 51 n) + (x &&& M 51 n)
def s3 (n x : Nat) : Nat := (x / 16 + x) &&& M 15 n
def t1 (c : Nat) : Nat := (c / 2 &&& 85) + (c &&& 85)
def t2 (c : Nat) : Nat := (c / 4 &&& 51) + (c &&& 51)
def t3 (c : Nat) : Nat := (c / 16 + c) &&& 15

theorem h1 : ∀ b, b < 2 → ∀ c, c < 256 → (128 * b + c / 2) &&& 85 = c / 2 &&& 85 := by decide +kernel
theorem h2 : ∀ b, b < 4 → ∀ c, c < 256 → (64 * b + c / 4) &&& 51 = c / 4 &&& 51 := by decide +kernel
theorem h3 : ∀ b, b < 5 → ∀ c, c < 69 → (16 * b + (c / 16 + c)) &&& 15 = (c / 16 + c) &&& 15 := by decide +kernel

end Go.Proofs.YtfbcdmhmpfijjaaGreatDoor.Bm

namespace Go.Proofs.YtfbcdmhmpfijjaaGreatDoor.Bm

/-- The first of a, .., a + d - 1 that is in; -1: none. -/
def first (S : Nat → Bool) (a : Nat) : Nat → Int
  | 0 => -1
  | d + 1 => if S a then (a : Int) else first S (a + 1) d

theorem first_eq {S : Nat → Bool} {a d i : Nat} (h1 : a ≤ i) (h2 : i < a + d) (hi : S i = true) (hn : ∀ j, a ≤ j → j < i → S j = false) : first S a d = (i : Int) := by
  induction d generalizing a with
  | zero => omega
  | succ d ih =>
    unfold first
    by_cases e : a = i
    · subst e; rw [if_pos hi]
    · have : S a = false := hn a (Nat.le_refl _) (by omega)
      rw [this]
      exact ih (by omega) (by omega) (fun j hj1 hj2 => hn j (by omega) hj2)
theorem first_none {S : Nat → Bool} {a d : Nat} (hn : ∀ j, a ≤ j → j < a + d → S j = false) : first S a d = -1 := by
  induction d generalizing a with
  | zero => rfl
  | succ d ih =>
    unfold first
    have : S a = false := hn a (Nat.le_refl _) (by omega)
    rw [this]
    exact ih (fun j hj1 hj2 => hn j (by omega) (by omega))
theorem first_spec (S : Nat → Bool) (a d : Nat) : (first S a d = -1 ∧ ∀ j, a ≤ j → j < a + d → S j = false) ∨
    ∃ i : Nat, first S a d = (i : Int) ∧ a ≤ i ∧ i < a + d ∧ S i = true ∧ ∀ j, a ≤ j → j < i → S j = false := by
  induction d generalizing a with
  | zero => exact .inl ⟨rfl, fun j _ _ => by omega⟩
  | succ d ih =>
    unfold first
    cases ha : S a with
    | true => exact .inr ⟨a, by simp, Nat.le_refl _, by omega, ha, fun j _ _ => by omega⟩
    | false =>
      rcases ih (a + 1) with ⟨h1, h2⟩ | ⟨i, h1, h2, h3, h4, h5⟩
      · refine .inl ⟨by simpa using h1, fun j hj1 hj2 => ?_⟩
        by_cases e : j = a
        · subst e; exact ha
        · exact h2 j (by omega) (by omega)
      · refine .inr ⟨i, by simpa using h1, by omega, by omega, h4, fun j hj1 hj2 => ?_⟩
        by_cases e : j = a
        · subst e; exact ha
        · exact h5 j (by omega) hj2

/-- The least number that is in, from a number on. -/
def next (S : Nat → Bool) (n : Nat) (from' : Int) : Int := first (fun i => S i && decide (from' ≤ (i : Int))) 0 n
/-- How many are in, in a range. -/
def count (S : Nat → Bool) (n : Nat) (f t : Int) : Nat := cnt (fun i => S i && (decide (f ≤ (i : Int)) && decide ((i : Int) < t))) 0 n

theorem next_eq {S : Nat → Bool} {n i : Nat} {f : Int} (h1 : f ≤ (i : Int)) (h2 : i < n) (hi : S i = true) (hn : ∀ j : Nat, f ≤ (j : Int) → j < i → S j = false) : next S n f = (i : Int) := by
  refine first_eq (Nat.zero_le _) (by omega) (by simp [hi, h1]) (fun j _ hj => ?_)
  by_cases e : f ≤ (j : Int)
  · rw [hn j e hj]; rfl
  · simp [e]
theorem next_none {S : Nat → Bool} {n : Nat} {f : Int} (hn : ∀ j : Nat, f ≤ (j : Int) → j < n → S j = false) : next S n f = -1 := by
  refine first_none (fun j _ hj => ?_)
  by_cases e : f ≤ (j : Int)
  · rw [hn j e (by omega)]; rfl
  · simp [e]
theorem next_spec (S : Nat → Bool) (n : Nat) (f : Int) : (next S n f = -1 ∧ ∀ j : Nat, f ≤ (j : Int) → j < n → S j = false) ∨
    ∃ i : Nat, next S n f = (i : Int) ∧ f ≤ (i : Int) ∧ i < n ∧ S i = true ∧ ∀ j : Nat, f ≤ (j : Int) → j < i → S j = false := by
  rcases first_spec (fun i => S i && decide (f ≤ (i : Int))) 0 n with ⟨h1, h2⟩ | ⟨i, h1, _, h3, h4, h5⟩
  · refine .inl ⟨h1, fun j hj hj2 => ?_⟩
    have := h2 j (Nat.zero_le _) (by omega)
    simpa [hj] using this
  · simp only [Bool.and_eq_true, decide_eq_true_eq] at h4
    refine .inr ⟨i, h1, h4.2, by omega, h4.1, fun j hj hj2 => ?_⟩
    have := h5 j (Nat.zero_le _) hj2
    simpa [hj] using this

theorem next_clip (S : Nat → Bool) (n : Nat) (f : Int) : next S n (max f 0) = next S n f := by
  unfold next
  congr 1
  funext i
  have : decide (max f 0 ≤ (i : Int)) = decide (f ≤ (i : Int)) := by
    by_cases h : f ≤ (i : Int)
    · rw [decide_eq_true h, decide_eq_true (by omega)]
    · rw [decide_eq_false h, decide_eq_false (by omega)]
  rw [this]
/-! ### A word's lowest bit -/
theorem ctz_bit (x : Nat) (h0 : x ≠ 0) (h : x < 18446744073709551616) : Lib.ctz 64 x < 64 ∧ x.testBit (Lib.ctz 64 x) = true ∧ ∀ j, j < Lib.ctz 64 x → x.testBit j = false := by
  obtain ⟨m, hm, hk⟩ := Lib.ctzFrom_spec 64 x (by omega) h
  have e : Lib.ctz 64 x = Lib.ctzFrom 64 x := by simp [Lib.ctz, h0]
  rw [e]
  generalize Lib.ctzFrom 64 x = c at *
  subst hm
  refine ⟨hk, ?_, fun j hj => ?_⟩
  · rw [Nat.mul_comm, Nat.testBit_mul_two_pow]
    simp
  · rw [Nat.mul_comm, Nat.testBit_mul_two_pow]
    simp; omega

/-! ### A row's word under its part -/
/-- The word k of the rows, cut to its part of a range, bit by bit. -/
theorem word_bit (rows : List Nat) (n : Nat) (S : Nat → Bool) (hS : ∀ i, i < n → (rows.getD (i / 64) 0).testBit (i % 64) = S i) (k f t j : Nat) (ht : t ≤ n) (hj : j < 64) :
    (rows.getD k 0 &&& partN k f t).testBit j = (S (j + k * 64) && (decide (f ≤ j + k * 64) && decide (j + k * 64 < t))) := by
  rw [Nat.testBit_and, partN_bit, show decide (j < 64) = true from decide_eq_true hj, Bool.true_and, show k * 64 + j = j + k * 64 by omega]
  by_cases h : j + k * 64 < t
  · have := hS (j + k * 64) (by omega)
    rw [show (j + k * 64) / 64 = k by omega, show (j + k * 64) % 64 = j by omega] at this
    rw [this]
  · rw [decide_eq_false h]; simp
theorem word_lt (rows : List Nat) (k f t : Nat) : rows.getD k 0 &&& partN k f t < 18446744073709551616 := Nat.lt_of_le_of_lt Nat.and_le_right (partN_lt _ _ _)
/-- No bit of the word k is left: nothing of S between. -/
theorem word_zero (rows : List Nat) (n : Nat) (S : Nat → Bool) (hS : ∀ i, i < n → (rows.getD (i / 64) 0).testBit (i % 64) = S i) (k f t : Nat) (ht : t ≤ n)
    (h0 : rows.getD k 0 &&& partN k f t = 0) : ∀ i, k * 64 ≤ i → i < k * 64 + 64 → f ≤ i → i < t → S i = false := by
  intro i h1 h2 h3 h4
  have := word_bit rows n S hS k f t (i - k * 64) ht (by omega)
  rw [h0, show i - k * 64 + k * 64 = i by omega, decide_eq_true h3, decide_eq_true h4] at this
  simpa using this.symm
theorem word_first (rows : List Nat) (n : Nat) (S : Nat → Bool) (hS : ∀ i, i < n → (rows.getD (i / 64) 0).testBit (i % 64) = S i) (k f : Nat)
    (h0 : rows.getD k 0 &&& partN k f n ≠ 0) (hb : ∀ i, f ≤ i → i < k * 64 → S i = false) :
    next S n f = ((k * 64 + Lib.ctz 64 (rows.getD k 0 &&& partN k f n) : Nat) : Int) ∧ Lib.ctz 64 (rows.getD k 0 &&& partN k f n) < 64 := by
  obtain ⟨c1, c2, c3⟩ := ctz_bit _ h0 (word_lt rows k f n)
  generalize hc : Lib.ctz 64 (rows.getD k 0 &&& partN k f n) = c at *
  refine ⟨?_, c1⟩
  have hb1 := word_bit rows n S hS k f n c (Nat.le_refl _) c1
  rw [c2] at hb1
  have hb2 := hb1.symm
  simp only [Bool.and_eq_true, decide_eq_true_eq] at hb2
  obtain ⟨b1, b2, b3⟩ := hb2
  rw [show k * 64 + c = c + k * 64 by omega]
  refine next_eq (by omega) b3 b1 (fun j hj1 hj2 => ?_)
  by_cases e : j < k * 64
  · exact hb j (by omega) e
  · have := word_bit rows n S hS k f n (j - k * 64) (Nat.le_refl _) (by omega)
    rw [c3 _ (by omega), show j - k * 64 + k * 64 = j by omega, decide_eq_true (by omega : f ≤ j), decide_eq_true (by omega : j < n)] at this
    simpa using this.symm

/-! ### Gaps -/
/-- k behind one another, from i on, are below n and out. -/
def fits (S : Nat → Bool) (n : Nat) (k : Int) (i : Nat) : Bool := decide ((i : Int) + k ≤ (n : Int)) && (cnt S i k.toNat == 0)
end Go.Proofs.YtfbcdmhmpfijjaaGreatDoor.Bm
