/-
  Plain facts on numbers of 64 bits and on sets of small numbers: masks, counts of set bits, the sum that math/bits.OnesCount64 makes. No program is in sight.
-/
import Derived.Laws.Bits64b
import Derived.Laws.Bits64
import Derived.Lib.TrailingZeros
namespace Go.Proofs.YtppeiljecgeifaaDoor.Bm

/-! ### Counting -/
/-- How many of a, .., a + n - 1 are in. -/
def cnt (S : Nat → Bool) (a : Nat) : Nat → Nat
  | 0 => 0
  | n + 1 => cnt S a n + (S (a + n)).toNat

theorem cnt_congr {S T : Nat → Bool} {a n : Nat} (h : ∀ i, a ≤ i → i < a + n → S i = T i) : cnt S a n = cnt T a n := by
  induction n with
  | zero => rfl
  | succ n ih => simp only [cnt]; rw [ih (fun i h1 h2 => h i h1 (by omega)), h (a + n) (by omega) (by omega)]

theorem cnt_add (S : Nat → Bool) (a n m : Nat) : cnt S a (n + m) = cnt S a n + cnt S (a + n) m := by
  induction m with
  | zero => rfl
  | succ m ih => rw [← Nat.add_assoc]; simp only [cnt]; rw [ih, Nat.add_assoc, Nat.add_assoc]

theorem cnt_shift (S : Nat → Bool) (d a n : Nat) : cnt S (a + d) n = cnt (fun j => S (j + d)) a n := by
  induction n with
  | zero => rfl
  | succ n ih => simp only [cnt]; rw [ih, show a + d + n = a + n + d by omega]

theorem cnt_le (S : Nat → Bool) (a n : Nat) : cnt S a n ≤ n := by
  induction n with
  | zero => simp [cnt]
  | succ n ih => simp only [cnt]; have := Bool.toNat_le (S (a + n)); omega

theorem cnt_zero {S : Nat → Bool} {a n : Nat} (h : ∀ i, a ≤ i → i < a + n → S i = false) : cnt S a n = 0 := by
  induction n with
  | zero => rfl
  | succ n ih => simp only [cnt]; rw [ih (fun i h1 h2 => h i h1 (by omega)), h (a + n) (by omega) (by omega)]; rfl

theorem cnt_full {S : Nat → Bool} {a n : Nat} (h : ∀ i, a ≤ i → i < a + n → S i = true) : cnt S a n = n := by
  induction n with
  | zero => rfl
  | succ n ih => simp only [cnt]; rw [ih (fun i h1 h2 => h i h1 (by omega)), h (a + n) (by omega) (by omega)]; rfl

theorem cnt_eq_zero {S : Nat → Bool} {a n : Nat} (h : cnt S a n = 0) : ∀ i, a ≤ i → i < a + n → S i = false := by
  induction n with
  | zero => intro i h1 h2; omega
  | succ n ih =>
    simp only [cnt] at h
    intro i h1 h2
    by_cases e : i = a + n
    · subst e
      cases hs : S (a + n) with
      | false => rfl
      | true => rw [hs] at h; simp at h
    · exact ih (by omega) i h1 (by omega)

/-! ### Masks -/
/-- The bits from lo up to, not with, hi. -/
def mask (lo hi : Nat) : Nat := (2 ^ (hi - lo) - 1) * 2 ^ lo

theorem mask_bit (lo hi j : Nat) : (mask lo hi).testBit j = (decide (lo ≤ j) && decide (j < hi)) := by
  unfold mask
  rw [Nat.testBit_mul_two_pow, Nat.testBit_two_pow_sub_one]
  by_cases h : lo ≤ j
  · simp only [h, decide_true, Bool.true_and]
    by_cases h2 : j < hi
    · simp only [h2, decide_true]; exact decide_eq_true (by omega)
    · simp only [h2, decide_false]; exact decide_eq_false (by omega)
  · simp [h]

theorem lt_of_bits {x : Nat} (h : ∀ j, 64 ≤ j → x.testBit j = false) : x < 18446744073709551616 := by
  have : x < 2 ^ 64 := Nat.lt_pow_two_of_testBit x h
  simpa using this

theorem bit_of_lt {x : Nat} (h : x < 18446744073709551616) {j : Nat} (hj : 64 ≤ j) : x.testBit j = false :=
  Nat.testBit_lt_two_pow (Nat.lt_of_lt_of_le (by simpa using h : x < 2 ^ 64) (Nat.pow_le_pow_right (by decide) hj))

theorem mask_lt (lo : Nat) {hi : Nat} (h : hi ≤ 64) : mask lo hi < 18446744073709551616 :=
  lt_of_bits fun j hj => by rw [mask_bit]; simp; omega

theorem and_lt {a b : Nat} (h : a < 18446744073709551616) : a &&& b < 18446744073709551616 := Nat.lt_of_le_of_lt Nat.and_le_left h
theorem or_lt {a b : Nat} (ha : a < 18446744073709551616) (hb : b < 18446744073709551616) : a ||| b < 18446744073709551616 :=
  lt_of_bits fun j hj => by rw [Nat.testBit_or, bit_of_lt ha hj, bit_of_lt hb hj]; rfl

theorem mask_and (lo hi : Nat) : mask lo 64 &&& mask 0 hi = mask lo (min hi 64) := by
  apply Nat.eq_of_testBit_eq
  intro j
  rw [Nat.testBit_and, mask_bit, mask_bit, mask_bit]
  simp only [Nat.zero_le, decide_true, Bool.true_and]
  by_cases h1 : lo ≤ j <;> by_cases h2 : j < 64 <;> by_cases h3 : j < hi <;> simp [h1, h2, h3, Nat.lt_min]

/-- The bits of row k that lie from f up to, not with, t. -/
def partN (k f t : Nat) : Nat := mask (f - k * 64) (min (t - k * 64) 64)

theorem partN_bit (k f t j : Nat) : (partN k f t).testBit j = (decide (j < 64) && (decide (f ≤ k * 64 + j) && decide (k * 64 + j < t))) := by
  unfold partN
  rw [mask_bit]
  by_cases h1 : j < 64 <;> by_cases h2 : f ≤ k * 64 + j <;> by_cases h3 : k * 64 + j < t <;> simp [h1, h2, h3, Nat.lt_min] <;> omega

theorem partN_lt (k f t : Nat) : partN k f t < 18446744073709551616 := mask_lt _ (Nat.min_le_right _ _)

/-! ### The walk's forms -/
theorem shl_all (a : Nat) (h : a ≤ 63) : IntKind.u64.wrap (18446744073709551615 * 2 ^ a) = ((mask a 64 : Nat) : Int) := by
  rw [IntKind.wrap_u64]
  have h1 : (2 : Nat) ^ (64 - a) * 2 ^ a = 18446744073709551616 := by rw [← Nat.pow_add, show 64 - a + a = 64 by omega]
  have hp : 0 < 2 ^ a := Nat.pow_pos (by decide)
  have hle : 2 ^ a ≤ 2 ^ 63 := Nat.pow_le_pow_right (by decide) h
  unfold mask
  rw [Nat.sub_mul, h1, Nat.one_mul]
  have e : ((2 : Int) ^ a) = ((2 ^ a : Nat) : Int) := by simp
  rw [e]
  generalize 2 ^ a = p at *
  omega

theorem shl_one (b : Nat) (h : b ≤ 63) : IntKind.u64.wrap (IntKind.u64.wrap (2 ^ b) - 1) = ((mask 0 b : Nat) : Int) := by
  rw [IntKind.wrap_u64, IntKind.wrap_u64]
  have hp : 0 < 2 ^ b := Nat.pow_pos (by decide)
  have hle : 2 ^ b ≤ 2 ^ 63 := Nat.pow_le_pow_right (by decide) h
  unfold mask
  have e : ((2 : Int) ^ b) = ((2 ^ b : Nat) : Int) := by simp
  rw [e]
  simp only [Nat.sub_zero, Nat.pow_zero, Nat.mul_one]
  generalize 2 ^ b = p at *
  omega

theorem bits_andNot_u64_nat (a b : Nat) (ha : a < 18446744073709551616) (_hb : b < 18446744073709551616) :
    bits .andNot .u64 (a : Int) (b : Int) = ((a ^^^ (a &&& b) : Nat) : Int) := by
  have ea : (BitVec.ofInt 64 (a : Int)) = BitVec.ofNat 64 a := by simp
  have eb : (BitVec.ofInt 64 (b : Int)) = BitVec.ofNat 64 b := by simp
  have hx : (BitVec.ofInt 64 (a : Int) &&& ~~~(BitVec.ofInt 64 (b : Int))).toNat = a ^^^ (a &&& b) := by
    rw [ea, eb]
    apply Nat.eq_of_testBit_eq
    intro j
    rw [BitVec.testBit_toNat, Nat.testBit_xor, Nat.testBit_and]
    by_cases hj : j < 64
    · rw [BitVec.getLsbD_and, BitVec.getLsbD_not, BitVec.getLsbD_ofNat, BitVec.getLsbD_ofNat]
      simp only [hj, decide_true, Bool.true_and]
      cases a.testBit j <;> cases b.testBit j <;> rfl
    · rw [BitVec.getLsbD_of_ge _ _ (by omega), bit_of_lt ha (by omega)]; rfl
  unfold bits
  show IntKind.u64.wrap ((BitVec.ofInt 64 (a : Int) &&& ~~~(BitVec.ofInt 64 (b : Int))).toNat : Int) = _
  rw [hx, IntKind.wrap_u64]
  have hlt : a ^^^ (a &&& b) < 18446744073709551616 := lt_of_bits fun j hj => by rw [Nat.testBit_xor, Nat.testBit_and, bit_of_lt ha hj]; rfl
  omega

theorem andNot_bit (a b j : Nat) : (a ^^^ (a &&& b)).testBit j = (a.testBit j && !b.testBit j) := by
  rw [Nat.testBit_xor, Nat.testBit_and]
  cases a.testBit j <;> cases b.testBit j <;> rfl
theorem andNot_lt {a b : Nat} (ha : a < 18446744073709551616) : a ^^^ (a &&& b) < 18446744073709551616 :=
  lt_of_bits fun j hj => by rw [andNot_bit, bit_of_lt ha hj]; rfl

end Go.Proofs.YtppeiljecgeifaaDoor.Bm
