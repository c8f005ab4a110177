/-
  Plain facts on numbers of 64 bits and on sets of small numbers: masks, counts of set bits, the sum that math/bits.OnesCount64 makes. No program is in sight.
-/
import Derived.Laws.Bits64b
import Derived.Laws.Bits64
import Derived.Lib.TrailingZeros
namespace Go.Proofs.YtiniadochjeieaaDoor.Bm

/-! ### Counting -/
/-- How many of a, .., a + n - 1 are in. -/
def cnt (S : Nat → Bool) (a : Nat) : Nat → Nat
  | 0 => 0
  | n + 1 => cnt S a n + (S (a + n)).toNat

theorem cnt_congr {S T : Nat → Bool} {a n : Nat} (h : ∀ i, a ≤ i → i < a + n → S i = T i) : cnt S a n = cnt T a n := by
  induction n with
  | zero => rfl
  | succ n ih => simp only [cnt]; rw [ih (fun i h1 h2 => h i h1 (by omega)), h (a + n) (by omega) (by omega)]

theorem cnt_add (S : Nat → Bool) (a n m : Nat) : cnt S a (n + m) = cnt S a n + cnt S (a + n) m := by
  induction m with
  | zero => rfl
  | succ m ih => rw [← Nat.add_assoc]; simp only [cnt]; rw [ih, Nat.add_assoc, Nat.add_assoc]

theorem cnt_shift (S : Nat → Bool) (d a n : Nat) : cnt S (a + d) n = cnt (fun j => S (j + d)) a n := by
  induction n with
  | zero => rfl
  | succ n ih => simp only [cnt]; rw [ih, show a + d + n = a + n + d by omega]

theorem cnt_le (S : Nat → Bool) (a n : Nat) : cnt S a n ≤ n := by
  induction n with
  | zero => simp [cnt]
  | succ n ih => simp only [cnt]; have := Bool.toNat_le (S (a + n)); omega

theorem cnt_zero {S : Nat → Bool} {a n : Nat} (h : ∀ i, a ≤ i → i < a + n → S i = false) : cnt S a n = 0 := by
  induction n with
  | zero => rfl
  | succ n ih => simp only [cnt]; rw [ih (fun i h1 h2 => h i h1 (by omega)), h (a + n) (by omega) (by omega)]; rfl

theorem cnt_full {S : Nat → Bool} {a n : Nat} (h : ∀ i, a ≤ i → i < a + n → S i = true) : cnt S a n = n := by
  induction n with
  | zero => rfl
  | succ n ih => simp only [cnt]; rw [ih (fun i h1 h2 => h i h1 (by omega)), h (a + n) (by omega) (by omega)]; rfl

theorem cnt_eq_zero {S : Nat → Bool} {a n : Nat} (h : cnt S a n = 0) : ∀ i, a ≤ i → i < a + n → S i = false := by
  induction n with
  | zero => intro i h1 h2; omega
  | succ n ih =>
    simp only [cnt] at h
    intro i h1 h2
    by_cases e : i = a + n
    · subst e
      cases hs : S (a + n) with
      | false => rfl
      | true => rw [hs] at h; simp at h
    · exact ih (by omega) i h1 (by omega)

/-! ### Masks -/
/-- The bits from lo up to, not with, hi. -/
def mask (lo hi : Nat) : Nat := (2 ^ (hi - lo) - 1) * 2 ^ lo

theorem mask_bit (lo hi j : Nat) : (mask lo hi).testBit j = (decide (lo ≤ j) && decide (j < hi)) := by
  unfold mask
  rw [Nat.testBit_mul_two_pow, Nat.testBit_two_pow_sub_one]
  by_cases h : lo ≤ j
  · simp only [h, decide_true, Bool.true_and]
    by_cases h2 : j < hi
    · simp only [h2, decide_true]; exact decide_eq_true (by omega)
    · simp only [h2, decide_false]; exact decide_eq_false (by omega)
  · simp [h]

theorem lt_of_bits {x : Nat} (h : ∀ j, 64 ≤ j → x.testBit j = false) : x < 18446744073709551616 := by
  have : x < 2 ^ 64 := Nat.lt_pow_two_of_testBit x h
  simpa using this

theorem bit_of_lt {x : Nat} (h : x < 18446744073709551616) {j : Nat} (hj : 64 ≤ j) : x.testBit j = false :=
  Nat.testBit_lt_two_pow (Nat.lt_of_lt_of_le (by simpa using h : x < 2 ^ 64) (Nat.pow_le_pow_right (by decide) hj))

theorem mask_lt (lo : Nat) {hi : Nat} (h : hi ≤ 64) : mask lo hi < 18446744073709551616 :=
  lt_of_bits fun j hj => by rw [mask_bit]; simp; omega

theorem and_lt {a b : Nat} (h : a < 18446744073709551616) : a &&& b < 18446744073709551616 := Nat.lt_of_le_of_lt Nat.and_le_left h
theorem or_lt {a b : Nat} (ha : a < 18446744073709551616) (hb : b < 18446744073709551616) : a ||| b < 18446744073709551616 :=
  lt_of_bits fun j hj => by rw [Nat.testBit_or, bit_of_lt ha hj, bit_of_lt hb hj]; rfl

theorem mask_and (lo hi : Nat) : mask lo 64 &&& mask 0 hi = mask lo (min hi 64) := by
  apply Nat.eq_of_testBit_eq
  intro j
  rw [Nat.testBit_and, mask_bit, mask_bit, mask_bit]
  simp only [Nat.zero_le, decide_true, Bool.true_and]
  by_cases h1 : lo ≤ j <;> by_cases h2 : j < 64 <;> by_cases h3 : j < hi <;> simp [h1, h2, h3, Nat.lt_min]

/-- The bits of row k that lie from f up to, not with, t. -/
def partN (k f t : Nat) : Nat := mask (f - k * 64) (min (t - k * 64) 64)

theorem partN_bit (k f t j : Nat) : (partN k f t).testBit j = (decide (j < 64) && (decide (f ≤ k * 64 + j) && decide (k * 64 + j < t))) := by
  unfold partN
  rw [mask_bit]
  by_cases h1 : j < 64 <;> by_cases h2 : f ≤ k * 64 + j <;> by_cases h3 : k * 64 + j < t <;> simp [h1, h2, h3, Nat.lt_min] <;> omega

theorem partN_lt (k f t : Nat) : partN k f t < 18446744073709551616 := mask_lt _ (Nat.min_le_right _ _)

/-! ### The walk's forms -/
theorem shl_all (a : Nat) (h : a ≤ 63) : IntKind.u64.wrap (18446744073709551615 * 2 ^ a) = ((mask a 64 : Nat) : Int) := by
  rw [IntKind.wrap_u64]
  have h1 : (2 : Nat) ^ (64 - a) * 2 ^ a = 18446744073709551616 := by rw [← Nat.pow_add, show 64 - a + a = 64 by omega]
  have hp : 0 < 2 ^ a := Nat.pow_pos (by decide)
  have hle : 2 ^ a ≤ 2 ^ 63 := Nat.pow_le_pow_right (by decide) h
  unfold mask
  rw [Nat.sub_mul, h1, Nat.one_mul]
  have e : ((2 : Int) ^ a) = ((2 ^ a : Nat) : Int) := by simp
  rw [e]
  generalize 2 ^ a = p at *
  omega

theorem shl_one (b : Nat) (h : b ≤ 63) : IntKind.u64.wrap (IntKind.u64.wrap (2 ^ b) - 1) = ((mask 0 b : Nat) : Int) := by
  rw [IntKind.wrap_u64, IntKind.wrap_u64]
  have hp : 0 < 2 ^ b := Nat.pow_pos (by decide)
  have hle : 2 ^ b ≤ 2 ^ 63 := Nat.pow_le_pow_right (by decide) h
  unfold mask
  have e : ((2 : Int) ^ b) = ((2 ^ b : Nat) : Int) := by simp
  rw [e]
  simp only [Nat.sub_zero, Nat.pow_zero, Nat.mul_one]
  generalize 2 ^ b = p at *
  omega

theorem bits_andNot_u64_nat (a b : Nat) (ha : a < 18446744073709551616) (_hb : b < 18446744073709551616) :
    bits .andNot .u64 (a : Int) (b : Int) = ((a ^^^ (a &&& b) : Nat) : Int) := by
  have ea : (BitVec.ofInt 64 (a : Int)) = BitVec.ofNat 64 a := by simp
  have eb : (BitVec.ofInt 64 (b : Int)) = BitVec.ofNat 64 b := by simp
  have hx : (BitVec.ofInt 64 (a : Int) &&& ~~~(BitVec.ofInt 64 (b : Int))).toNat = a ^^^ (a &&& b) := by
    rw [ea, eb]
    apply Nat.eq_of_testBit_eq
    intro j
    rw [BitVec.testBit_toNat, Nat.testBit_xor, Nat.testBit_and]
    by_cases hj : j < 64
    · rw [BitVec.getLsbD_and, BitVec.getLsbD_not, BitVec.getLsbD_ofNat, BitVec.getLsbD_ofNat]
      simp only [hj, decide_true, Bool.true_and]
      cases a.testBit j <;> cases b.testBit j <;> rfl
    · rw [BitVec.getLsbD_of_ge _ _ (by omega), bit_of_lt ha (by omega)]; rfl
  unfold bits
  show IntKind.u64.wrap ((BitVec.ofInt 64 (a : Int) &&& ~~~(BitVec.ofInt 64 (b : Int))).toNat : Int) = _
  rw [hx, IntKind.wrap_u64]
  have hlt : a ^^^ (a &&& b) < 18446744073709551616 := lt_of_bits fun j hj => by rw [Nat.testBit_xor, Nat.testBit_and, bit_of_lt ha hj]; rfl
  omega

theorem andNot_bit (a b j : Nat) : (a ^^^ (a &&& b)).testBit j = (a.testBit j && !b.testBit j) := by
  rw [Nat.testBit_xor, Nat.testBit_and]
  cases a.testBit j <;> cases b.testBit j <;> rfl
theorem andNot_lt {a b : Nat} (ha : a < 18446744073709551616) : a ^^^ (a &&& b) < 18446744073709551616 :=
  lt_of_bits fun j hj => by rw [andNot_bit, bit_of_lt ha hj]; rfl

end Go.Proofs.YtiniadochjeieaaDoor.Bm

namespace Go.Proofs.YtiniadochjeieaaDoor.Bm

theorem cnt_none (S : Nat → Bool) (a : Nat) : cnt S a 0 = 0 := rfl
/-- How many bits of a number of 64 bits are set. -/
def pc (x : Nat) : Nat := cnt x.testBit 0 64

theorem add_bit (q c j : Nat) (hc : c < 256) : (256 * q + c).testBit j = if j < 8 then c.testBit j else q.testBit (j - 8) :=
  Nat.testBit_two_pow_mul_add q (i := 8) hc j

theorem land_byte (a b c d : Nat) (hc : c < 256) (hd : d < 256) : (256 * a + c) &&& (256 * b + d) = 256 * (a &&& b) + (c &&& d) := by
  apply Nat.eq_of_testBit_eq
  intro j
  have hcd : c &&& d < 256 := Nat.lt_of_le_of_lt Nat.and_le_left hc
  rw [Nat.testBit_and, add_bit a c j hc, add_bit b d j hd, add_bit _ _ j hcd]
  split <;> rw [Nat.testBit_and]

/-- n bytes b. -/
def M (b : Nat) : Nat → Nat
  | 0 => 0
  | n + 1 => 256 * M b n + b

theorem M_succ (b n : Nat) : M b (n + 1) = 256 * M b n + b := rfl
def s1 (n x : Nat) : Nat := (x / 2 &&& M 85 n) + (x &&& M 85 n)
def s2 (n x : Nat) : Nat := (x / 4 &&& M 51 n) + (x &&& M 51 n)
def s3 (n x : Nat) : Nat := (x / 16 + x) &&& M 15 n
def t1 (c : Nat) : Nat := (c / 2 &&& 85) + (c &&& 85)
def t2 (c : Nat) : Nat := (c / 4 &&& 51) + (c &&& 51)
def t3 (c : Nat) : Nat := (c / 16 + c) &&& 15

theorem t1_lt : ∀ c, c < 256 → t1 c < 256 := by decide +kernel
theorem t2_lt : ∀ c, c < 256 → t2 (t1 c) < 69 ∧ t2 (t1 c) % 16 ≤ 4 ∧ t2 (t1 c) / 16 ≤ 4 := by decide +kernel
theorem t3_eq : ∀ c, c < 256 → t3 (t2 (t1 c)) = cnt c.testBit 0 8 := by decide +kernel
theorem h1 : ∀ b, b < 2 → ∀ c, c < 256 → (128 * b + c / 2) &&& 85 = c / 2 &&& 85 := by decide +kernel
theorem h2 : ∀ b, b < 4 → ∀ c, c < 256 → (64 * b + c / 4) &&& 51 = c / 4 &&& 51 := by decide +kernel
theorem h3 : ∀ b, b < 5 → ∀ c, c < 69 → (16 * b + (c / 16 + c)) &&& 15 = (c / 16 + c) &&& 15 := by decide +kernel

theorem s1_rec (n q c : Nat) (hc : c < 256) : s1 (n + 1) (256 * q + c) = 256 * s1 n q + t1 c := by
  unfold s1 t1
  rw [M_succ]
  have e : (256 * q + c) / 2 = 256 * (q / 2) + (128 * (q % 2) + c / 2) := by omega
  rw [e, land_byte _ _ _ _ (by omega) (by decide), land_byte _ _ _ _ hc (by decide), h1 _ (Nat.mod_lt _ (by decide)) c hc]
  omega

theorem s2_rec (n q c : Nat) (hc : c < 256) : s2 (n + 1) (256 * q + c) = 256 * s2 n q + t2 c := by
  unfold s2 t2
  rw [M_succ]
  have e : (256 * q + c) / 4 = 256 * (q / 4) + (64 * (q % 4) + c / 4) := by omega
  rw [e, land_byte _ _ _ _ (by omega) (by decide), land_byte _ _ _ _ hc (by decide), h2 _ (Nat.mod_lt _ (by decide)) c hc]
  omega

theorem s3_rec (n q c : Nat) (hc : c < 69) (hq : q % 16 ≤ 4) : s3 (n + 1) (256 * q + c) = 256 * s3 n q + t3 c := by
  unfold s3 t3
  rw [M_succ]
  have e : (256 * q + c) / 16 + (256 * q + c) = 256 * (q / 16 + q) + (16 * (q % 16) + (c / 16 + c)) := by omega
  rw [e, land_byte _ _ _ _ (by omega) (by decide), h3 _ (by omega) c hc]

def comp (n x : Nat) : Nat := s3 n (s2 n (s1 n x))

theorem low4 (n q : Nat) : s2 n (s1 n q) % 16 ≤ 4 := by
  cases n with
  | zero => simp [s2, s1, M]
  | succ n =>
    have hc : q % 256 < 256 := Nat.mod_lt _ (by decide)
    have e : q = 256 * (q / 256) + q % 256 := by omega
    rw [e, s1_rec n _ _ hc, s2_rec n _ _ (t1_lt _ hc)]
    have := (t2_lt _ hc).2.1
    omega

theorem comp_rec (n q c : Nat) (hc : c < 256) : comp (n + 1) (256 * q + c) = 256 * comp n q + cnt c.testBit 0 8 := by
  unfold comp
  have h := t2_lt c hc
  rw [s1_rec n q c hc, s2_rec n _ _ (t1_lt c hc), s3_rec n _ _ h.1 (low4 n q), t3_eq c hc]

theorem comp_zero (x : Nat) : comp 0 x = 0 := by simp [comp, s3, M]

theorem cnt_byte (q c n : Nat) (hc : c < 256) : cnt (256 * q + c).testBit 0 (8 + n) = cnt c.testBit 0 8 + cnt q.testBit 0 n := by
  rw [cnt_add]
  congr 1
  · apply cnt_congr
    intro i _ h2
    rw [add_bit q c i hc, if_pos (by omega)]
  · rw [show 0 + 8 = 0 + 8 from rfl, cnt_shift]
    apply cnt_congr
    intro i _ _
    rw [add_bit q c _ hc, if_neg (by omega), Nat.add_sub_cancel]

/-- What the last four lines make of it. -/
def fin (y : Nat) : Nat :=
  let a := y + y / 256
  let b := a + a / 65536
  (b + b / 4294967296) % 128

theorem div_of {X m c r : Nat} (h : X = m * c + r) (hr : r < m) : X / m = c := by
  rw [h, Nat.mul_add_div (by omega), Nat.div_eq_of_lt hr]; rfl
theorem mod_of {X m c r : Nat} (h : X = m * c + r) (hr : r < m) : X % m = r := by
  rw [h, Nat.mul_add_mod, Nat.mod_eq_of_lt hr]

theorem fin_eq (b0 b1 b2 b3 b4 b5 b6 b7 : Nat) (h0 : b0 ≤ 8) (h1 : b1 ≤ 8) (h2 : b2 ≤ 8) (h3 : b3 ≤ 8) (h4 : b4 ≤ 8) (h5 : b5 ≤ 8) (h6 : b6 ≤ 8) (h7 : b7 ≤ 8) :
    fin (256 * (256 * (256 * (256 * (256 * (256 * (256 * (256 * 0 + b7) + b6) + b5) + b4) + b3) + b2) + b1) + b0) = b0 + b1 + b2 + b3 + b4 + b5 + b6 + b7 := by
  obtain ⟨y, hy⟩ : ∃ y, y = 256 * (256 * (256 * (256 * (256 * (256 * (256 * (256 * 0 + b7) + b6) + b5) + b4) + b3) + b2) + b1) + b0 := ⟨_, rfl⟩
  have e1 : y / 256 = 256 * (256 * (256 * (256 * (256 * (256 * b7 + b6) + b5) + b4) + b3) + b2) + b1 := div_of (r := b0) (by omega) (by omega)
  obtain ⟨a, ha⟩ : ∃ a, a = y + (256 * (256 * (256 * (256 * (256 * (256 * b7 + b6) + b5) + b4) + b3) + b2) + b1) := ⟨_, rfl⟩
  have e2 : a / 65536 = (b2 + b3) + 256 * (b3 + b4) + 65536 * (b4 + b5) + 16777216 * (b5 + b6) + 4294967296 * (b6 + b7) + 1099511627776 * b7 :=
    div_of (r := b0 + b1 + 256 * (b1 + b2)) (by omega) (by omega)
  obtain ⟨b, hb⟩ : ∃ b, b = a + ((b2 + b3) + 256 * (b3 + b4) + 65536 * (b4 + b5) + 16777216 * (b5 + b6) + 4294967296 * (b6 + b7) + 1099511627776 * b7) := ⟨_, rfl⟩
  have e3 : b / 4294967296 = (b4 + b5 + b6 + b7) + 256 * (b5 + b6 + b7) + 65536 * (b6 + b7) + 16777216 * b7 :=
    div_of (r := (b0 + b1 + b2 + b3) + 256 * (b1 + b2 + b3 + b4) + 65536 * (b2 + b3 + b4 + b5) + 16777216 * (b3 + b4 + b5 + b6)) (by omega) (by omega)
  simp only [fin]
  rw [← hy, e1, ← ha, e2, ← hb, e3]
  exact mod_of (c := 2 * ((b1 + b2 + b3 + b4) + 256 * (b2 + b3 + b4 + b5) + 65536 * (b3 + b4 + b5 + b6) + 16777216 * (b4 + b5 + b6 + b7) + 4294967296 * (b5 + b6 + b7) + 1099511627776 * (b6 + b7) + 281474976710656 * b7) + 2 * ((b5 + b6 + b7) + 256 * (b6 + b7) + 65536 * b7)) (by omega) (by omega)

theorem split8 (x : Nat) (h : x < 18446744073709551616) : ∃ c0 c1 c2 c3 c4 c5 c6 c7, c0 < 256 ∧ c1 < 256 ∧ c2 < 256 ∧ c3 < 256 ∧ c4 < 256 ∧ c5 < 256 ∧ c6 < 256 ∧ c7 < 256 ∧
    x = 256 * (256 * (256 * (256 * (256 * (256 * (256 * (256 * 0 + c7) + c6) + c5) + c4) + c3) + c2) + c1) + c0 :=
  ⟨x % 256, x / 256 % 256, x / 256 / 256 % 256, x / 256 / 256 / 256 % 256, x / 256 / 256 / 256 / 256 % 256, x / 256 / 256 / 256 / 256 / 256 % 256,
    x / 256 / 256 / 256 / 256 / 256 / 256 % 256, x / 256 / 256 / 256 / 256 / 256 / 256 / 256 % 256, by omega, by omega, by omega, by omega, by omega, by omega, by omega, by omega, by omega⟩

theorem comp_eq (x : Nat) (h : x < 18446744073709551616) : fin (comp 8 x) = pc x ∧ comp 8 x < 1000000000000000000 := by
  obtain ⟨c0, c1, c2, c3, c4, c5, c6, c7, l0, l1, l2, l3, l4, l5, l6, l7, rfl⟩ := split8 x h
  rw [comp_rec 7 _ _ l0, comp_rec 6 _ _ l1, comp_rec 5 _ _ l2, comp_rec 4 _ _ l3, comp_rec 3 _ _ l4, comp_rec 2 _ _ l5, comp_rec 1 _ _ l6, comp_rec 0 _ _ l7, comp_zero]
  have k0 := cnt_le c0.testBit 0 8; have k1 := cnt_le c1.testBit 0 8; have k2 := cnt_le c2.testBit 0 8; have k3 := cnt_le c3.testBit 0 8
  have k4 := cnt_le c4.testBit 0 8; have k5 := cnt_le c5.testBit 0 8; have k6 := cnt_le c6.testBit 0 8; have k7 := cnt_le c7.testBit 0 8
  refine ⟨?_, by omega⟩
  rw [fin_eq _ _ _ _ _ _ _ _ k0 k1 k2 k3 k4 k5 k6 k7]
  unfold pc
  rw [show 64 = 8 + (8 + (8 + (8 + (8 + (8 + (8 + (8 + 0))))))) from rfl, cnt_byte _ _ _ l0, cnt_byte _ _ _ l1, cnt_byte _ _ _ l2, cnt_byte _ _ _ l3, cnt_byte _ _ _ l4, cnt_byte _ _ _ l5, cnt_byte _ _ _ l6, cnt_byte _ _ _ l7, cnt_none]
  omega

theorem pc_le (x : Nat) : pc x ≤ 64 := cnt_le _ _ _
theorem M85 : M 85 8 = 6148914691236517205 := by decide
theorem M51 : M 51 8 = 3689348814741910323 := by decide
theorem M15 : M 15 8 = 1085102592571150095 := by decide

theorem s1_lt (x : Nat) : s1 8 x < 18446744073709551616 := by
  unfold s1; rw [M85]
  have a : x / 2 &&& 6148914691236517205 ≤ 6148914691236517205 := Nat.and_le_right
  have b : x &&& 6148914691236517205 ≤ 6148914691236517205 := Nat.and_le_right
  omega
theorem s2_lt (x : Nat) : s2 8 x ≤ 7378697629483820646 := by
  unfold s2; rw [M51]
  have a : x / 4 &&& 3689348814741910323 ≤ 3689348814741910323 := Nat.and_le_right
  have b : x &&& 3689348814741910323 ≤ 3689348814741910323 := Nat.and_le_right
  omega

end Go.Proofs.YtiniadochjeieaaDoor.Bm

namespace Go.Proofs.YtiniadochjeieaaDoor.Bm

/-- The first of a, .., a + d - 1 that is in; -1: none. -/
def first (S : Nat → Bool) (a : Nat) : Nat → Int
  | 0 => -1
  | d + 1 => if S a then (a : Int) else first S (a + 1) d

theorem first_eq {S : Nat → Bool} {a d i : Nat} (h1 : a ≤ i) (h2 : i < a + d) (hi : S i = true) (hn : ∀ j, a ≤ j → j < i → S j = false) : first S a d = (i : Int) := by
  induction d generalizing a with
  | zero => omega
  | succ d ih =>
    unfold first
    by_cases e : a = i
    · subst e; rw [if_pos hi]
    · have : S a = false := hn a (Nat.le_refl _) (by omega)
      rw [this]
      exact ih (by omega) (by omega) (fun j hj1 hj2 => hn j (by omega) hj2)
theorem first_none {S : Nat → Bool} {a d : Nat} (hn : ∀ j, a ≤ j → j < a + d → S j = false) : first S a d = -1 := by
  induction d generalizing a with
  | zero => rfl
  | succ d ih =>
    unfold first
    have : S a = false := hn a (Nat.le_refl _) (by omega)
    rw [this]
    exact ih (fun j hj1 hj2 => hn j (by omega) (by omega))
theorem first_spec (S : Nat → Bool) (a d : Nat) : (first S a d = -1 ∧ ∀ j, a ≤ j → j < a + d → S j = false) ∨
    ∃ i : Nat, first S a d = (i : Int) ∧ a ≤ i ∧ i < a + d ∧ S i = true ∧ ∀ j, a ≤ j → j < i → S j = false := by
  induction d generalizing a with
  | zero => exact .inl ⟨rfl, fun j _ _ => by omega⟩
  | succ d ih =>
    unfold first
    cases ha : S a with
    | true => exact .inr ⟨a, by simp, Nat.le_refl _, by omega, ha, fun j _ _ => by omega⟩
    | false =>
      rcases ih (a + 1) with ⟨h1, h2⟩ | ⟨i, h1, h2, h3, h4, h5⟩
      · refine .inl ⟨by simpa using h1, fun j hj1 hj2 => ?_⟩
        by_cases e : j = a
        · subst e; exact ha
        · exact h2 j (by omega) (by omega)
      · refine .inr ⟨i, by simpa using h1, by omega, by omega, h4, fun j hj1 hj2 => ?_⟩
        by_cases e : j = a
        · subst e; exact ha
        · exact h5 j (by omega) hj2

/-- The least number that is in, from a number on. -/
def next (S : Nat → Bool) (n : Nat) (from' : Int) : Int := first (fun i => S i && decide (from' ≤ (i : Int))) 0 n
/-- How many are in, in a range. -/
def count (S : Nat → Bool) (n : Nat) (f t : Int) : Nat := cnt (fun i => S i && (decide (f ≤ (i : Int)) && decide ((i : Int) < t))) 0 n

theorem next_eq {S : Nat → Bool} {n i : Nat} {f : Int} (h1 : f ≤ (i : Int)) (h2 : i < n) (hi : S i = true) (hn : ∀ j : Nat, f ≤ (j : Int) → j < i → S j = false) : next S n f = (i : Int) := by
  refine first_eq (Nat.zero_le _) (by omega) (by simp [hi, h1]) (fun j _ hj => ?_)
  by_cases e : f ≤ (j : Int)
  · rw [hn j e hj]; rfl
  · simp [e]
theorem next_none {S : Nat → Bool} {n : Nat} {f : Int} (hn : ∀ j : Nat, f ≤ (j : Int) → j < n → S j = false) : next S n f = -1 := by
  refine first_none (fun j _ hj => ?_)
  by_cases e : f ≤ (j : Int)
  · rw [hn j e (by omega)]; rfl
  · simp [e]
theorem next_spec (S : Nat → Bool) (n : Nat) (f : Int) : (next S n f = -1 ∧ ∀ j : Nat, f ≤ (j : Int) → j < n → S j = false) ∨
    ∃ i : Nat, next S n f = (i : Int) ∧ f ≤ (i : Int) ∧ i < n ∧ S i = true ∧ ∀ j : Nat, f ≤ (j : Int) → j < i → S j = false := by
  rcases first_spec (fun i => S i && decide (f ≤ (i : Int))) 0 n with ⟨h1, h2⟩ | ⟨i, h1, _, h3, h4, h5⟩
  · refine .inl ⟨h1, fun j hj hj2 => ?_⟩
    have := h2 j (Nat.zero_le _) (by omega)
    simpa [hj] using this
  · simp only [Bool.and_eq_true, decide_eq_true_eq] at h4
    refine .inr ⟨i, h1, h4.2, by omega, h4.1, fun j hj hj2 => ?_⟩
    have := h5 j (Nat.zero_le _) hj2
    simpa [hj] using this

theorem next_clip (S : Nat → Bool) (n : Nat) (f : Int) : next S n (max f 0) = next S n f := by
  unfold next
  congr 1
  funext i
  have : decide (max f 0 ≤ (i : Int)) = decide (f ≤ (i : Int)) := by
    by_cases h : f ≤ (i : Int)
    · rw [decide_eq_true h, decide_eq_true (by omega)]
    · rw [decide_eq_false h, decide_eq_false (by omega)]
  rw [this]
theorem count_all (S : Nat → Bool) (n : Nat) : count S n 0 n = cnt S 0 n := by
  unfold count
  apply cnt_congr
  intro i _ h2
  have a : decide ((0 : Int) ≤ (i : Int)) = true := decide_eq_true (by omega)
  have b : decide ((i : Int) < (n : Int)) = true := decide_eq_true (by omega)
  rw [a, b]; simp
theorem count_clip (S : Nat → Bool) (n : Nat) (f t : Int) : count S n (max f 0) (min t n) = count S n f t := by
  unfold count
  apply cnt_congr
  intro i _ h2
  have a : decide (max f 0 ≤ (i : Int)) = decide (f ≤ (i : Int)) := by
    by_cases h : f ≤ (i : Int)
    · rw [decide_eq_true h, decide_eq_true (by omega)]
    · rw [decide_eq_false h, decide_eq_false (by omega)]
  have b : decide ((i : Int) < min t n) = decide ((i : Int) < t) := by
    by_cases h : (i : Int) < t
    · rw [decide_eq_true h, decide_eq_true (by omega)]
    · rw [decide_eq_false h, decide_eq_false (by omega)]
  rw [a, b]

/-! ### A word's lowest bit -/
theorem ctz_bit (x : Nat) (h0 : x ≠ 0) (h : x < 18446744073709551616) : Lib.ctz 64 x < 64 ∧ x.testBit (Lib.ctz 64 x) = true ∧ ∀ j, j < Lib.ctz 64 x → x.testBit j = false := by
  obtain ⟨m, hm, hk⟩ := Lib.ctzFrom_spec 64 x (by omega) h
  have e : Lib.ctz 64 x = Lib.ctzFrom 64 x := by simp [Lib.ctz, h0]
  rw [e]
  generalize Lib.ctzFrom 64 x = c at *
  subst hm
  refine ⟨hk, ?_, fun j hj => ?_⟩
  · rw [Nat.mul_comm, Nat.testBit_mul_two_pow]
    simp
  · rw [Nat.mul_comm, Nat.testBit_mul_two_pow]
    simp; omega

/-! ### A row's word under its part -/
/-- The word k of the rows, cut to its part of a range, bit by bit. -/
theorem word_bit (rows : List Nat) (n : Nat) (S : Nat → Bool) (hS : ∀ i, i < n → (rows.getD (i / 64) 0).testBit (i % 64) = S i) (k f t j : Nat) (ht : t ≤ n) (hj : j < 64) :
    (rows.getD k 0 &&& partN k f t).testBit j = (S (j + k * 64) && (decide (f ≤ j + k * 64) && decide (j + k * 64 < t))) := by
  rw [Nat.testBit_and, partN_bit, show decide (j < 64) = true from decide_eq_true hj, Bool.true_and, show k * 64 + j = j + k * 64 by omega]
  by_cases h : j + k * 64 < t
  · have := hS (j + k * 64) (by omega)
    rw [show (j + k * 64) / 64 = k by omega, show (j + k * 64) % 64 = j by omega] at this
    rw [this]
  · rw [decide_eq_false h]; simp
theorem word_pc (rows : List Nat) (n : Nat) (S : Nat → Bool) (hS : ∀ i, i < n → (rows.getD (i / 64) 0).testBit (i % 64) = S i) (k f t : Nat) (ht : t ≤ n) :
    pc (rows.getD k 0 &&& partN k f t) = cnt (fun i => S i && (decide (f ≤ i) && decide (i < t))) (k * 64) 64 := by
  unfold pc
  rw [show k * 64 = 0 + k * 64 by omega, cnt_shift]
  apply cnt_congr
  intro j _ hj
  exact word_bit rows n S hS k f t j ht (by omega)
theorem word_lt (rows : List Nat) (k f t : Nat) : rows.getD k 0 &&& partN k f t < 18446744073709551616 := Nat.lt_of_le_of_lt Nat.and_le_right (partN_lt _ _ _)
/-- No bit of the word k is left: nothing of S between. -/
theorem word_zero (rows : List Nat) (n : Nat) (S : Nat → Bool) (hS : ∀ i, i < n → (rows.getD (i / 64) 0).testBit (i % 64) = S i) (k f t : Nat) (ht : t ≤ n)
    (h0 : rows.getD k 0 &&& partN k f t = 0) : ∀ i, k * 64 ≤ i → i < k * 64 + 64 → f ≤ i → i < t → S i = false := by
  intro i h1 h2 h3 h4
  have := word_bit rows n S hS k f t (i - k * 64) ht (by omega)
  rw [h0, show i - k * 64 + k * 64 = i by omega, decide_eq_true h3, decide_eq_true h4] at this
  simpa using this.symm
theorem word_first (rows : List Nat) (n : Nat) (S : Nat → Bool) (hS : ∀ i, i < n → (rows.getD (i / 64) 0).testBit (i % 64) = S i) (k f : Nat)
    (h0 : rows.getD k 0 &&& partN k f n ≠ 0) (hb : ∀ i, f ≤ i → i < k * 64 → S i = false) :
    next S n f = ((k * 64 + Lib.ctz 64 (rows.getD k 0 &&& partN k f n) : Nat) : Int) ∧ Lib.ctz 64 (rows.getD k 0 &&& partN k f n) < 64 := by
  obtain ⟨c1, c2, c3⟩ := ctz_bit _ h0 (word_lt rows k f n)
  generalize hc : Lib.ctz 64 (rows.getD k 0 &&& partN k f n) = c at *
  refine ⟨?_, c1⟩
  have hb1 := word_bit rows n S hS k f n c (Nat.le_refl _) c1
  rw [c2] at hb1
  have hb2 := hb1.symm
  simp only [Bool.and_eq_true, decide_eq_true_eq] at hb2
  obtain ⟨b1, b2, b3⟩ := hb2
  rw [show k * 64 + c = c + k * 64 by omega]
  refine next_eq (by omega) b3 b1 (fun j hj1 hj2 => ?_)
  by_cases e : j < k * 64
  · exact hb j (by omega) e
  · have := word_bit rows n S hS k f n (j - k * 64) (Nat.le_refl _) (by omega)
    rw [c3 _ (by omega), show j - k * 64 + k * 64 = j by omega, decide_eq_true (by omega : f ≤ j), decide_eq_true (by omega : j < n)] at this
    simpa using this.symm

/-- The count over the words from a up to, not with, b is the count over a range within them. -/
theorem count_words (S : Nat → Bool) (n f t b : Nat) (ht : t ≤ n) (hb : t ≤ b * 64) (hfb : f / 64 ≤ b) :
    cnt (fun i => S i && (decide (f ≤ i) && decide (i < t))) (f / 64 * 64) ((b - f / 64) * 64) = count S n f t := by
  have e0 : count S n f t = cnt (fun i => S i && (decide (f ≤ i) && decide (i < t))) 0 n := by
    unfold count
    apply cnt_congr
    intro i _ _
    have a : decide ((f : Int) ≤ (i : Int)) = decide (f ≤ i) := by simp
    have b : decide ((i : Int) < (t : Int)) = decide (i < t) := by simp
    rw [a, b]
  rw [e0]
  have z1 : cnt (fun i => S i && (decide (f ≤ i) && decide (i < t))) 0 (f / 64 * 64) = 0 := by
    apply cnt_zero
    intro i _ h2
    have : decide (f ≤ i) = false := decide_eq_false (by omega)
    rw [this]; simp
  by_cases hc : b * 64 ≤ n
  · have z2 : cnt (fun i => S i && (decide (f ≤ i) && decide (i < t))) (b * 64) (n - b * 64) = 0 := by
      apply cnt_zero
      intro i h1 h2
      have : decide (i < t) = false := decide_eq_false (by omega)
      rw [this]; simp
    have e1 := cnt_add (fun i => S i && (decide (f ≤ i) && decide (i < t))) 0 (f / 64 * 64) ((b - f / 64) * 64)
    have e2 := cnt_add (fun i => S i && (decide (f ≤ i) && decide (i < t))) 0 (b * 64) (n - b * 64)
    rw [show f / 64 * 64 + (b - f / 64) * 64 = b * 64 by rw [← Nat.add_mul]; congr 1; omega, z1] at e1
    rw [Nat.zero_add, z2, show b * 64 + (n - b * 64) = n by omega] at e2
    simp only [Nat.zero_add] at e1
    omega
  · have z2 : cnt (fun i => S i && (decide (f ≤ i) && decide (i < t))) n (b * 64 - n) = 0 := by
      apply cnt_zero
      intro i h1 h2
      have : decide (i < t) = false := decide_eq_false (by omega)
      rw [this]; simp
    have e1 := cnt_add (fun i => S i && (decide (f ≤ i) && decide (i < t))) 0 (f / 64 * 64) ((b - f / 64) * 64)
    have e2 := cnt_add (fun i => S i && (decide (f ≤ i) && decide (i < t))) 0 n (b * 64 - n)
    rw [show f / 64 * 64 + (b - f / 64) * 64 = b * 64 by rw [← Nat.add_mul]; congr 1; omega, z1] at e1
    rw [Nat.zero_add, z2, show n + (b * 64 - n) = b * 64 by omega] at e2
    simp only [Nat.zero_add] at e1
    omega

/-! ### Gaps -/
/-- k behind one another, from i on, are below n and out. -/
def fits (S : Nat → Bool) (n : Nat) (k : Int) (i : Nat) : Bool := decide ((i : Int) + k ≤ (n : Int)) && (cnt S i k.toNat == 0)
/-- The least number, from a number on, from which k ones are out; -1: there is none, or k is below 1. -/
def gap (S : Nat → Bool) (n : Nat) (f k : Int) : Int := if k < 1 then -1 else first (fun i => decide (f ≤ (i : Int)) && fits S n k i) 0 n

theorem fits_iff (S : Nat → Bool) (n K i : Nat) : fits S n K i = true ↔ i + K ≤ n ∧ ∀ j, i ≤ j → j < i + K → S j = false := by
  unfold fits
  rw [Int.toNat_natCast, Bool.and_eq_true, decide_eq_true_eq, beq_iff_eq]
  constructor
  · intro ⟨h1, h2⟩; exact ⟨by omega, fun j a b => cnt_eq_zero h2 j a b⟩
  · intro ⟨h1, h2⟩; exact ⟨by omega, cnt_zero h2⟩

theorem gap_eq {S : Nat → Bool} {n K i : Nat} {f : Int} (hK : 1 ≤ K) (h1 : f ≤ (i : Int)) (h2 : fits S n K i = true) (hn : ∀ j : Nat, f ≤ (j : Int) → j < i → fits S n K j = false) : gap S n f K = (i : Int) := by
  unfold gap
  rw [if_neg (by omega)]
  have hb := ((fits_iff S n K i).1 h2).1
  refine first_eq (Nat.zero_le _) (by omega) (by rw [h2, decide_eq_true h1]; rfl) (fun j _ hj => ?_)
  by_cases e : f ≤ (j : Int)
  · rw [hn j e hj]; simp
  · rw [decide_eq_false e]; rfl
theorem gap_none {S : Nat → Bool} {n K : Nat} {f : Int} (hK : 1 ≤ K) (hn : ∀ j : Nat, f ≤ (j : Int) → fits S n K j = false) : gap S n f K = -1 := by
  unfold gap
  rw [if_neg (by omega)]
  refine first_none (fun j _ _ => ?_)
  by_cases e : f ≤ (j : Int)
  · rw [hn j e]; simp
  · rw [decide_eq_false e]; rfl
theorem gap_low (S : Nat → Bool) (n : Nat) (f k : Int) (h : k < 1) : gap S n f k = -1 := by unfold gap; rw [if_pos h]
theorem gap_high (S : Nat → Bool) (n : Nat) (f k : Int) (h : (n : Int) < k) : gap S n f k = -1 := by
  obtain ⟨K, rfl⟩ : ∃ K : Nat, k = K := ⟨k.toNat, by omega⟩
  refine gap_none (by omega) (fun j _ => ?_)
  cases hf : fits S n K j with
  | false => rfl
  | true => have := ((fits_iff S n K j).1 hf).1; omega
theorem gap_clip (S : Nat → Bool) (n : Nat) (f k : Int) : gap S n (max f 0) k = gap S n f k := by
  unfold gap
  split
  · rfl
  · congr 1
    funext i
    have : decide (max f 0 ≤ (i : Int)) = decide (f ≤ (i : Int)) := by
      by_cases h : f ≤ (i : Int)
      · rw [decide_eq_true h, decide_eq_true (by omega)]
      · rw [decide_eq_false h, decide_eq_false (by omega)]
    rw [this]
/-- A number that is in lies in the way of all from which it is reached. -/
theorem fits_blocked {S : Nat → Bool} {n K i x : Nat} (hx : S x = true) (h1 : i ≤ x) (h2 : x < i + K) : fits S n K i = false := by
  cases hf : fits S n K i with
  | false => rfl
  | true => have := ((fits_iff S n K i).1 hf).2 x h1 h2; rw [hx] at this; cases this
end Go.Proofs.YtiniadochjeieaaDoor.Bm
