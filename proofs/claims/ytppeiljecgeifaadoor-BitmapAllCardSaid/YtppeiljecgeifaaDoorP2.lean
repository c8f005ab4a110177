/-
  The sum that math/bits.OnesCount64 makes is the number of set bits. Plain; no program is in sight.
-/
import Derived.Test.YtppeiljecgeifaaDoorP1
namespace Go.Proofs.YtppeiljecgeifaaDoor.Bm

theorem cnt_none (S : Nat → Bool) (a : Nat) : cnt S a 0 = 0 := rfl
/-- How many bits of a number of 64 bits are set. -/
def pc (x : Nat) : Nat := cnt x.testBit 0 64

theorem add_bit (q c j : Nat) (hc : c < 256) : (256 * q + c).testBit j = if j < 8 then c.testBit j else q.testBit (j - 8) :=
  Nat.testBit_two_pow_mul_add q (i := 8) hc j

theorem land_byte (a b c d : Nat) (hc : c < 256) (hd : d < 256) : (256 * a + c) &&& (256 * b + d) = 256 * (a &&& b) + (c &&& d) := by
  apply Nat.eq_of_testBit_eq
  intro j
  have hcd : c &&& d < 256 := Nat.lt_of_le_of_lt Nat.and_le_left hc
  rw [Nat.testBit_and, add_bit a c j hc, add_bit b d j hd, add_bit _ _ j hcd]
  split <;> rw [Nat.testBit_and]

/-- n bytes b. -/
def M (b : Nat) : Nat → Nat
  | 0 => 0
  | n + 1 => 256 * M b n + b

theorem M_succ (b n : Nat) : M b (n + 1) = 256 * M b n + b := rfl
def s1 (n x : Nat) : Nat := (x / 2 &&& M 85 n) + (x &&& M 85 n)
def s2 (n x : Nat) : Nat := (x / 4 &&& M 51 n) + (x &&& M 51 n)
def s3 (n x : Nat) : Nat := (x / 16 + x) &&& M 15 n
def t1 (c : Nat) : Nat := (c / 2 &&& 85) + (c &&& 85)
def t2 (c : Nat) : Nat := (c / 4 &&& 51) + (c &&& 51)
def t3 (c : Nat) : Nat := (c / 16 + c) &&& 15

theorem t1_lt : ∀ c, c < 256 → t1 c < 256 := by decide +kernel
theorem t2_lt : ∀ c, c < 256 → t2 (t1 c) < 69 ∧ t2 (t1 c) % 16 ≤ 4 ∧ t2 (t1 c) / 16 ≤ 4 := by decide +kernel
theorem t3_eq : ∀ c, c < 256 → t3 (t2 (t1 c)) = cnt c.testBit 0 8 := by decide +kernel
theorem h1 : ∀ b, b < 2 → ∀ c, c < 256 → (128 * b + c / 2) &&& 85 = c / 2 &&& 85 := by decide +kernel
theorem h2 : ∀ b, b < 4 → ∀ c, c < 256 → (64 * b + c / 4) &&& 51 = c / 4 &&& 51 := by decide +kernel
theorem h3 : ∀ b, b < 5 → ∀ c, c < 69 → (16 * b + (c / 16 + c)) &&& 15 = (c / 16 + c) &&& 15 := by decide +kernel

theorem s1_rec (n q c : Nat) (hc : c < 256) : s1 (n + 1) (256 * q + c) = 256 * s1 n q + t1 c := by
  unfold s1 t1
  rw [M_succ]
  have e : (256 * q + c) / 2 = 256 * (q / 2) + (128 * (q % 2) + c / 2) := by omega
  rw [e, land_byte _ _ _ _ (by omega) (by decide), land_byte _ _ _ _ hc (by decide), h1 _ (Nat.mod_lt _ (by decide)) c hc]
  omega

theorem s2_rec (n q c : Nat) (hc : c < 256) : s2 (n + 1) (256 * q + c) = 256 * s2 n q + t2 c := by
  unfold s2 t2
  rw [M_succ]
  have e : (256 * q + c) / 4 = 256 * (q / 4) + (64 * (q % 4) + c / 4) := by omega
  rw [e, land_byte _ _ _ _ (by omega) (by decide), land_byte _ _ _ _ hc (by decide), h2 _ (Nat.mod_lt _ (by decide)) c hc]
  omega

theorem s3_rec (n q c : Nat) (hc : c < 69) (hq : q % 16 ≤ 4) : s3 (n + 1) (256 * q + c) = 256 * s3 n q + t3 c := by
  unfold s3 t3
  rw [M_succ]
  have e : (256 * q + c) / 16 + (256 * q + c) = 256 * (q / 16 + q) + (16 * (q % 16) + (c / 16 + c)) := by omega
  rw [e, land_byte _ _ _ _ (by omega) (by decide), h3 _ (by omega) c hc]

def comp (n x : Nat) : Nat := s3 n (s2 n (s1 n x))

theorem low4 (n q : Nat) : s2 n (s1 n q) % 16 ≤ 4 := by
  cases n with
  | zero => simp [s2, s1, M]
  | succ n =>
    have hc : q % 256 < 256 := Nat.mod_lt _ (by decide)
    have e : q = 256 * (q / 256) + q % 256 := by omega
    rw [e, s1_rec n _ _ hc, s2_rec n _ _ (t1_lt _ hc)]
    have := (t2_lt _ hc).2.1
    omega

theorem comp_rec (n q c : Nat) (hc : c < 256) : comp (n + 1) (256 * q + c) = 256 * comp n q + cnt c.testBit 0 8 := by
  unfold comp
  have h := t2_lt c hc
  rw [s1_rec n q c hc, s2_rec n _ _ (t1_lt c hc), s3_rec n _ _ h.1 (low4 n q), t3_eq c hc]

theorem comp_zero (x : Nat) : comp 0 x = 0 := by simp [comp, s3, M]

theorem cnt_byte (q c n : Nat) (hc : c < 256) : cnt (256 * q + c).testBit 0 (8 + n) = cnt c.testBit 0 8 + cnt q.testBit 0 n := by
  rw [cnt_add]
  congr 1
  · apply cnt_congr
    intro i _ h2
    rw [add_bit q c i hc, if_pos (by omega)]
  · rw [show 0 + 8 = 0 + 8 from rfl, cnt_shift]
    apply cnt_congr
    intro i _ _
    rw [add_bit q c _ hc, if_neg (by omega), Nat.add_sub_cancel]

/-- What the last four lines make of it. -/
def fin (y : Nat) : Nat :=
  let a := y + y / 256
  let b := a + a / 65536
  (b + b / 4294967296) % 128

theorem div_of {X m c r : Nat} (h : X = m * c + r) (hr : r < m) : X / m = c := by
  rw [h, Nat.mul_add_div (by omega), Nat.div_eq_of_lt hr]; rfl
theorem mod_of {X m c r : Nat} (h : X = m * c + r) (hr : r < m) : X % m = r := by
  rw [h, Nat.mul_add_mod, Nat.mod_eq_of_lt hr]

theorem fin_eq (b0 b1 b2 b3 b4 b5 b6 b7 : Nat) (h0 : b0 ≤ 8) (h1 : b1 ≤ 8) (h2 : b2 ≤ 8) (h3 : b3 ≤ 8) (h4 : b4 ≤ 8) (h5 : b5 ≤ 8) (h6 : b6 ≤ 8) (h7 : b7 ≤ 8) :
    fin (256 * (256 * (256 * (256 * (256 * (256 * (256 * (256 * 0 + b7) + b6) + b5) + b4) + b3) + b2) + b1) + b0) = b0 + b1 + b2 + b3 + b4 + b5 + b6 + b7 := by
  obtain ⟨y, hy⟩ : ∃ y, y = 256 * (256 * (256 * (256 * (256 * (256 * (256 * (256 * 0 + b7) + b6) + b5) + b4) + b3) + b2) + b1) + b0 := ⟨_, rfl⟩
  have e1 : y / 256 = 256 * (256 * (256 * (256 * (256 * (256 * b7 + b6) + b5) + b4) + b3) + b2) + b1 := div_of (r := b0) (by omega) (by omega)
  obtain ⟨a, ha⟩ : ∃ a, a = y + (256 * (256 * (256 * (256 * (256 * (256 * b7 + b6) + b5) + b4) + b3) + b2) + b1) := ⟨_, rfl⟩
  have e2 : a / 65536 = (b2 + b3) + 256 * (b3 + b4) + 65536 * (b4 + b5) + 16777216 * (b5 + b6) + 4294967296 * (b6 + b7) + 1099511627776 * b7 :=
    div_of (r := b0 + b1 + 256 * (b1 + b2)) (by omega) (by omega)
  obtain ⟨b, hb⟩ : ∃ b, b = a + ((b2 + b3) + 256 * (b3 + b4) + 65536 * (b4 + b5) + 16777216 * (b5 + b6) + 4294967296 * (b6 + b7) + 1099511627776 * b7) := ⟨_, rfl⟩
  have e3 : b / 4294967296 = (b4 + b5 + b6 + b7) + 256 * (b5 + b6 + b7) + 65536 * (b6 + b7) + 16777216 * b7 :=
    div_of (r := (b0 + b1 + b2 + b3) + 256 * (b1 + b2 + b3 + b4) + 65536 * (b2 + b3 + b4 + b5) + 16777216 * (b3 + b4 + b5 + b6)) (by omega) (by omega)
  simp only [fin]
  rw [← hy, e1, ← ha, e2, ← hb, e3]
  exact mod_of (c := 2 * ((b1 + b2 + b3 + b4) + 256 * (b2 + b3 + b4 + b5) + 65536 * (b3 + b4 + b5 + b6) + 16777216 * (b4 + b5 + b6 + b7) + 4294967296 * (b5 + b6 + b7) + 1099511627776 * (b6 + b7) + 281474976710656 * b7) + 2 * ((b5 + b6 + b7) + 256 * (b6 + b7) + 65536 * b7)) (by omega) (by omega)

theorem split8 (x : Nat) (h : x < 18446744073709551616) : ∃ c0 c1 c2 c3 c4 c5 c6 c7, c0 < 256 ∧ c1 < 256 ∧ c2 < 256 ∧ c3 < 256 ∧ c4 < 256 ∧ c5 < 256 ∧ c6 < 256 ∧ c7 < 256 ∧
    x = 256 * (256 * (256 * (256 * (256 * (256 * (256 * (256 * 0 + c7) + c6) + c5) + c4) + c3) + c2) + c1) + c0 :=
  ⟨x % 256, x / 256 % 256, x / 256 / 256 % 256, x / 256 / 256 / 256 % 256, x / 256 / 256 / 256 / 256 % 256, x / 256 / 256 / 256 / 256 / 256 % 256,
    x / 256 / 256 / 256 / 256 / 256 / 256 % 256, x / 256 / 256 / 256 / 256 / 256 / 256 / 256 % 256, by omega, by omega, by omega, by omega, by omega, by omega, by omega, by omega, by omega⟩

theorem comp_eq (x : Nat) (h : x < 18446744073709551616) : fin (comp 8 x) = pc x ∧ comp 8 x < 1000000000000000000 := by
  obtain ⟨c0, c1, c2, c3, c4, c5, c6, c7, l0, l1, l2, l3, l4, l5, l6, l7, rfl⟩ := split8 x h
  rw [comp_rec 7 _ _ l0, comp_rec 6 _ _ l1, comp_rec 5 _ _ l2, comp_rec 4 _ _ l3, comp_rec 3 _ _ l4, comp_rec 2 _ _ l5, comp_rec 1 _ _ l6, comp_rec 0 _ _ l7, comp_zero]
  have k0 := cnt_le c0.testBit 0 8; have k1 := cnt_le c1.testBit 0 8; have k2 := cnt_le c2.testBit 0 8; have k3 := cnt_le c3.testBit 0 8
  have k4 := cnt_le c4.testBit 0 8; have k5 := cnt_le c5.testBit 0 8; have k6 := cnt_le c6.testBit 0 8; have k7 := cnt_le c7.testBit 0 8
  refine ⟨?_, by omega⟩
  rw [fin_eq _ _ _ _ _ _ _ _ k0 k1 k2 k3 k4 k5 k6 k7]
  unfold pc
  rw [show 64 = 8 + (8 + (8 + (8 + (8 + (8 + (8 + (8 + 0))))))) from rfl, cnt_byte _ _ _ l0, cnt_byte _ _ _ l1, cnt_byte _ _ _ l2, cnt_byte _ _ _ l3, cnt_byte _ _ _ l4, cnt_byte _ _ _ l5, cnt_byte _ _ _ l6, cnt_byte _ _ _ l7, cnt_none]
  omega

theorem pc_le (x : Nat) : pc x ≤ 64 := cnt_le _ _ _
theorem M85 : M 85 8 = 6148914691236517205 := by decide
theorem M51 : M 51 8 = 3689348814741910323 := by decide
theorem M15 : M 15 8 = 1085102592571150095 := by decide

theorem s1_lt (x : Nat) : s1 8 x < 18446744073709551616 := by
  unfold s1; rw [M85]
  have a : x / 2 &&& 6148914691236517205 ≤ 6148914691236517205 := Nat.and_le_right
  have b : x &&& 6148914691236517205 ≤ 6148914691236517205 := Nat.and_le_right
  omega
theorem s2_lt (x : Nat) : s2 8 x ≤ 7378697629483820646 := by
  unfold s2; rw [M51]
  have a : x / 4 &&& 3689348814741910323 ≤ 3689348814741910323 := Nat.and_le_right
  have b : x &&& 3689348814741910323 ≤ 3689348814741910323 := Nat.and_le_right
  omega

end Go.Proofs.YtppeiljecgeifaaDoor.Bm
