/-
  What a map of bits is in memory, and what a call may have turned. No walk.
-/
import Derived.Laws.Bits64b
import Derived.Laws.Bits64
import Derived.Lib.TrailingZeros
import Derived.Test.YtfbcdmhmpfijjaaGreatDoorRows
import Derived.WalkKit
import Derived.Outline
import Derived.WalkSpells
import Derived.WalkLawsBesides
import Derived.Lib.Hide
import Derived.Shelf.Spec.TrailingZeros
import Derived.Below
import Derived.Laws.MakeOwn
import Derived.WalkSmall
import Derived.OneCell
set_option linter.unusedVariables false
set_option linter.unusedSimpArgs false
set_option linter.unusedSectionVars false
namespace Go.Proofs.YtfbcdmhmpfijjaaGreatDoor.Bm
/-! ### Counting -/
def cnt (S:Nat → Bool) (a:Nat):Nat → Nat
 | 0 => 0
 | n + 1 => cnt S a n + (S (a + n)).toNat
theorem cnt_congr {S T:Nat → Bool} {a n:Nat} (h:∀ i,a ≤ i → i < a + n → S i=T i):cnt S a n=cnt T a n:=by
 induction n with
 | zero => rfl
 | succ n ih => simp only [cnt];rw [ih (fun i h1 h2 => h i h1 (by omega)),h (a + n) (by omega) (by omega)]
theorem cnt_add (S:Nat → Bool) (a n m:Nat):cnt S a (n + m)=cnt S a n + cnt S (a + n) m:=by
 induction m with
 | zero => rfl
 | succ m ih => rw [← Nat.add_assoc];simp only [cnt];rw [ih,Nat.add_assoc,Nat.add_assoc]
theorem cnt_shift (S:Nat → Bool) (d a n:Nat):cnt S (a + d) n=cnt (fun j => S (j + d)) a n:=by
 induction n with
 | zero => rfl
 | succ n ih => simp only [cnt];rw [ih,show a + d + n=a + n + d by omega]
theorem cnt_le (S:Nat → Bool) (a n:Nat):cnt S a n ≤ n:=by
 induction n with
 | zero => simp [cnt]
 | succ n ih => simp only [cnt];have:=Bool.toNat_le (S (a + n));omega
theorem cnt_zero {S:Nat → Bool} {a n:Nat} (h:∀ i,a ≤ i → i < a + n → S i=false):cnt S a n=0:=by
 induction n with
 | zero => rfl
 | succ n ih => simp only [cnt];rw [ih (fun i h1 h2 => h i h1 (by omega)),h (a + n) (by omega) (by omega)];rfl
theorem cnt_eq_zero {S:Nat → Bool} {a n:Nat} (h:cnt S a n=0):∀ i,a ≤ i → i < a + n → S i=false:=by
 induction n with
 | zero => intro i h1 h2;omega
 | succ n ih =>
  simp only [cnt] at h
  intro i h1 h2
  by_cases e:i=a + n
  ·subst e
   cases hs:S (a + n) with
   | false => rfl
   | true => rw [hs] at h;simp at h
  ·exact ih (by omega) i h1 (by omega)
/-! ### Masks -/
def mask (lo hi:Nat):Nat:=(2 ^ (hi - lo) - 1) * 2 ^ lo
theorem mask_bit (lo hi j:Nat):(mask lo hi).testBit j=(decide (lo ≤ j) && decide (j < hi)):=by
 unfold mask
 rw [Nat.testBit_mul_two_pow,Nat.testBit_two_pow_sub_one]
 by_cases h:lo ≤ j
 ·simp only [h,decide_true,Bool.true_and]
  by_cases h2:j < hi
  ·simp only [h2,decide_true];exact decide_eq_true (by omega)
  ·simp only [h2,decide_false];exact decide_eq_false (by omega)
 ·simp [h]
theorem lt_of_bits {x:Nat} (h:∀ j,64 ≤ j → x.testBit j=false):x < 18446744073709551616:=by
 have:x < 2 ^ 64:=Nat.lt_pow_two_of_testBit x h
 simpa using this
theorem bit_of_lt {x:Nat} (h:x < 18446744073709551616) {j:Nat} (hj:64 ≤ j):x.testBit j=false :=
 Nat.testBit_lt_two_pow (Nat.lt_of_lt_of_le (by simpa using h:x < 2 ^ 64) (Nat.pow_le_pow_right (by decide) hj))
theorem mask_lt (lo:Nat) {hi:Nat} (h:hi ≤ 64):mask lo hi < 18446744073709551616 :=
 lt_of_bits fun j hj => by rw [mask_bit];simp;omega
theorem or_lt {a b:Nat} (ha:a < 18446744073709551616) (hb:b < 18446744073709551616):a ||| b < 18446744073709551616 :=
 lt_of_bits fun j hj => by rw [Nat.testBit_or,bit_of_lt ha hj,bit_of_lt hb hj];rfl
theorem mask_and (lo hi:Nat):mask lo 64 &&& mask 0 hi=mask lo (min hi 64):=by
 apply Nat.eq_of_testBit_eq
 intro j
 rw [Nat.testBit_and,mask_bit,mask_bit,mask_bit]
 simp only [Nat.zero_le,decide_true,Bool.true_and]
 by_cases h1:lo ≤ j <;> by_cases h2:j < 64 <;> by_cases h3:j < hi <;> simp [h1,h2,h3,Nat.lt_min]
def partN (k f t:Nat):Nat:=mask (f - k * 64) (min (t - k * 64) 64)
theorem partN_bit (k f t j:Nat):(partN k f t).testBit j=(decide (j < 64) && (decide (f ≤ k * 64 + j) && decide (k * 64 + j < t))):=by
 unfold partN
 rw [mask_bit]
 by_cases h1:j < 64 <;> by_cases h2:f ≤ k * 64 + j <;> by_cases h3:k * 64 + j < t <;> simp [h1,h2,h3,Nat.lt_min] <;> omega
theorem partN_lt (k f t:Nat):partN k f t < 18446744073709551616:=mask_lt _ (Nat.min_le_right _ _)
/-! ### The walk's forms -/
theorem shl_all (a:Nat) (h:a ≤ 63):IntKind.u64.wrap (18446744073709551615 * 2 ^ a)=((mask a 64:Nat):Int):=by
 rw [IntKind.wrap_u64]
 have h1:(2:Nat) ^ (64 - a) * 2 ^ a=18446744073709551616:=by rw [← Nat.pow_add,show 64 - a + a=64 by omega]
 have hp:0 < 2 ^ a:=Nat.pow_pos (by decide)
 have hle:2 ^ a ≤ 2 ^ 63:=Nat.pow_le_pow_right (by decide) h
 unfold mask
 rw [Nat.sub_mul,h1,Nat.one_mul]
 have e:((2:Int) ^ a)=((2 ^ a:Nat):Int):=by simp
 rw [e]
 generalize 2 ^ a=p at *
 omega
theorem shl_one (b:Nat) (h:b ≤ 63):IntKind.u64.wrap (IntKind.u64.wrap (2 ^ b) - 1)=((mask 0 b:Nat):Int):=by
 rw [IntKind.wrap_u64,IntKind.wrap_u64]
 have hp:0 < 2 ^ b:=Nat.pow_pos (by decide)
 have hle:2 ^ b ≤ 2 ^ 63:=Nat.pow_le_pow_right (by decide) h
 unfold mask
 have e:((2:Int) ^ b)=((2 ^ b:Nat):Int):=by simp
 rw [e]
 simp only [Nat.sub_zero,Nat.pow_zero,Nat.mul_one]
 generalize 2 ^ b=p at *
 omega
theorem bits_andNot_u64_nat (a b:Nat) (ha:a < 18446744073709551616) (_hb:b < 18446744073709551616) :
 bits .andNot .u64 (a:Int) (b:Int)=((a ^^^ (a &&& b):Nat):Int):=by
 have ea:(BitVec.ofInt 64 (a:Int))=BitVec.ofNat 64 a:=by simp
 have eb:(BitVec.ofInt 64 (b:Int))=BitVec.ofNat 64 b:=by simp
 have hx:(BitVec.ofInt 64 (a:Int) &&& ~~~(BitVec.ofInt 64 (b:Int))).toNat=a ^^^ (a &&& b):=by
  rw [ea,eb]
  apply Nat.eq_of_testBit_eq
  intro j
  rw [BitVec.testBit_toNat,Nat.testBit_xor,Nat.testBit_and]
  by_cases hj:j < 64
  ·rw [BitVec.getLsbD_and,BitVec.getLsbD_not,BitVec.getLsbD_ofNat,BitVec.getLsbD_ofNat]
   simp only [hj,decide_true,Bool.true_and]
   cases a.testBit j <;> cases b.testBit j <;> rfl
  ·rw [BitVec.getLsbD_of_ge _ _ (by omega),bit_of_lt ha (by omega)];rfl
 unfold bits
 show IntKind.u64.wrap ((BitVec.ofInt 64 (a:Int) &&& ~~~(BitVec.ofInt 64 (b:Int))).toNat:Int)=_
 rw [hx,IntKind.wrap_u64]
 have hlt:a ^^^ (a &&& b) < 18446744073709551616:=lt_of_bits fun j hj => by rw [Nat.testBit_xor,Nat.testBit_and,bit_of_lt ha hj];rfl
 omega
theorem andNot_bit (a b j:Nat):(a ^^^ (a &&& b)).testBit j=(a.testBit j && !b.testBit j):=by
 rw [Nat.testBit_xor,Nat.testBit_and]
 cases a.testBit j <;> cases b.testBit j <;> rfl
theorem andNot_lt {a b:Nat} (ha:a < 18446744073709551616):a ^^^ (a &&& b) < 18446744073709551616 :=
 lt_of_bits fun j hj => by rw [andNot_bit,bit_of_lt ha hj];rfl
end Go.Proofs.YtfbcdmhmpfijjaaGreatDoor.Bm
namespace Go.Proofs.YtfbcdmhmpfijjaaGreatDoor.Bm
theorem cnt_none (S:Nat → Bool) (a:Nat):cnt S a 0=0:=rfl
def pc (x:Nat):Nat:=cnt x.testBit 0 64
theorem add_bit (q c j:Nat) (hc:c < 256):(256 * q + c).testBit j=if j < 8 then c.testBit j else q.testBit (j - 8) :=
 Nat.testBit_two_pow_mul_add q (i:=8) hc j
theorem land_byte (a b c d:Nat) (hc:c < 256) (hd:d < 256):(256 * a + c) &&& (256 * b + d)=256 * (a &&& b) + (c &&& d):=by
 apply Nat.eq_of_testBit_eq
 intro j
 have hcd:c &&& d < 256:=Nat.lt_of_le_of_lt Nat.and_le_left hc
 rw [Nat.testBit_and,add_bit a c j hc,add_bit b d j hd,add_bit _ _ j hcd]
 split <;> rw [Nat.testBit_and]
def M (b:Nat):Nat → Nat
 | 0 => 0
 | n + 1 => 256 * M b n + b
theorem M_succ (b n:Nat):M b (n + 1)=256 * M b n + b:=rfl
def s1 (n x:Nat):Nat:=(x / 2 &&& M 85 n) + (x &&& M 85 n)
def s2 (n x:Nat):Nat:=(x / 4 &&& M 51 n) + (x &&& M 51 n)
def s3 (n x:Nat):Nat:=(x / 16 + x) &&& M 15 n
def t1 (c:Nat):Nat:=(c / 2 &&& 85) + (c &&& 85)
def t2 (c:Nat):Nat:=(c / 4 &&& 51) + (c &&& 51)
def t3 (c:Nat):Nat:=(c / 16 + c) &&& 15
theorem t1_lt:∀ c,c < 256 → t1 c < 256:=by decide +kernel
theorem t2_lt:∀ c,c < 256 → t2 (t1 c) < 69 ∧ t2 (t1 c) % 16 ≤ 4 ∧ t2 (t1 c) / 16 ≤ 4:=by decide +kernel
theorem t3_eq:∀ c,c < 256 → t3 (t2 (t1 c))=cnt c.testBit 0 8:=by decide +kernel
theorem h1:∀ b,b < 2 → ∀ c,c < 256 → (128 * b + c / 2) &&& 85=c / 2 &&& 85:=by decide +kernel
theorem h2:∀ b,b < 4 → ∀ c,c < 256 → (64 * b + c / 4) &&& 51=c / 4 &&& 51:=by decide +kernel
theorem h3:∀ b,b < 5 → ∀ c,c < 69 → (16 * b + (c / 16 + c)) &&& 15=(c / 16 + c) &&& 15:=by decide +kernel
theorem s1_rec (n q c:Nat) (hc:c < 256):s1 (n + 1) (256 * q + c)=256 * s1 n q + t1 c:=by
 unfold s1 t1
 rw [M_succ]
 have e:(256 * q + c) / 2=256 * (q / 2) + (128 * (q % 2) + c / 2):=by omega
 rw [e,land_byte _ _ _ _ (by omega) (by decide),land_byte _ _ _ _ hc (by decide),h1 _ (Nat.mod_lt _ (by decide)) c hc]
 omega
theorem s2_rec (n q c:Nat) (hc:c < 256):s2 (n + 1) (256 * q + c)=256 * s2 n q + t2 c:=by
 unfold s2 t2
 rw [M_succ]
 have e:(256 * q + c) / 4=256 * (q / 4) + (64 * (q % 4) + c / 4):=by omega
 rw [e,land_byte _ _ _ _ (by omega) (by decide),land_byte _ _ _ _ hc (by decide),h2 _ (Nat.mod_lt _ (by decide)) c hc]
 omega
theorem s3_rec (n q c:Nat) (hc:c < 69) (hq:q % 16 ≤ 4):s3 (n + 1) (256 * q + c)=256 * s3 n q + t3 c:=by
 unfold s3 t3
 rw [M_succ]
 have e:(256 * q + c) / 16 + (256 * q + c)=256 * (q / 16 + q) + (16 * (q % 16) + (c / 16 + c)):=by omega
 rw [e,land_byte _ _ _ _ (by omega) (by decide),h3 _ (by omega) c hc]
def comp (n x:Nat):Nat:=s3 n (s2 n (s1 n x))
theorem low4 (n q:Nat):s2 n (s1 n q) % 16 ≤ 4:=by
 cases n with
 | zero => simp [s2,s1,M]
 | succ n =>
  have hc:q % 256 < 256:=Nat.mod_lt _ (by decide)
  have e:q=256 * (q / 256) + q % 256:=by omega
  rw [e,s1_rec n _ _ hc,s2_rec n _ _ (t1_lt _ hc)]
  have:=(t2_lt _ hc).2.1
  omega
theorem comp_rec (n q c:Nat) (hc:c < 256):comp (n + 1) (256 * q + c)=256 * comp n q + cnt c.testBit 0 8:=by
 unfold comp
 have h:=t2_lt c hc
 rw [s1_rec n q c hc,s2_rec n _ _ (t1_lt c hc),s3_rec n _ _ h.1 (low4 n q),t3_eq c hc]
theorem comp_zero (x:Nat):comp 0 x=0:=by simp [comp,s3,M]
theorem cnt_byte (q c n:Nat) (hc:c < 256):cnt (256 * q + c).testBit 0 (8 + n)=cnt c.testBit 0 8 + cnt q.testBit 0 n:=by
 rw [cnt_add]
 congr 1
 ·apply cnt_congr
  intro i _ h2
  rw [add_bit q c i hc,if_pos (by omega)]
 ·rw [show 0 + 8=0 + 8 from rfl,cnt_shift]
  apply cnt_congr
  intro i _ _
  rw [add_bit q c _ hc,if_neg (by omega),Nat.add_sub_cancel]
def fin (y:Nat):Nat :=
 let a:=y + y / 256
 let b:=a + a / 65536
 (b + b / 4294967296) % 128
theorem div_of {X m c r:Nat} (h:X=m * c + r) (hr:r < m):X / m=c:=by
 rw [h,Nat.mul_add_div (by omega),Nat.div_eq_of_lt hr];rfl
theorem mod_of {X m c r:Nat} (h:X=m * c + r) (hr:r < m):X % m=r:=by
 rw [h,Nat.mul_add_mod,Nat.mod_eq_of_lt hr]
theorem fin_eq (b0 b1 b2 b3 b4 b5 b6 b7:Nat) (h0:b0 ≤ 8) (h1:b1 ≤ 8) (h2:b2 ≤ 8) (h3:b3 ≤ 8) (h4:b4 ≤ 8) (h5:b5 ≤ 8) (h6:b6 ≤ 8) (h7:b7 ≤ 8) :
 fin (256 * (256 * (256 * (256 * (256 * (256 * (256 * (256 * 0 + b7) + b6) + b5) + b4) + b3) + b2) + b1) + b0)=b0 + b1 + b2 + b3 + b4 + b5 + b6 + b7:=by
 obtain ⟨y,hy⟩:∃ y,y=256 * (256 * (256 * (256 * (256 * (256 * (256 * (256 * 0 + b7) + b6) + b5) + b4) + b3) + b2) + b1) + b0:=⟨_,rfl⟩
 have e1:y / 256=256 * (256 * (256 * (256 * (256 * (256 * b7 + b6) + b5) + b4) + b3) + b2) + b1:=div_of (r:=b0) (by omega) (by omega)
 obtain ⟨a,ha⟩:∃ a,a=y + (256 * (256 * (256 * (256 * (256 * (256 * b7 + b6) + b5) + b4) + b3) + b2) + b1):=⟨_,rfl⟩
 have e2:a / 65536=(b2 + b3) + 256 * (b3 + b4) + 65536 * (b4 + b5) + 16777216 * (b5 + b6) + 4294967296 * (b6 + b7) + 1099511627776 * b7 :=
  div_of (r:=b0 + b1 + 256 * (b1 + b2)) (by omega) (by omega)
 obtain ⟨b,hb⟩:∃ b,b=a + ((b2 + b3) + 256 * (b3 + b4) + 65536 * (b4 + b5) + 16777216 * (b5 + b6) + 4294967296 * (b6 + b7) + 1099511627776 * b7):=⟨_,rfl⟩
 have e3:b / 4294967296=(b4 + b5 + b6 + b7) + 256 * (b5 + b6 + b7) + 65536 * (b6 + b7) + 16777216 * b7 :=
  div_of (r:=(b0 + b1 + b2 + b3) + 256 * (b1 + b2 + b3 + b4) + 65536 * (b2 + b3 + b4 + b5) + 16777216 * (b3 + b4 + b5 + b6)) (by omega) (by omega)
 simp only [fin]
 rw [← hy,e1,← ha,e2,← hb,e3]
 exact mod_of (c:=2 * ((b1 + b2 + b3 + b4) + 256 * (b2 + b3 + b4 + b5) + 65536 * (b3 + b4 + b5 + b6) + 16777216 * (b4 + b5 + b6 + b7) + 4294967296 * (b5 + b6 + b7) + 1099511627776 * (b6 + b7) + 281474976710656 * b7) + 2 * ((b5 + b6 + b7) + 256 * (b6 + b7) + 65536 * b7)) (by omega) (by omega)
theorem split8 (x:Nat) (h:x < 18446744073709551616):∃ c0 c1 c2 c3 c4 c5 c6 c7,c0 < 256 ∧ c1 < 256 ∧ c2 < 256 ∧ c3 < 256 ∧ c4 < 256 ∧ c5 < 256 ∧ c6 < 256 ∧ c7 < 256 ∧
 x=256 * (256 * (256 * (256 * (256 * (256 * (256 * (256 * 0 + c7) + c6) + c5) + c4) + c3) + c2) + c1) + c0 :=
 ⟨x % 256,x / 256 % 256,x / 256 / 256 % 256,x / 256 / 256 / 256 % 256,x / 256 / 256 / 256 / 256 % 256,x / 256 / 256 / 256 / 256 / 256 % 256,
  x / 256 / 256 / 256 / 256 / 256 / 256 % 256,x / 256 / 256 / 256 / 256 / 256 / 256 / 256 % 256,by omega,by omega,by omega,by omega,by omega,by omega,by omega,by omega,by omega⟩
theorem comp_eq (x:Nat) (h:x < 18446744073709551616):fin (comp 8 x)=pc x ∧ comp 8 x < 1000000000000000000:=by
 obtain ⟨c0,c1,c2,c3,c4,c5,c6,c7,l0,l1,l2,l3,l4,l5,l6,l7,rfl⟩:=split8 x h
 rw [comp_rec 7 _ _ l0,comp_rec 6 _ _ l1,comp_rec 5 _ _ l2,comp_rec 4 _ _ l3,comp_rec 3 _ _ l4,comp_rec 2 _ _ l5,comp_rec 1 _ _ l6,comp_rec 0 _ _ l7,comp_zero]
 have k0:=cnt_le c0.testBit 0 8;have k1:=cnt_le c1.testBit 0 8;have k2:=cnt_le c2.testBit 0 8;have k3:=cnt_le c3.testBit 0 8
 have k4:=cnt_le c4.testBit 0 8;have k5:=cnt_le c5.testBit 0 8;have k6:=cnt_le c6.testBit 0 8;have k7:=cnt_le c7.testBit 0 8
 refine ⟨?_,by omega⟩
 rw [fin_eq _ _ _ _ _ _ _ _ k0 k1 k2 k3 k4 k5 k6 k7]
 unfold pc
 rw [show 64=8 + (8 + (8 + (8 + (8 + (8 + (8 + (8 + 0))))))) from rfl,cnt_byte _ _ _ l0,cnt_byte _ _ _ l1,cnt_byte _ _ _ l2,cnt_byte _ _ _ l3,cnt_byte _ _ _ l4,cnt_byte _ _ _ l5,cnt_byte _ _ _ l6,cnt_byte _ _ _ l7,cnt_none]
 omega
theorem pc_le (x:Nat):pc x ≤ 64:=cnt_le _ _ _
theorem M85:M 85 8=6148914691236517205:=by decide
theorem M51:M 51 8=3689348814741910323:=by decide
theorem M15:M 15 8=1085102592571150095:=by decide
theorem s1_lt (x:Nat):s1 8 x < 18446744073709551616:=by
 unfold s1;rw [M85]
 have a:x / 2 &&& 6148914691236517205 ≤ 6148914691236517205:=Nat.and_le_right
 have b:x &&& 6148914691236517205 ≤ 6148914691236517205:=Nat.and_le_right
 omega
theorem s2_lt (x:Nat):s2 8 x ≤ 7378697629483820646:=by
 unfold s2;rw [M51]
 have a:x / 4 &&& 3689348814741910323 ≤ 3689348814741910323:=Nat.and_le_right
 have b:x &&& 3689348814741910323 ≤ 3689348814741910323:=Nat.and_le_right
 omega
end Go.Proofs.YtfbcdmhmpfijjaaGreatDoor.Bm
namespace Go.Proofs.YtfbcdmhmpfijjaaGreatDoor
open Go Go.RowKit
theorem ret_u64 {a b:Int} (h:a=b):Ending.returned (.int .u64 a)=.returned (.int .u64 b):=by rw [h]
theorem ret_i64 {a b:Int} (h:a=b):Ending.returned (.int .i64 a)=.returned (.int .i64 b):=by rw [h]
theorem part_form1 (k f t:Int) (hk:0 ≤ k) (h1:f < k * 64 + 64) (h2:k * 64 < t) (h3:k * 64 < f) (h4:t < k * 64 + 64) :
 bits BinOp.and IntKind.u64 (IntKind.u64.wrap (18446744073709551615 * 2 ^ (f - k * 64).toNat)) (IntKind.u64.wrap (IntKind.u64.wrap (2 ^ (t - k * 64).toNat) - 1))=((Bm.partN k.toNat f.toNat t.toNat:Nat):Int):=by
 rw [Bm.shl_all _ (by omega),Bm.shl_one _ (by omega),bits_and_u64_nat _ _ (Bm.mask_lt _ (Nat.le_refl _)) (Bm.mask_lt _ (by omega)),Bm.mask_and]
 unfold Bm.partN
 rw [show (f - k * 64).toNat=f.toNat - k.toNat * 64 by omega,show (t - k * 64).toNat=t.toNat - k.toNat * 64 by omega]
theorem part_form2 (k f t:Int) (hk:0 ≤ k) (h1:f < k * 64 + 64) (h3:k * 64 < f) (h4:k * 64 + 64 ≤ t) :
 IntKind.u64.wrap (18446744073709551615 * 2 ^ (f - k * 64).toNat)=((Bm.partN k.toNat f.toNat t.toNat:Nat):Int):=by
 rw [Bm.shl_all _ (by omega)]
 unfold Bm.partN
 rw [show (f - k * 64).toNat=f.toNat - k.toNat * 64 by omega,show min (t.toNat - k.toNat * 64) 64=64 by omega]
theorem part_form3 (k f t:Int) (hk:0 ≤ k) (h2:k * 64 < t) (h3:f ≤ k * 64) (h4:t < k * 64 + 64) :
 bits BinOp.and IntKind.u64 18446744073709551615 (IntKind.u64.wrap (IntKind.u64.wrap (2 ^ (t - k * 64).toNat) - 1))=((Bm.partN k.toNat f.toNat t.toNat:Nat):Int):=by
 have e:(18446744073709551615:Int)=((Bm.mask 0 64:Nat):Int):=by decide
 rw [e,Bm.shl_one _ (by omega),bits_and_u64_nat _ _ (Bm.mask_lt _ (Nat.le_refl _)) (Bm.mask_lt _ (by omega)),Bm.mask_and]
 unfold Bm.partN
 rw [show (t - k * 64).toNat=t.toNat - k.toNat * 64 by omega,show f.toNat - k.toNat * 64=0 by omega]
theorem part_form4 (k f t:Int) (hk:0 ≤ k) (h3:f ≤ k * 64) (h4:k * 64 + 64 ≤ t) :
 (18446744073709551615:Int)=((Bm.partN k.toNat f.toNat t.toNat:Nat):Int):=by
 have e:(18446744073709551615:Int)=((Bm.mask 0 64:Nat):Int):=by decide
 rw [e]
 unfold Bm.partN
 rw [show f.toNat - k.toNat * 64=0 by omega,show min (t.toNat - k.toNat * 64) 64=64 by omega]
set_option maxHeartbeats 400000 in
theorem part_any (k f t:Int) (w:World) (hk:0 ≤ k) (hk2:k ≤ 4096) (_hf:0 ≤ f) (_hf2:f ≤ 262144) (_ht:0 ≤ t) (_ht2:t ≤ 262144) (h1:f < k * 64 + 64) (h2:k * 64 < t) :
 Calls Tryz.prog 127 #[.int .i64 k,.int .i64 f,.int .i64 t] w fun e w' => e=.returned (.int .u64 (Bm.partN k.toNat f.toNat t.toNat:Nat)) ∧ w=w':=by
 go_enter Tryz.func127,Tryz.ntmps127
 go_wp2
 ·go_ret
  exact ⟨ret_u64 (part_form1 k f t hk h1 h2 ‹_› ‹_›),rfl⟩
 ·go_ret
  exact ⟨ret_u64 (part_form2 k f t hk h1 ‹_› ‹_›),rfl⟩
 ·go_ret
  exact ⟨ret_u64 (part_form3 k f t hk h2 ‹_› ‹_›),rfl⟩
 ·go_ret
  exact ⟨ret_u64 (part_form4 k f t hk ‹_› ‹_›),rfl⟩
theorem ones_a (x:Nat) (hx:x < 18446744073709551616) :
 IntKind.u64.wrap (bits BinOp.and IntKind.u64 (↑x / 2) 6148914691236517205 + bits BinOp.and IntKind.u64 (↑x) 6148914691236517205)=((Bm.s1 8 x:Nat):Int):=by
 have h:=Bm.s1_lt x
 have e1:=bits_and_u64_nat (x / 2) 6148914691236517205 (by omega) (by omega)
 have e2:=bits_and_u64_nat x 6148914691236517205 (by omega) (by omega)
 rw [show ((x / 2:Nat):Int)=(x:Int) / 2 by omega] at e1
 unfold Bm.s1 at h ⊢
 rw [Bm.M85] at h ⊢
 rw [show ((6148914691236517205:Nat):Int)=6148914691236517205 by rfl] at e1 e2
 rw [e1,e2,IntKind.wrap_u64]
 generalize x / 2 &&& 6148914691236517205=p at *
 generalize x &&& 6148914691236517205=q at *
 omega
theorem ones_b (x:Nat) (hx:x < 18446744073709551616) :
 IntKind.u64.wrap (bits BinOp.and IntKind.u64 (↑x / 4) 3689348814741910323 + bits BinOp.and IntKind.u64 (↑x) 3689348814741910323)=((Bm.s2 8 x:Nat):Int):=by
 have h:=Bm.s2_lt x
 have e1:=bits_and_u64_nat (x / 4) 3689348814741910323 (by omega) (by omega)
 have e2:=bits_and_u64_nat x 3689348814741910323 (by omega) (by omega)
 rw [show ((x / 4:Nat):Int)=(x:Int) / 4 by omega] at e1
 unfold Bm.s2 at h ⊢
 rw [Bm.M51] at h ⊢
 rw [show ((3689348814741910323:Nat):Int)=3689348814741910323 by rfl] at e1 e2
 rw [e1,e2,IntKind.wrap_u64]
 generalize x / 4 &&& 3689348814741910323=p at *
 generalize x &&& 3689348814741910323=q at *
 omega
theorem ones_c (x:Nat) (hx:x ≤ 7378697629483820646) :
 bits BinOp.and IntKind.u64 (IntKind.u64.wrap (↑x / 16 + ↑x)) 1085102592571150095=((Bm.s3 8 x:Nat):Int):=by
 have e0:IntKind.u64.wrap (↑x / 16 + ↑x)=((x / 16 + x:Nat):Int):=by rw [IntKind.wrap_u64];omega
 rw [e0]
 unfold Bm.s3
 rw [Bm.M15]
 exact bits_and_u64_nat (x / 16 + x) 1085102592571150095 (by omega) (by omega)
theorem ones_d (k y:Nat) (_hk:0 < k) (hy:y < 4000000000000000000):IntKind.u64.wrap (↑y + ↑y / (k:Int))=((y + y / k:Nat):Int):=by
 rw [IntKind.wrap_u64]
 have e:((y / k:Nat):Int)=(y:Int) / (k:Int):=Int.natCast_ediv y k
 have h:y / k ≤ y:=Nat.div_le_self y k
 rw [← e]
 generalize y / k=z at *
 omega
theorem ones_e (z:Nat) (hz:z < 9223372036854775808):bits BinOp.and IntKind.i64 (z:Int) 127=((z % 128:Nat):Int):=by
 unfold bits
 have h:(BitVec.ofInt 64 (z:Int) &&& BitVec.ofInt 64 (127:Int)).toNat=z % 128:=by
  rw [BitVec.toNat_and]
  have a:(BitVec.ofInt 64 (z:Int)).toNat=z:=by simp;omega
  have b:(BitVec.ofInt 64 (127:Int)).toNat=2 ^ 7 - 1:=by decide
  rw [a,b,Nat.and_two_pow_sub_one_eq_mod]
 show IntKind.i64.wrap ((BitVec.ofInt 64 (z:Int) &&& BitVec.ofInt 64 (127:Int)).toNat:Int)=_
 rw [h,IntKind.wrap_i64]
 omega
set_option maxHeartbeats 400000 in
theorem ones_core (x a b c d e g r:Nat) (w:World)
 (hA:IntKind.u64.wrap (bits BinOp.and IntKind.u64 (↑x / 2) 6148914691236517205 + bits BinOp.and IntKind.u64 (↑x) 6148914691236517205)=(a:Int))
 (hB:IntKind.u64.wrap (bits BinOp.and IntKind.u64 (↑a / 4) 3689348814741910323 + bits BinOp.and IntKind.u64 (↑a) 3689348814741910323)=(b:Int))
 (hC:bits BinOp.and IntKind.u64 (IntKind.u64.wrap (↑b / 16 + ↑b)) 1085102592571150095=(c:Int))
 (hD:IntKind.u64.wrap (↑c + ↑c / 256)=(d:Int)) (hE:IntKind.u64.wrap (↑d + ↑d / 65536)=(e:Int)) (hF:IntKind.u64.wrap (↑e + ↑e / 4294967296)=(g:Int))
 (hg:(g:Int) < 9223372036854775807) (hG:bits BinOp.and IntKind.i64 (g:Int) 127=(r:Int)) :
 Calls Tryz.prog 135 #[.int .u64 x] w fun e w' => e=.returned (.int .i64 (r:Nat)) ∧ w=w':=by
 have hg0:(0:Int) ≤ (g:Int):=by omega
 go_enter Tryz.func135,Tryz.ntmps135
 go_wp2
 go_ret
 exact ⟨rfl,rfl⟩
theorem ones_any (x:Nat) (w:World) (hx:x < 18446744073709551616) :
 Calls Tryz.prog 135 #[.int .u64 x] w fun e w' => e=.returned (.int .i64 (Bm.pc x:Nat)) ∧ w=w':=by
 have hc:=Bm.comp_eq x hx
 have hr:Bm.fin (Bm.comp 8 x)=Bm.pc x:=hc.1
 have hlt:Bm.comp 8 x < 1000000000000000000:=hc.2
 unfold Bm.comp at hr hlt
 simp only [Bm.fin] at hr
 have k1:Bm.s3 8 (Bm.s2 8 (Bm.s1 8 x)) / 256 ≤ Bm.s3 8 (Bm.s2 8 (Bm.s1 8 x)):=Nat.div_le_self _ _
 generalize hcc:Bm.s3 8 (Bm.s2 8 (Bm.s1 8 x))=c at *
 have k2:(c + c / 256) / 65536 ≤ c:=by omega
 generalize hd:c + c / 256=d at *
 generalize he:d + d / 65536=e at *
 have k3:e / 4294967296 ≤ c:=by omega
 refine ones_core x _ _ c d e (e + e / 4294967296) _ w (ones_a x hx) (ones_b _ (Bm.s1_lt x)) ?_ ?_ ?_ ?_ (by omega) ?_
 ·rw [← hcc];exact ones_c _ (Bm.s2_lt _)
 ·rw [← hd];exact ones_d 256 c (by omega) (by omega)
 ·rw [← he];exact ones_d 65536 d (by omega) (by omega)
 ·exact ones_d 4294967296 e (by omega) (by omega)
 ·rw [ones_e _ (by omega),hr]
def Tab (w:World):Prop:=∀ j,j < Lib.deBruijn64tab.length → w.cell? ⟨0,j,none⟩=some (.int .u8 (Lib.deBruijn64tab.getD j 0))
set_option maxHeartbeats 400000 in
theorem tz_core (x k idx:Nat) (w:World) (hx0:((x:Int) == 0)=false)
 (key:IntKind.u64.wrap (bits BinOp.and IntKind.u64 (x:Int) (IntKind.u64.wrap (-(x:Int))) * 285870213051353865) / 288230376151711744=(idx:Int))
 (hi:idx < 64) (hk:k < 64) (hcell:w.cell? ⟨0,idx,none⟩=some (.int .u8 k)) :
 Calls Tryz.prog 128 #[.int .u64 x] w fun e w' => e=.returned (.int .i64 k) ∧ w=w':=by
 go_enter Tryz.func128,Tryz.ntmps128
 go_wp2_with (simp only [key])
 go_ret
 exact ⟨rfl,rfl⟩
theorem tz_any (x:Nat) (hx:x < 18446744073709551616) (hx0:x ≠ 0) (w:World) (hT:Tab w) :
 Calls Tryz.prog 128 #[.int .u64 x] w fun e w' => e=.returned (.int .i64 (Lib.ctz 64 x:Nat)) ∧ w=w':=by
 obtain ⟨hlow,hk⟩:=Lib.lowest_bit 64 x hx0 hx
 obtain ⟨hi,htab⟩:=Lib.deBruijn64_at _ hk
 have hcell:=hT _ hi
 rw [htab] at hcell
 exact tz_core x _ _ w (by simp;omega) (tz64_key x _ hx hx0 hlow) hi hk hcell
end Go.Proofs.YtfbcdmhmpfijjaaGreatDoor
namespace Go.Proofs.YtfbcdmhmpfijjaaGreatDoor
open Go Go.RowKit
structure Only (lo hi:Nat) (w w':World):Prop where
 os:w'.os=w.os
 tape:w'.tape=w.tape
 output:w'.output=w.output
 size:w.heap.size ≤ w'.heap.size
 block:∀ k,k < w.heap.size → k < lo ∨ hi ≤ k → w'.heap[k]?=w.heap[k]?
theorem Only.refl (lo hi:Nat) (w:World):Only lo hi w w:=⟨rfl,rfl,rfl,Nat.le_refl _,fun _ _ _ => rfl⟩
theorem Only.trans {lo hi:Nat} {a b c:World} (h:Only lo hi a b) (k:Only lo hi b c):Only lo hi a c :=
 ⟨k.os.trans h.os,k.tape.trans h.tape,k.output.trans h.output,Nat.le_trans h.size k.size,fun i hi hk => (k.block i (Nat.lt_of_lt_of_le hi h.size) hk).trans (h.block i hi hk)⟩
theorem Only.mono {lo hi lo' hi':Nat} {a b:World} (h:Only lo hi a b) (h1:lo' ≤ lo) (h2:hi ≤ hi'):Only lo' hi' a b :=
 ⟨h.os,h.tape,h.output,h.size,fun i hi hk => h.block i hi (by omega)⟩
theorem Only.trans' {lo hi lo' hi':Nat} {a b c:World} (h:Only lo hi a b) (k:Only lo' hi' b c) (h1:lo ≤ lo' ∨ a.heap.size ≤ lo') (h2:hi' ≤ hi ∨ a.heap.size ≤ lo'):Only lo hi a c :=
 ⟨k.os.trans h.os,k.tape.trans h.tape,k.output.trans h.output,Nat.le_trans h.size k.size,fun i hi hk => (k.block i (Nat.lt_of_lt_of_le hi h.size) (by omega)).trans (h.block i hi hk)⟩
theorem Only.drew {lo hi:Nat} {a w:World} (h:Only lo hi a w):Only lo hi a w.drew:=⟨h.os,h.tape,h.output,h.size,h.block⟩
theorem Only.drewN {lo hi:Nat} {a w:World} (h:Only lo hi a w) (n:Nat):Only lo hi a (w.drewN n):=⟨h.os,h.tape,h.output,h.size,h.block⟩
theorem Only.alloc {lo hi:Nat} {a w:World} (h:Only lo hi a w) (o:Obj):Only lo hi a (w.alloc o) :=
 ⟨h.os,h.tape,h.output,by have:=h.size;simp;omega,fun k hk hk2 => by rw [Below.heap_alloc _ _ _ (Nat.lt_of_lt_of_le hk h.size)];exact h.block k hk hk2⟩
theorem Only.setCell {lo hi:Nat} {a w:World} (h:Only lo hi a w) {p:Addr} (hp:(lo ≤ p.block ∧ p.block < hi) ∨ a.heap.size ≤ p.block) (u:Value):Only lo hi a (w.setCell p u) :=
 ⟨h.os,h.tape,h.output,by have:=h.size;simpa [World.setCell] using this,fun k hk hk2 => by rw [Below.heap_setCell _ _ _ _ (by omega)];exact h.block k hk hk2⟩
theorem Only.grown {lo hi:Nat} {a w w':World} {row:Option Nat} (h:Only lo hi a w) (hg:w.grownBy w' row) (hr:∀ k,row=some k → (lo ≤ k ∧ k < hi) ∨ a.heap.size ≤ k):Only lo hi a w' :=
 ⟨hg.os.trans h.os,hg.tape.trans h.tape,hg.output.trans h.output,Nat.le_trans h.size hg.size,fun k hk hk2 => by
  rw [hg.block k (Nat.lt_of_lt_of_le hk h.size) (fun e => by have:=hr k e.symm;omega)];exact h.block k hk hk2⟩
theorem Only.below {lo hi:Nat} {a b:World} (h:Only lo hi a b) (hB:lo ≤ a.heap.size):Below lo a b :=
 ⟨h.os,h.tape,h.output,h.size,fun k hk => h.block k (by omega) (by omega)⟩
abbrev Still (w w':World):Prop:=Only w.heap.size w.heap.size w w'
theorem Still.below {a b:World} (h:Still a b):Below a.heap.size a b:=Only.below h (Nat.le_refl _)
theorem Still.any {a b:World} (h:Still a b) (lo hi:Nat):Only lo hi a b:=⟨h.os,h.tape,h.output,h.size,fun i hi _ => h.block i hi (by omega)⟩
theorem Only.cell {lo hi:Nat} {w w':World} (h:Only lo hi w w') {p:Addr} (hs:p.block < w.heap.size) (hp:p.block < lo ∨ hi ≤ p.block):w'.cell? p=w.cell? p :=
 World.cell?_of_block (w:=w) (h.block p.block hs hp)
theorem Only.frozen {lo hi:Nat} {w w':World} (h:Only lo hi w w') {p:Addr} (hs:p.block < w.heap.size) (hp:p.block < lo ∨ hi ≤ p.block):w'.frozen? p=w.frozen? p :=
 World.frozen?_of_block (w:=w) (h.block p.block hs hp)
theorem ownsRow_of_block {w w':World} {base:Nat} {e:TypeId} {size:Nat} {v:Value} {n:Nat} {xs:List Value} (h:w.ownsRow base e size v n xs)
 (hb:∀ g,v.ownBlock=some g → w'.heap[g]?=w.heap[g]?):w'.ownsRow base e size v n xs:=by
 refine ⟨h.1,?_⟩
 rcases h.2 with hn | ⟨g,cap,cur,rfl,hbg,hgg,rest⟩
 ·exact .inl hn
 ·exact .inr ⟨g,cap,cur,rfl,hbg,by rw [hb g rfl];exact hgg,rest⟩
theorem ownsRow_set {w:World} {base:Nat} {e:TypeId} {g cap n:Nat} {xs:List Value} (h:w.ownsRow base e 1 (.slice (some ⟨g,0,none⟩) n cap) n xs) (j:Nat) (u:Value) :
 (w.setCell ⟨g,j,none⟩ u).ownsRow base e 1 (.slice (some ⟨g,0,none⟩) n cap) n (xs.set j u):=by
 obtain ⟨h1,h2⟩:=h
 refine ⟨by simpa using h1,?_⟩
 rcases h2 with ⟨hv,_⟩ | ⟨g',cap',cur,hv,hbg,hgg,hn,hm,hs,ht⟩
 ·cases hv
 ·injection hv with e1 e2 e3
  injection e1 with e1
  injection e1 with e1
  subst e1;subst e3
  refine .inr ⟨g,cap,cur.setIfInBounds j u,rfl,hbg,?_,hn,hm,by simpa using hs,?_⟩
  ·simp only [World.setCell,Array.getElem?_modify]
   simp [hgg]
  ·rw [← ht]
   simp only [Array.toList_setIfInBounds]
   rw [List.take_set]
abbrev U (r:Nat):Value:=.int .u64 (r:Int)
structure MapAt (w:World) (lo hi pb n:Nat) (v:Value) (rows:List Nat):Prop where
 plo:lo ≤ pb
 phi:pb < hi
 top:hi ≤ w.heap.size
 head:w.heap[pb]?=some (.cells #[.int .i64 (n:Int),v] 135 (0,0))
 own:w.ownsRow lo 139 1 v ((n + 63) / 64) (rows.map U)
 apart:∀ g,v.ownBlock=some g → g < hi ∧ g ≠ pb
 small:∀ r ∈ rows,r < 18446744073709551616
 nle:n ≤ 262144
theorem MapAt.len {w:World} {lo hi pb n:Nat} {v:Value} {rows:List Nat} (h:MapAt w lo hi pb n v rows):rows.length=(n + 63) / 64:=by
 have:=h.own.1;simpa using this
theorem MapAt.kept {w w':World} {lo hi pb n:Nat} {v:Value} {rows:List Nat} (h:MapAt w lo hi pb n v rows) {lo' hi':Nat} (ho:Only lo' hi' w w') (hd:hi ≤ lo' ∨ hi' ≤ lo):MapAt w' lo hi pb n v rows:=by
 have hp:=h.plo;have hq:=h.phi;have ht:=h.top
 refine ⟨h.plo,h.phi,Nat.le_trans h.top ho.size,?_,?_,h.apart,h.small,h.nle⟩
 ·rw [ho.block pb (by omega) (by omega)];exact h.head
 ·refine ownsRow_of_block h.own fun g hg => ho.block g ?_ ?_
  ·have:=(h.own.lt g hg).2;omega
  ·have a:=(h.own.lt g hg).1;have b:=(h.apart g hg).1;omega
theorem MapAt.cell0 {w:World} {lo hi pb n:Nat} {v:Value} {rows:List Nat} (h:MapAt w lo hi pb n v rows):w.cell? ⟨pb,0,none⟩=some (.int .i64 (n:Int)):=by
 simp [World.cell?,h.head]
theorem MapAt.cell1 {w:World} {lo hi pb n:Nat} {v:Value} {rows:List Nat} (h:MapAt w lo hi pb n v rows):w.cell? ⟨pb,1,none⟩=some v:=by
 simp [World.cell?,h.head]
theorem MapAt.slice {w:World} {lo hi pb n:Nat} {v:Value} {rows:List Nat} (h:MapAt w lo hi pb n v rows) (hn:0 < n) :
 ∃ g cap,v=.slice (some ⟨g,0,none⟩) ((n + 63) / 64) cap ∧ g ≠ pb ∧ lo ≤ g ∧ g < hi ∧ (n + 63) / 64 ≤ cap ∧ cap ≤ maxLen ∧
  (∀ j,j < (n + 63) / 64 → w.cell? ⟨g,j,none⟩=some (.int .u64 ((rows.getD j 0:Nat):Int))) ∧ ∀ j,w.frozen? ⟨g,j,none⟩=false:=by
 rcases h.own.2 with ⟨_,h0⟩ | ⟨g,cap,cur,rfl,hb,hg,hnc,hm,hs,ht⟩
 ·omega
 ·refine ⟨g,cap,rfl,(h.apart g rfl).2,hb,(h.apart g rfl).1,hnc,hm,fun j hj => ?_,fun j => ?_⟩
  ·have hj2:cur.toList[j]?=some (U (rows.getD j 0)):=by
    have e:(cur.toList.take ((n + 63) / 64 * 1))[j]?=cur.toList[j]?:=by rw [List.getElem?_take,if_pos (by omega)]
    rw [← e,ht,List.getElem?_map]
    have:rows[j]?=some (rows.getD j 0):=by
     rw [List.getD_eq_getElem?_getD,List.getElem?_eq_getElem (by rw [h.len];exact hj)];rfl
    rw [this];rfl
   simp only [World.cell?,hg]
   simpa using hj2
  ·simp only [World.frozen?,hg];simp
theorem MapAt.set {w:World} {lo hi pb n g cap:Nat} {rows:List Nat} (h:MapAt w lo hi pb n (.slice (some ⟨g,0,none⟩) ((n + 63) / 64) cap) rows) (j r:Nat) (hr:r < 18446744073709551616) :
 MapAt (w.setCell ⟨g,j,none⟩ (.int .u64 (r:Int))) lo hi pb n (.slice (some ⟨g,0,none⟩) ((n + 63) / 64) cap) (rows.set j r):=by
 refine ⟨h.plo,h.phi,by simpa [World.setCell] using h.top,?_,?_,h.apart,?_,h.nle⟩
 ·rw [Below.heap_setCell _ _ _ _ (fun e => (h.apart g rfl).2 e.symm)];exact h.head
 ·rw [List.map_set]
  exact ownsRow_set h.own j _
 ·intro x hx
  rcases List.mem_or_eq_of_mem_set hx with hx | hx
  ·exact h.small x hx
  ·omega
theorem MapAt.drew {w:World} {lo hi pb n:Nat} {v:Value} {rows:List Nat} (h:MapAt w lo hi pb n v rows):MapAt w.drew lo hi pb n v rows :=
 ⟨h.plo,h.phi,h.top,h.head,h.own,h.apart,h.small,h.nle⟩
def IsMap (w:World) (lo hi:Nat) (p:Addr) (n:Nat) (S:Nat → Bool):Prop :=
 ∃ pb v rows,p=⟨pb,0,none⟩ ∧ MapAt w lo hi pb n v rows ∧ (∀ i,i < n → (rows.getD (i / 64) 0).testBit (i % 64)=S i) ∧ ∀ i,n ≤ i → S i=false
theorem IsMap.kept {w w':World} {lo hi n:Nat} {p:Addr} {S:Nat → Bool} (h:IsMap w lo hi p n S) {lo' hi':Nat} (ho:Only lo' hi' w w') (hd:hi ≤ lo' ∨ hi' ≤ lo):IsMap w' lo hi p n S:=by
 obtain ⟨pb,v,rows,hp,hm,hS⟩:=h
 exact ⟨pb,v,rows,hp,hm.kept ho hd,hS⟩
theorem IsMap.still {w w':World} {lo hi n:Nat} {p:Addr} {S:Nat → Bool} (h:IsMap w lo hi p n S) (ho:Still w w'):IsMap w' lo hi p n S:=by
 have:hi ≤ w.heap.size:=by obtain ⟨pb,v,rows,hp,hm,hS⟩:=h;exact hm.top
 exact h.kept ho (.inl this)
end Go.Proofs.YtfbcdmhmpfijjaaGreatDoor
