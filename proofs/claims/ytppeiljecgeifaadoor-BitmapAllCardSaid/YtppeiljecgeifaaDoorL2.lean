/-
  The walks of hearthlaw3.within, filled, BitmapParts.
-/
import Derived.Test.YtppeiljecgeifaaDoorL1
namespace Go.Proofs.YtppeiljecgeifaaDoor
open Go Go.RowKit

/-- A slice of integers that came in: it is nil; or it leads to a row of cells. -/
def IsRow (k : IntKind) (w : World) (a : Option Addr) (len cap : Nat) (zs : List Int) : Prop :=
  (a = none ∧ len = 0 ∧ cap = 0 ∧ zs = []) ∨
  ∃ x, a = some x ∧ len ≤ cap ∧ cap ≤ maxLen ∧ zs.length = cap ∧ (∀ i, i < zs.length → w.cell? (x.add i) = some (.int k (zs.getD i 0))) ∧ ∀ n ∈ zs, (Lit.int k n).wf = true

/-- What within makes of a number. -/
def wi (x n : Int) : Int := (if x < 0 then -(x + 1) else x) % n

theorem wi_range (x n : Int) (h : 0 < n) : 0 ≤ wi x n ∧ wi x n < n := by
  unfold wi
  exact ⟨Int.emod_nonneg _ (by omega), Int.emod_lt_of_pos _ h⟩

set_option maxHeartbeats 400000 in
theorem within_any (x n : Int) (w : World) (hx1 : -9223372036854775808 ≤ x) (hx2 : x ≤ 9223372036854775807) (hn : 0 < n) (hn2 : n ≤ 1000000) :
    Calls Tryd.prog 16 #[.int .i64 x, .int .i64 n] w fun e w' => e = .returned (.int .i64 (wi x n)) ∧ w = w' := by
  have hn0 : (n == 0) = false := by simp; omega
  by_cases h : x < 0
  · have e : wi x n = (-(x + 1)) % n := by unfold wi; rw [if_pos h]
    have E := Lib.hid e; clear e
    go_enter Tryd.func16, Tryd.ntmps16
    go_wp2
    go_ret
    exact ⟨ret_i64 (by rw [E.out, ← Int.neg_tmod, Int.tmod_eq_emod_of_nonneg (by omega)]), rfl⟩
  · have e : wi x n = x % n := by unfold wi; rw [if_neg h]
    have E := Lib.hid e; clear e
    have h0 : 0 ≤ x := by omega
    go_enter Tryd.func16, Tryd.ntmps16
    go_wp2
    go_ret
    exact ⟨ret_i64 (by rw [E.out]), rfl⟩

/-- What is in behind k steps of filling. -/
def fillS (zs : List Int) (n : Int) : Nat → Nat → Bool
  | 0 => fun _ => false
  | k + 1 => rangeS (fillS zs n k) (wi (zs.getD k 0) n) (wi (zs.getD k 0) n + 1) true

theorem wf_i64 {x : Int} (h : (Lit.int .i64 x).wf = true) : -9223372036854775808 ≤ x ∧ x ≤ 9223372036854775807 := by
  simp [Lit.wf, IntKind.min, IntKind.max, IntKind.signed, IntKind.bits] at h
  omega

/-- A map in new memory. -/
def NewMap (w w' : World) (p : Addr) (n : Nat) (S : Nat → Bool) : Prop := ∃ hi, IsMap w' w.heap.size hi p n S ∧ Still w w'

set_option maxHeartbeats 800000 in
theorem filled_any (n : Nat) (a : Option Addr) (len cap : Nat) (zs : List Int) (w : World) (hn1 : 1 ≤ n) (hn2 : n ≤ 262144) (hr : IsRow .i64 w a len cap zs) :
    Calls Tryd.prog 17 #[.int .i64 (n : Int), .slice a len cap] w fun e w' => ∃ p, e = .returned (.pointer (some p)) ∧ NewMap w w' p n (fillS zs n (min len 2000)) := by
  have HR := Lib.hid hr; clear hr
  go_enter Tryd.func17, Tryd.ntmps17
  go_wp2_with fail
  refine (new_yes n _ hn2).mono ?_
  rintro e w1 ⟨p, rfl, hm, hs⟩
  have HM := Lib.hid hm; clear hm
  have HS := Lib.hid hs; clear hs
  go_wp2_with fail
  go_loopw [7] (fun i wr => ∃ k : Nat, k ≤ min len 2000 ∧ i = .int .i64 k ∧ IsMap wr w.heap.size w1.heap.size p n (fillS zs n k) ∧ Still w wr) (fun i _ => 2000 - (intOf i).toNat)
  case atStart => exact ⟨0, by omega, rfl, HM.out, HS.out⟩
  case round =>
    obtain ⟨k, hk, rfl, hm, hs⟩ := hrel
    have HM2 := Lib.hid hm; clear hm
    have HS2 := Lib.hid hs; clear hs
    have hk0 : (0 : Int) ≤ (k : Int) := by omega
    by_cases hlt : k < min len 2000
    · have h1 : (k : Int) < (len : Int) := by omega
      have h2 : (k : Int) < 2000 := by omega
      rcases HR.out with ⟨rfl, rfl, rfl, rfl⟩ | ⟨x, rfl, hlc, hcm, hz, hcell, hwz⟩
      · omega
      · obtain ⟨b, off, spot⟩ := x
        have hc := hcell k (by omega)
        have hspot : spot = none := by
          have h0 := hcell 0 (by omega)
          simpa [Addr.add] using World.cell?_spot h0
        subst hspot
        have hbl := World.block_lt_of_cell? w _ hc
        have hc2 : wr.cell? ⟨b, off + k, none⟩ = some (.int .i64 (zs.getD k 0)) := by
          have e : (⟨b, off, none⟩ : Addr).add k = ⟨b, off + k, none⟩ := by unfold Addr.add; split <;> simp_all
          rw [e] at hc hbl
          rw [← hc]
          exact HS2.out.below.cell hbl
        obtain ⟨hw1, hw2⟩ := wf_i64 (hwz (zs.getD k 0) (by rw [List.getD_eq_getElem?_getD, List.getElem?_eq_getElem (by omega)]; exact List.getElem_mem _))
        clear hc hcell hwz hz hbl
        have hrng := wi_range (zs.getD k 0) n (by omega)
        have HT : Hid (fillS zs n (k + 1) = rangeS (fillS zs n k) (wi (zs.getD k 0) n) (wi (zs.getD k 0) n + 1) true) := rfl
        generalize zs.getD k 0 = z at *
        go_wp2_with fail
        refine (within_any z n _ hw1 hw2 (by omega) (by omega)).mono ?_
        rintro e w2 ⟨rfl, rfl⟩
        go_wp2_with fail
        refine (set_yes _ _ n p _ (wi z n) _ HM2.out hrng.1 hrng.2).mono ?_
        rintro e w3 ⟨rfl, hm3, ho3⟩
        have HM3 := Lib.hid hm3; clear hm3
        have HO3 := Lib.hid ho3; clear ho3
        go_wp2
        go_roundw
        case rel => exact ⟨k + 1, by omega, by go_num, by rw [HT.out]; exact HM3.out, HS2.out.trans' HO3.out (.inl (Nat.le_refl _)) (.inr (Nat.le_refl _))⟩
        case measure => simp [intOf]; omega
    · have hk' : k = min len 2000 := by omega
      by_cases h1 : (k : Int) < (len : Int)
      · have h2 : ¬ (k : Int) < 2000 := by omega
        have HK := Lib.hid hk'; clear hk'
        go_wp2
        go_ret
        exact ⟨p, rfl, w1.heap.size, by rw [← HK.out]; exact HM2.out, HS2.out⟩
      · have HK := Lib.hid hk'; clear hk'
        go_wp2
        go_ret
        exact ⟨p, rfl, w1.heap.size, by rw [← HK.out]; exact HM2.out, HS2.out⟩
end Go.Proofs.YtppeiljecgeifaaDoor
