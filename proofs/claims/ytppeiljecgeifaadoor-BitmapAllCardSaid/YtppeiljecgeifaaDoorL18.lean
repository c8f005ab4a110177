/-
  hearthlaw3.plays at every argument; BitmapOnes, BitmapCounts, BitmapLooks, BitmapAlls, BitmapAll.
-/
import Derived.Test.YtppeiljecgeifaaDoorL17
namespace Go.Proofs.YtppeiljecgeifaaDoor
open Go Go.RowKit

set_option maxRecDepth 8000 in
set_option maxHeartbeats 1600000 in
/-- A length between the two bounds: only alive is asked. -/
theorem plays_midn (n k : Int) (a : Option Addr) (len cap : Nat) (lo hi : Int) (w : World) (hm : 20000 < n ∧ n ≤ 262144) (hT : Tab w) (h0 : 0 < w.heap.size) :
    Calls Tryd.prog 32 #[.int .i64 n, .int .i64 k, .slice a len cap, .int .i64 lo, .int .i64 hi] w fun e w' => e = .returned (.bool true) ∧ Still w w' := by
  have HT := Lib.hid hT; clear hT
  obtain ⟨m1, m2⟩ := hm
  go_enter Tryd.func32, Tryd.ntmps32
  go_wp2_with fail
  refine (alive_any _ HT.out h0).mono ?_
  rintro e w1 ⟨rfl, hs1⟩
  have HT1 : Hid (Tab w1) := HT.out.only hs1 h0
  have HS1 := Lib.hid hs1
  have h01 : 0 < w1.heap.size := Nat.lt_of_lt_of_le h0 hs1.size
  clear hs1
  go_wp2_with fail
  refine (alive_any _ HT1.out h01).mono ?_
  rintro e w2 ⟨rfl, hs2⟩
  have HS2 : Hid (Still w w2) := HS1.out.trans (hs2.any _ _)
  clear hs2
  go_wp2
  go_ret
  exact ⟨rfl, HS2.out⟩
set_option maxRecDepth 8000 in
set_option maxHeartbeats 1600000 in
theorem plays_midk (n k : Int) (a : Option Addr) (len cap : Nat) (lo hi : Int) (w : World) (hn : n ≤ 20000 ∨ 262144 < n) (hm : 20000 < k ∧ k ≤ 262144) (hT : Tab w) (h0 : 0 < w.heap.size) :
    Calls Tryd.prog 32 #[.int .i64 n, .int .i64 k, .slice a len cap, .int .i64 lo, .int .i64 hi] w fun e w' => e = .returned (.bool true) ∧ Still w w' := by
  have HT := Lib.hid hT; clear hT
  obtain ⟨m1, m2⟩ := hm
  have main : ∀ (h : decide (20000 < n) = false ∨ decide (20000 < n) = true ∧ decide (n ≤ 262144) = false), Calls Tryd.prog 32 #[.int .i64 n, .int .i64 k, .slice a len cap, .int .i64 lo, .int .i64 hi] w fun e w' => e = .returned (.bool true) ∧ Still w w' := by
    rintro (hd | ⟨hd, hd2⟩) <;>
    · clear hn
      go_enter Tryd.func32, Tryd.ntmps32
      go_wp2_with fail
      refine (alive_any _ HT.out h0).mono ?_
      rintro e w1 ⟨rfl, hs1⟩
      have HT1 : Hid (Tab w1) := HT.out.only hs1 h0
      have HS1 := Lib.hid hs1
      have h01 : 0 < w1.heap.size := Nat.lt_of_lt_of_le h0 hs1.size
      clear hs1
      go_wp2_with fail
      refine (alive_any _ HT1.out h01).mono ?_
      rintro e w2 ⟨rfl, hs2⟩
      have HS2 : Hid (Still w w2) := HS1.out.trans (hs2.any _ _)
      clear hs2
      go_wp2
      go_ret
      exact ⟨rfl, HS2.out⟩
  refine main ?_
  rcases hn with h | h
  · exact .inl (decide_eq_false (by omega))
  · exact .inr ⟨decide_eq_true (by omega), decide_eq_false (by omega)⟩

/-- What made hands back, of whatever length it takes or refuses. -/
theorem made_both (n : Int) (w : World) (hn : n ≤ 20000 ∨ 262144 < n) (hT : Tab w) (h0 : 0 < w.heap.size) :
    Calls Tryd.prog 14 #[.int .i64 n] w fun e w' => ∃ q : Option Addr, e = .returned (.tuple #[.pointer q, .bool true]) ∧ ((n < 0 ∨ 262144 < n) → q = none) ∧ ((0 ≤ n ∧ n ≤ 20000) → ∃ x, q = some x) ∧ Still w w' := by
  by_cases h : n < 0 ∨ 262144 < n
  · refine (made_no n w h).mono ?_
    rintro e w' ⟨rfl, rfl⟩
    exact ⟨none, rfl, fun _ => rfl, fun _ => by omega, Only.refl _ _ _⟩
  · obtain ⟨m, rfl⟩ := Int.eq_ofNat_of_zero_le (show 0 ≤ n by omega)
    refine (made_yes m w (by omega) hT h0).mono ?_
    rintro e w' ⟨q, rfl, _, hs⟩
    exact ⟨some q, rfl, fun h' => by omega, fun _ => ⟨q, rfl⟩, hs⟩

set_option maxRecDepth 8000 in
set_option maxHeartbeats 1600000 in
/-- One of the two lengths is refused: no pair, no play. -/
theorem plays_none (n k : Int) (a : Option Addr) (len cap : Nat) (lo hi : Int) (w : World) (hn : n ≤ 20000 ∨ 262144 < n) (hk : k ≤ 20000 ∨ 262144 < k) (hb : (n < 0 ∨ 262144 < n) ∨ (0 ≤ n ∧ n ≤ 20000) ∧ (k < 0 ∨ 262144 < k)) (hT : Tab w) (h0 : 0 < w.heap.size) :
    Calls Tryd.prog 32 #[.int .i64 n, .int .i64 k, .slice a len cap, .int .i64 lo, .int .i64 hi] w fun e w' => e = .returned (.bool true) ∧ Still w w' := by
  have HT := Lib.hid hT; clear hT
  have main : ∀ (h : decide (20000 < n) = false ∨ decide (20000 < n) = true ∧ decide (n ≤ 262144) = false) (h' : decide (20000 < k) = false ∨ decide (20000 < k) = true ∧ decide (k ≤ 262144) = false), Calls Tryd.prog 32 #[.int .i64 n, .int .i64 k, .slice a len cap, .int .i64 lo, .int .i64 hi] w fun e w' => e = .returned (.bool true) ∧ Still w w' := by
    have HN := Lib.hid hn; have HK := Lib.hid hk; have HB := Lib.hid hb; clear hn hk hb
    rintro (hd | ⟨hd, hd2⟩) (hd' | ⟨hd', hd2'⟩) <;>
    · go_enter Tryd.func32, Tryd.ntmps32
      go_wp2_with fail
      refine (alive_any _ HT.out h0).mono ?_
      rintro e w1 ⟨rfl, hs1⟩
      have HT1 : Hid (Tab w1) := HT.out.only hs1 h0
      have HS1 := Lib.hid hs1
      have h01 : 0 < w1.heap.size := Nat.lt_of_lt_of_le h0 hs1.size
      clear hs1
      go_wp2_with fail
      refine (made_both n _ HN.out HT1.out h01).mono ?_
      rintro e w2 ⟨qa, rfl, hqa, hqa2, hs2⟩
      have HQA := Lib.hid hqa; have HQA2 := Lib.hid hqa2
      have HT2 : Hid (Tab w2) := HT1.out.only hs2 h01
      have HS2 : Hid (Still w w2) := HS1.out.trans (hs2.any _ _)
      have h02 : 0 < w2.heap.size := Nat.lt_of_lt_of_le h01 hs2.size
      clear hs2 hqa hqa2
      go_wp2_with fail
      refine (made_both k _ HK.out HT2.out h02).mono ?_
      rintro e w3 ⟨qb, rfl, hqb, hqb2, hs3⟩
      have HQB := Lib.hid hqb
      have HS3 : Hid (Still w w3) := HS2.out.trans (hs3.any _ _)
      clear hs3 hqb hqb2
      rcases HB.out with hbn | ⟨hg, hbk⟩
      · obtain rfl := HQA.out hbn
        clear hbn
        go_wp2
        go_ret
        exact ⟨rfl, HS3.out⟩
      · obtain ⟨xa, rfl⟩ := HQA2.out hg
        obtain rfl := HQB.out hbk
        clear hbk hg
        go_wp2
        go_ret
        exact ⟨rfl, HS3.out⟩
  refine main ?_ ?_
  · rcases hn with h | h
    · exact .inl (decide_eq_false (by omega))
    · exact .inr ⟨decide_eq_true (by omega), decide_eq_false (by omega)⟩
  · rcases hk with h | h
    · exact .inl (decide_eq_false (by omega))
    · exact .inr ⟨decide_eq_true (by omega), decide_eq_false (by omega)⟩

theorem plays_any (n k : Int) (a : Option Addr) (len cap : Nat) (u : Unit) (lo hi : Int) (w : World) (hops : IsOps w a len cap u) (hT : Tab w) (h0 : 0 < w.heap.size) :
    Calls Tryd.prog 32 #[.int .i64 n, .int .i64 k, .slice a len cap, .int .i64 lo, .int .i64 hi] w fun e w' => e = .returned (.bool true) ∧ Still w w' := by
  by_cases h1 : 20000 < n ∧ n ≤ 262144
  · exact plays_midn n k a len cap lo hi w h1 hT h0
  · by_cases h2 : 20000 < k ∧ k ≤ 262144
    · exact plays_midk n k a len cap lo hi w (by omega) h2 hT h0
    · by_cases h3 : (n < 0 ∨ 262144 < n) ∨ (0 ≤ n ∧ n ≤ 20000) ∧ (k < 0 ∨ 262144 < k)
      · exact plays_none n k a len cap lo hi w (by omega) (by omega) h3 hT h0
      · obtain ⟨n', rfl⟩ := Int.eq_ofNat_of_zero_le (show 0 ≤ n by omega)
        obtain ⟨k', rfl⟩ := Int.eq_ofNat_of_zero_le (show 0 ≤ k by omega)
        exact plays_main n' k' a len cap u lo hi w (by omega) (by omega) hops hT h0

set_option maxHeartbeats 800000 in
theorem ones_walk (n k : Int) (a : Option Addr) (len cap : Nat) (u : Unit) (w : World) (_ : (Lit.int .i64 n).wf = true) (_ : (Lit.int .i64 k).wf = true) (hops : IsOps w a len cap u) (hT : Tab w) (h0 : 0 < w.heap.size) :
    Calls Tryd.prog 8 #[.int .i64 n, .int .i64 k, .slice a len cap] w fun e w' => e = .returned (.bool true) ∧ Below w.heap.size w w' := by
  have HT := Lib.hid hT; clear hT
  have HO := Lib.hid hops; clear hops
  go_enter Tryd.func8, Tryd.ntmps8
  go_wp2_with fail
  refine (plays_any n k a len cap u _ _ _ HO.out HT.out h0).mono ?_
  rintro e w1 ⟨rfl, hs⟩
  have HS := Lib.hid hs; clear hs
  go_wp2
  go_ret
  exact ⟨rfl, Still.below HS.out⟩

set_option maxHeartbeats 800000 in
theorem counts_walk (n k : Int) (a : Option Addr) (len cap : Nat) (u : Unit) (w : World) (_ : (Lit.int .i64 n).wf = true) (_ : (Lit.int .i64 k).wf = true) (hops : IsOps w a len cap u) (hT : Tab w) (h0 : 0 < w.heap.size) :
    Calls Tryd.prog 9 #[.int .i64 n, .int .i64 k, .slice a len cap] w fun e w' => e = .returned (.bool true) ∧ Below w.heap.size w w' := by
  have HT := Lib.hid hT; clear hT
  have HO := Lib.hid hops; clear hops
  go_enter Tryd.func9, Tryd.ntmps9
  go_wp2_with fail
  refine (plays_any n k a len cap u _ _ _ HO.out HT.out h0).mono ?_
  rintro e w1 ⟨rfl, hs⟩
  have HS := Lib.hid hs; clear hs
  go_wp2
  go_ret
  exact ⟨rfl, Still.below HS.out⟩

set_option maxHeartbeats 800000 in
theorem looks_walk (n k : Int) (a : Option Addr) (len cap : Nat) (u : Unit) (w : World) (_ : (Lit.int .i64 n).wf = true) (_ : (Lit.int .i64 k).wf = true) (hops : IsOps w a len cap u) (hT : Tab w) (h0 : 0 < w.heap.size) :
    Calls Tryd.prog 10 #[.int .i64 n, .int .i64 k, .slice a len cap] w fun e w' => e = .returned (.bool true) ∧ Below w.heap.size w w' := by
  have HT := Lib.hid hT; clear hT
  have HO := Lib.hid hops; clear hops
  go_enter Tryd.func10, Tryd.ntmps10
  go_wp2_with fail
  refine (plays_any n k a len cap u _ _ _ HO.out HT.out h0).mono ?_
  rintro e w1 ⟨rfl, hs⟩
  have HS := Lib.hid hs; clear hs
  go_wp2
  go_ret
  exact ⟨rfl, Still.below HS.out⟩

set_option maxHeartbeats 800000 in
theorem alls_walk (n k : Int) (a : Option Addr) (len cap : Nat) (u : Unit) (w : World) (_ : (Lit.int .i64 n).wf = true) (_ : (Lit.int .i64 k).wf = true) (hops : IsOps w a len cap u) (hT : Tab w) (h0 : 0 < w.heap.size) :
    Calls Tryd.prog 11 #[.int .i64 n, .int .i64 k, .slice a len cap] w fun e w' => e = .returned (.bool true) ∧ Below w.heap.size w w' := by
  have HT := Lib.hid hT; clear hT
  have HO := Lib.hid hops; clear hops
  go_enter Tryd.func11, Tryd.ntmps11
  go_wp2_with fail
  refine (plays_any n k a len cap u _ _ _ HO.out HT.out h0).mono ?_
  rintro e w1 ⟨rfl, hs⟩
  have HS := Lib.hid hs; clear hs
  go_wp2
  go_ret
  exact ⟨rfl, Still.below HS.out⟩

set_option maxHeartbeats 800000 in
theorem all_walk (n k : Int) (a : Option Addr) (len cap : Nat) (u : Unit) (w : World) (_ : (Lit.int .i64 n).wf = true) (_ : (Lit.int .i64 k).wf = true) (hops : IsOps w a len cap u) (hT : Tab w) (h0 : 0 < w.heap.size) :
    Calls Tryd.prog 12 #[.int .i64 n, .int .i64 k, .slice a len cap] w fun e w' => e = .returned (.bool true) ∧ Below w.heap.size w w' := by
  have HT := Lib.hid hT; clear hT
  have HO := Lib.hid hops; clear hops
  go_enter Tryd.func12, Tryd.ntmps12
  go_wp2_with fail
  refine (plays_any n k a len cap u _ _ _ HO.out HT.out h0).mono ?_
  rintro e w1 ⟨rfl, hs⟩
  have HS := Lib.hid hs; clear hs
  go_wp2
  go_ret
  exact ⟨rfl, Still.below HS.out⟩

end Go.Proofs.YtppeiljecgeifaaDoor
