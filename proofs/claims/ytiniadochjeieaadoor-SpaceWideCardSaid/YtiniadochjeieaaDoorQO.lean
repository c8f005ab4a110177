/-
  The walks of hearthlaw8.within and small; a script that came in.
-/
import Derived.Test.YtiniadochjeieaaDoorQN
namespace Go.Proofs.YtiniadochjeieaaDoor
open Go Go.RowKit

theorem ret_int {a b : Int} (h : a = b) : Ending.returned (.int .i64 a) = .returned (.int .i64 b) := by rw [h]
set_option maxRecDepth 100000 in
set_option maxHeartbeats 800000 in
theorem within_any (x n : Int) (w : World) (hx1 : -9223372036854775808 ≤ x) (hx2 : x ≤ 9223372036854775807) (hn : 0 < n) (hn2 : n ≤ 1000000000000) :
    Calls Tryd.prog 17 #[.int .i64 x, .int .i64 n] w fun e w' => e = .returned (.int .i64 (wi x n)) ∧ w = w' := by
  have hn0 : (n == 0) = false := by simp; omega
  by_cases h : x < 0
  · have e : wi x n = (-(x + 1)) % n := by unfold wi; rw [if_pos h]
    have E := Lib.hid e; clear e
    go_enter Tryd.func17, Tryd.ntmps17
    go_wp2
    go_ret
    exact ⟨ret_int (by rw [E.out, ← Int.neg_tmod, Int.tmod_eq_emod_of_nonneg (by omega)]), rfl⟩
  · have e : wi x n = x % n := by unfold wi; rw [if_neg h]
    have E := Lib.hid e; clear e
    have h0 : 0 ≤ x := by omega
    go_enter Tryd.func17, Tryd.ntmps17
    go_wp2
    go_ret
    exact ⟨ret_int (by rw [E.out]), rfl⟩

/-- A slice of ints that came in. -/
def IsRowI (w : World) (a : Option Addr) (len _ : Nat) (zs : Nat → Int) : Prop :=
  len ≤ 9223372036854775807 ∧ ∀ i, i < len → ∃ x, a = some x ∧ w.cell? (x.add i) = some (.int .i64 (zs i)) ∧ (Lit.int .i64 (zs i)).wf = true
/-- A step of a script. -/
structure OpV where
  k : Int
  a : Int
  b : Int
  c : Int
  la : Option Addr
  ll : Nat
  lc : Nat
  zs : Nat → Int
/-- One step of a script lies at the address. -/
def OpAt (w : World) (x : Addr) (o : OpV) : Prop :=
  (∃ who, w.cell? x = some (.int .i64 who)) ∧ w.cell? ⟨x.block, x.off + 1, none⟩ = some (.int .i64 o.k) ∧ w.cell? ⟨x.block, x.off + 2, none⟩ = some (.int .i64 o.a) ∧ w.cell? ⟨x.block, x.off + 3, none⟩ = some (.int .i64 o.b) ∧ w.cell? ⟨x.block, x.off + 4, none⟩ = some (.int .i64 o.c) ∧
    w.cell? ⟨x.block, x.off + 5, none⟩ = some (.slice o.la o.ll o.lc) ∧ (Lit.int .i64 o.a).wf = true ∧ (Lit.int .i64 o.b).wf = true ∧ (Lit.int .i64 o.c).wf = true ∧ IsRowI w o.la o.ll o.lc o.zs
/-- A script that came in. -/
def IsOps (w : World) (a : Option Addr) (len : Nat) (os : Nat → OpV) : Prop :=
  len ≤ 9223372036854775807 ∧ ∀ i, i < len → ∃ x, a = some x ∧ OpAt w (x.add (i * 6)) (os i)

/-- The lists of the first i steps, added up. -/
def smTo (os : Nat → OpV) : Nat → Nat
  | 0 => 0
  | i + 1 => smTo os i + (os i).ll
/-- Are a script's lists short enough? -/
def smallB (os : Nat → OpV) (len : Nat) : Bool := (List.range (min len 120)).all (fun i => decide ((os i).ll ≤ 400)) && decide (smTo os (min len 120) ≤ 8000)
theorem smTo_le (os : Nat → OpV) : ∀ i k, smTo os i ≤ smTo os (i + k)
  | _, 0 => Nat.le_refl _
  | i, k + 1 => Nat.le_trans (smTo_le os i k) (Nat.le_add_right _ _)
theorem smTo_mono (os : Nat → OpV) {i j : Nat} (h : i ≤ j) : smTo os i ≤ smTo os j := by
  have := smTo_le os i (j - i)
  rwa [show i + (j - i) = j by omega] at this
theorem smallB_ll {os : Nat → OpV} {len : Nat} (h : smallB os len = true) : ∀ i, i < len → i < 120 → (os i).ll ≤ 400 := by
  unfold smallB at h
  rw [Bool.and_eq_true, List.all_eq_true] at h
  intro i h1 h2
  have := h.1 i (List.mem_range.2 (by omega))
  simpa using this
theorem smallB_true {os : Nat → OpV} {len i : Nat} (h : ∀ j, j < i → (os j).ll ≤ 400) (hi : i = min len 120) (hs : smTo os i ≤ 8000) : smallB os len = true := by
  unfold smallB
  subst hi
  rw [Bool.and_eq_true, List.all_eq_true]
  exact ⟨fun j hj => decide_eq_true (h j (List.mem_range.1 hj)), decide_eq_true hs⟩
theorem smallB_far {os : Nat → OpV} {len i : Nat} (hi : i ≤ min len 120) (hs : 8000 < smTo os i) : smallB os len = false := by
  unfold smallB
  rw [decide_eq_false (by have := smTo_mono os hi; omega), Bool.and_false]
theorem smallB_long {os : Nat → OpV} {len i : Nat} (hi : i < min len 120) (hs : 400 < (os i).ll) : smallB os len = false := by
  cases h : smallB os len with
  | false => rfl
  | true => have := smallB_ll h i (by omega) (by omega); omega
set_option maxRecDepth 100000 in
set_option maxHeartbeats 1600000 in
theorem small_any (a : Option Addr) (len cap : Nat) (os : Nat → OpV) (w : World) (h : IsOps w a len os) :
    Calls Tryd.prog 13 #[.slice a len cap] w fun e w' => e = .returned (.bool (smallB os len)) ∧ w = w' := by
  have hle : (len : Int) ≤ 9223372036854775807 := by have := h.1; omega
  have H := Lib.hid h; clear h
  obtain ⟨b, hb⟩ : ∃ b, smallB os len = b := ⟨_, rfl⟩
  rw [hb]
  have HB := Lib.hid hb; clear hb
  go_enter Tryd.func13, Tryd.ntmps13
  go_wp2_with fail
  go_loopw [3, 4] (fun y z wr => ∃ (n i : Nat), y = .int .i64 (n : Int) ∧ z = .int .i64 (i : Int) ∧ i ≤ len ∧ i ≤ 120 ∧ n ≤ 8400 ∧ (n = smTo os i ∧ ∀ j, j < i → (os j).ll ≤ 400) ∧ wr = w) (fun _ z _ => 200 - (intOf z).toNat)
  case atStart => exact ⟨0, 0, rfl, rfl, by omega, by omega, by omega, ⟨rfl, fun j hj => by omega⟩, rfl⟩
  case round =>
    obtain ⟨n, i, rfl, rfl, hi, hi2, hn, hall, rfl⟩ := hrel
    have HALL := Lib.hid hall; clear hall
    have hi0 : (0 : Int) ≤ (i : Int) := by omega
    have hn0 : (n : Int) ≤ 8400 := by omega
    have hn1 : (0 : Int) ≤ (n : Int) := by omega
    by_cases hg : i < len ∧ i < 120 ∧ n ≤ 8000
    · have g1 : decide ((i : Int) < (len : Int)) = true := decide_eq_true (by omega)
      have g2 : decide ((i : Int) < 120) = true := decide_eq_true (by omega)
      have g3 : decide ((n : Int) ≤ 8000) = true := decide_eq_true (by omega)
      have g4 : (i : Int) < (len : Int) := by omega
      obtain ⟨x, rfl, hop⟩ := H.out.2 i hg.1
      obtain ⟨_, _, _, _, _, hl, _, _, _, hr⟩ := hop
      have hll : ((os i).ll : Int) ≤ 9223372036854775807 := by have := hr.1; omega
      have hll0 : (0 : Int) ≤ ((os i).ll : Int) := by omega
      obtain ⟨l, hlq⟩ : ∃ l, (os i).ll = l := ⟨_, rfl⟩
      rw [hlq] at hl hll hll0
      have HLQ := Lib.hid hlq
      have HG := Lib.hid hg
      clear hlq hr hg
      have e1 : (x.add (i * 6)).block = x.block ∧ (x.add (i * 6)).off = x.off + i * 6 := by unfold Addr.add; split <;> simp_all
      rw [e1.1, e1.2] at hl
      by_cases h4 : l ≤ 400
      · have h4d : decide ((400 : Int) < (l : Int)) = false := decide_eq_false (by omega)
        have hw1 : IntKind.i64.wrap ((n : Int) + (l : Int)) = (n : Int) + (l : Int) := by rw [IntKind.wrap_i64]; omega
        go_wp2
        go_roundw
        case rel =>
          refine ⟨n + l, i + 1, by go_num, by go_num, by have := HG.out; omega, by have := HG.out; omega, by have := HG.out; omega, ?_, trivial⟩
          refine ⟨by show n + l = smTo os i + (os i).ll; rw [HALL.out.1, HLQ.out], fun j hj => ?_⟩
          by_cases ej : j = i
          · subst ej; rw [HLQ.out]; exact h4
          · exact HALL.out.2 j (by omega)
        case measure => have := HG.out; simp [intOf]; omega
      · have h4d : decide ((400 : Int) < (l : Int)) = true := decide_eq_true (by omega)
        go_wp2
        go_ret
        exact ⟨by have h := smallB_long (os := os) (len := len) (i := i) (by have := HG.out; omega) (by rw [HLQ.out]; omega); rw [HB.out] at h; rw [h]; rfl, rfl⟩
    · have HG := Lib.hid hg
      by_cases g1 : i < len
      · have d1 : decide ((i : Int) < (len : Int)) = true := decide_eq_true (by omega)
        by_cases g2 : i < 120
        · have d2 : decide ((i : Int) < 120) = true := decide_eq_true (by omega)
          have d3 : decide ((n : Int) ≤ 8000) = false := decide_eq_false (by omega)
          clear hg
          go_wp2
          go_ret
          exact ⟨by have h := smallB_far (os := os) (len := len) (i := i) (by omega) (by have := HG.out; rw [← HALL.out.1]; omega); rw [HB.out] at h; rw [h]; rfl, rfl⟩
        · have d2 : decide ((i : Int) < 120) = false := decide_eq_false (by omega)
          clear hg
          have hfin : i = 120 := by omega
          have hbb : decide ((n : Int) ≤ 8000) = b := by
            rw [← HB.out]
            by_cases h8 : n ≤ 8000
            · rw [decide_eq_true (by omega), smallB_true HALL.out.2 (by omega) (by rw [← HALL.out.1]; exact h8)]
            · rw [decide_eq_false (by omega), smallB_far (i := i) (by omega) (by rw [← HALL.out.1]; omega)]
          go_wp2
          go_ret
          exact ⟨rfl, rfl⟩
      · have d1 : decide ((i : Int) < (len : Int)) = false := decide_eq_false (by omega)
        clear hg
        have hfin : i = len := by omega
        have hbb : decide ((n : Int) ≤ 8000) = b := by
          rw [← HB.out]
          by_cases h8 : n ≤ 8000
          · rw [decide_eq_true (by omega), smallB_true HALL.out.2 (by omega) (by rw [← HALL.out.1]; exact h8)]
          · rw [decide_eq_false (by omega), smallB_far (i := i) (by omega) (by rw [← HALL.out.1]; omega)]
        go_wp2
        go_ret
        exact ⟨rfl, rfl⟩
end Go.Proofs.YtiniadochjeieaaDoor

namespace Go.Proofs.YtiniadochjeieaaDoor
open Go Go.RowKit

/-- The first two objects of a new space of one page, and the link behind them. -/
theorem two_taken (s1 : St) (a : Nat) (t1 : (St.new 1).take 3 = (s1, (a : Int), 0, 0)) (k1 : (St.new 1).Took s1 3 a) (i2 : (s1.put a 1 3 0).Inv) :
    a = 0 ∧ ∃ s3, (s1.put a 1 3 0).take 3 = (s3, ((4 : Nat) : Int), 0, 0) ∧ ((s1.put a 1 3 0).Took s3 3 4 → (s3.put 4 1 3 0).Inv → (s3.put 4 1 3 0).W 8 = 100 ∧ 8 < 64 * (s3.put 4 1 3 0).n) := by
  obtain ⟨s1', e1, e2, e3⟩ := first_take
  rw [t1] at e1
  injection e1 with e4 e5
  injection e5 with e5 _
  subst e4
  obtain rfl : a = 0 := by omega
  refine ⟨rfl, ?_⟩
  have hb0 : ∀ x, (s1.put 0 1 3 0).B 0 x = if x = 0 then true else false := fun x => by
    rw [put_has, k1.b0]; rfl
  have hn : (s1.put 0 1 3 0).n = 1 := e3
  have hP : (s1.put 0 1 3 0).P 0 = ⟨1, ((1 : Nat) : Int), 0⟩ := e2
  have hh : (s1.put 0 1 3 0).hd0 1 = ((1 * 4 : Nat) : Int) := by
    unfold St.hd0
    rw [hn]
    exact next_one i2 hn hP 1 0 (by omega) (by omega) (by rw [hb0]; rfl) (fun j _ hj => by rw [hb0]; obtain rfl : j = 0 := by omega
                                                                                           rfl)
  have hlow : (s1.put 0 1 3 0).low ≤ (s1.put 0 1 3 0).n := by
    show s1.low ≤ s1.n
    rw [e3]
    have : s1 = ((St.new 1).take 3).1 := by rw [t1]
    rw [this]
    rcases (new_inv 1 (by omega) (by omega)).takeSmall (z := 3) (c := 1) (by omega) (by decide) (Nat.zero_le _) with ⟨b, hb, ht⟩ | ⟨_, _, ht⟩ | ⟨_, hf, _, ht⟩
    · rw [ht]; exact Nat.zero_le _
    · rw [t1] at ht; injection ht with _ e; injection e with _ e; injection e with e _; exact absurd e (by decide)
    · rw [ht]; show (St.new 1).ff ≤ 1; have hf : (St.new 1).ff < 1 := hf; omega
  rcases i2.takeSmall (z := 3) (c := 1) (by omega) (by decide) hlow with ⟨b, hb, ht⟩ | ⟨he, _, _⟩ | ⟨he, _⟩
  · rw [hh] at hb
    obtain rfl : b = 4 := by omega
    refine ⟨_, ht, fun k3 i3 => ?_⟩
    generalize (s1.put 0 1 3 0).setB 2 _ = s3 at *
    have hb3 : ∀ x, (s3.put 4 1 3 0).B 0 x = if x = 4 then true else if x = 0 then true else false := fun x => by
      rw [put_has, k3.b0, hb0]
    have hn3 : (s3.put 4 1 3 0).n = 1 := k3.n.trans hn
    have hP3 : (s3.put 4 1 3 0).P 0 = ⟨1, ((1 : Nat) : Int), 0⟩ := by
      show s3.P 0 = _
      have hs3 : s3 = ((s1.put 0 1 3 0).take 3).1 := by rw [ht]
      rw [hs3]
      rcases i2.takeSmall (z := 3) (c := 1) (by omega) (by decide) hlow with ⟨b, _, ht'⟩ | ⟨he, _, _⟩ | ⟨he, _⟩
      · rw [ht']; exact hP
      · have := (free_one i2 hn hP 4).2 ⟨⟨1, by omega, rfl⟩, by rw [hb0]; rfl⟩
        rw [he 4] at this; cases this
      · have := (free_one i2 hn hP 4).2 ⟨⟨1, by omega, rfl⟩, by rw [hb0]; rfl⟩
        rw [he 4] at this; cases this
    have hf8 : (s3.put 4 1 3 0).B 2 8 = true := (free_one i3 hn3 hP3 8).2 ⟨⟨2, by omega, rfl⟩, by rw [hb3]; rfl⟩
    refine ⟨?_, by rw [hn3]; omega⟩
    rw [i3.lnk 1 (by omega) 8 hf8]
    unfold St.link
    rw [hn3]
    have := next_one i3 hn3 hP3 3 9 (by omega) (by omega) (by rw [hb3]; rfl) (fun j hj hj2 => by omega)
    show Sp.lnk (Bm.next ((s3.put 4 1 3 0).B 2) 64 ((9 : Nat) : Int)) = 100
    rw [this]
    decide
  · have := (free_one i2 hn hP 4).2 ⟨⟨1, by omega, rfl⟩, by rw [hb0]; rfl⟩
    rw [he 4] at this; cases this
  · have := (free_one i2 hn hP 4).2 ⟨⟨1, by omega, rfl⟩, by rw [hb0]; rfl⟩
    rw [he 4] at this; cases this

set_option maxRecDepth 100000 in
set_option maxHeartbeats 1600000 in
theorem alive_any (w : World) (hT : Tab w) (h0 : 0 < w.heap.size) :
    Calls Tryd.prog 19 #[] w fun e w' => e = .returned (.bool true) ∧ Still w w' := by
  have HNW := Lib.hid (snew_yes 1 w (by omega) (by omega) hT h0)
  clear hT h0
  go_enter Tryd.func19, Tryd.ntmps19
  go_wp2_with fail
  refine HNW.out _ (fun w1 L hlo hs hst => ?_)
  have HS := Lib.hid hs
  have HST := Lib.hid hst
  have HLO := Lib.hid hlo
  clear hs hst HNW hlo
  go_wp2_with fail
  have hf13 : Sp.fits 1 3 = true := by decide
  obtain ⟨s1', e1, e2, e3⟩ := first_take
  refine alloc_inv w1 L (St.new 1) HS.out (new_inv 1 (by omega) (by omega)) 1 3 0 (by decide) (by decide) _ (fun hf => absurd hf13 (by rw [hf]; decide)) (fun l w' _ e => ?_) (fun s1 a w2 _ ht hk hsp hi ho => ?_)
  · rw [e1] at e; injection e with _ e; injection e with _ e; injection e with e _; exact absurd e (by decide)
  obtain ⟨rfl, s3, ht3, hlast⟩ := two_taken s1 a ht hk hi
  have HS2 := Lib.hid hsp
  have HI2 := Lib.hid hi
  have HST2 : Hid (Still w w2) := Lib.hid (HST.out.trans' ho (.inr (Nat.le_of_eq HLO.out.symm)) (.inr (Nat.le_of_eq HLO.out.symm)))
  have HT3 := Lib.hid ht3
  have HLAST := Lib.hid hlast
  have hacts : (s1.put 0 1 3 0).acts + 2 ≤ 1000000000000 := by show s1.acts + 2 + 2 ≤ _; rw [hk.acts]; decide
  have hls := hsp.sblt
  have HLH := Lib.hid hsp.top
  clear hsp hi ho ht3 hlast ht hk e1 e2 e3 HS HST
  generalize s1.put 0 1 3 0 = s2 at *
  go_wp2_with fail
  have hB0 := heap_alloc_new w2 (.cells #[.int .i64 0, .int .i64 0] 56)
  have HS3 := Lib.hid (HS2.out.alloc (.cells #[.int .i64 0, .int .i64 0] 56))
  have HST3 := Lib.hid (HST2.out.alloc (.cells #[.int .i64 0, .int .i64 0] 56))
  have HL3 : Hid (w2.heap.size < (w2.alloc (.cells #[.int .i64 0, .int .i64 0] 56)).heap.size) := Lib.hid (by simp)
  generalize w2.alloc (.cells #[.int .i64 0, .int .i64 0] 56) = w3 at *
  clear HS2 HST2
  refine alloc_inv w3 L s2 HS3.out HI2.out 1 3 0 (by decide) hacts _ (fun hf => absurd hf13 (by rw [hf]; decide)) (fun l w' _ e => ?_) (fun s4 a w4 _ ht hk hsp hi ho => ?_)
  · rw [HT3.out] at e; injection e with _ e; injection e with _ e; injection e with e _; exact absurd e (by decide)
  rw [HT3.out] at ht
  injection ht with es ea
  injection ea with ea _
  subst es
  obtain rfl : a = 4 := by omega
  obtain ⟨hW, h8⟩ := HLAST.out hk hi
  have HS4 := Lib.hid hsp
  have HST4 : Hid (Still w w4) := Lib.hid (HST3.out.trans' ho (.inr (Nat.le_of_eq HLO.out.symm)) (.inr (Nat.le_of_eq HLO.out.symm)))
  have hB1 : w4.heap[w2.heap.size]? = some (.cells #[.int .i64 0, .int .i64 0] 56) := (ho.block _ HL3.out (.inr HLH.out)).trans hB0
  have HB1 := Lib.hid hB1
  have hlB1 := (Array.getElem?_eq_some_iff.1 hB1).1
  clear hsp hi ho hk hB0 hB1 HS3 HST3 HL3 HLAST
  generalize s3.put 4 1 3 0 = s5 at *
  go_wp2_with fail
  have hB4 := heap_alloc_new w4 (.cells #[.int .i64 0, .int .i64 0] 56)
  have hB5 : (w4.alloc (.cells #[.int .i64 0, .int .i64 0] 56)).heap[w2.heap.size]? = some (.cells #[.int .i64 0, .int .i64 0] 56) := by rw [Below.heap_alloc _ _ _ hlB1]; exact HB1.out
  have HS6 := Lib.hid (HS4.out.alloc (.cells #[.int .i64 0, .int .i64 0] 56))
  have HST6 := Lib.hid (HST4.out.alloc (.cells #[.int .i64 0, .int .i64 0] 56))
  generalize w4.alloc (.cells #[.int .i64 0, .int .i64 0] 56) = w6 at *
  refine (peek_in w6 L s5 HS6.out 8 h8).mono ?_
  rintro e w7 ⟨rfl, rfl⟩
  rw [hW]
  have c0 := cell_of (v := .int .i64 0) hB5 0 rfl
  have c1 := cell_of (v := .int .i64 0) hB5 1 rfl
  have d0 := cell_of (v := .int .i64 0) hB4 0 rfl
  have d1 := cell_of (v := .int .i64 0) hB4 1 rfl
  have l0 := (Array.getElem?_eq_some_iff.1 hB5).1
  have l1 := (Array.getElem?_eq_some_iff.1 hB4).1
  clear hB4 hB5
  go_wp2_with fail
  go_ret
  exact ⟨rfl, HST6.out⟩
end Go.Proofs.YtiniadochjeieaaDoor

namespace Go.Proofs.YtiniadochjeieaaDoor
open Go Go.RowKit

/-- An object as the laws keep it. -/
structure Ob where
  at' : Nat
  sh : Sh
def Ob.cells (o : Ob) : List Value := [.int .i64 (o.at' : Int), .int .i64 o.sh.k, .int .i64 o.sh.z, .int .i64 o.sh.s, .int .i64 o.sh.t]
def obCells (os : List Ob) : List Value := os.flatMap Ob.cells
theorem obCells_length (os : List Ob) : (obCells os).length = os.length * 5 := by
  unfold obCells
  induction os with
  | nil => rfl
  | cons o os ih => simp only [List.flatMap_cons, List.length_append, ih, List.length_cons]; show 5 + _ = _; omega
/-- What the laws' list says of a space. -/
structure Agree (s : St) (os : List Ob) : Prop where
  here : ∀ o ∈ os, s.B 0 o.at' = true ∧ s.sh o.at' = o.sh
  all : ∀ a, s.B 0 a = true → ∃ o ∈ os, o.at' = a
  once : (os.map Ob.at').Nodup
/-- The world of a law. -/
structure Wld (w : World) (L : Lay) (s : St) (wb : Nat) (os : List Ob) (v : Value) : Prop where
  pos : 0 < wb
  lo : wb < L.lo
  head : w.heap[wb]? = some (.cells #[.int .i64 (s.n : Int), .pointer (some ⟨L.sb, 0, none⟩), v, .int .i64 s.ser] 30 (0, 0))
  row : w.ownsRow L.hi 34 5 v os.length (obCells os)
  sp : SpaceAt w L s
  inv : s.Inv
  agree : Agree s os
theorem Wld.c0 {w : World} {L : Lay} {s : St} {wb : Nat} {os : List Ob} {v : Value} (h : Wld w L s wb os v) : w.cell? ⟨wb, 0, none⟩ = some (.int .i64 (s.n : Int)) := cell_of h.head 0 rfl
theorem Wld.c1 {w : World} {L : Lay} {s : St} {wb : Nat} {os : List Ob} {v : Value} (h : Wld w L s wb os v) : w.cell? ⟨wb, 1, none⟩ = some (.pointer (some ⟨L.sb, 0, none⟩)) := cell_of h.head 1 rfl
theorem Wld.c2 {w : World} {L : Lay} {s : St} {wb : Nat} {os : List Ob} {v : Value} (h : Wld w L s wb os v) : w.cell? ⟨wb, 2, none⟩ = some v := cell_of h.head 2 rfl
theorem Wld.c3 {w : World} {L : Lay} {s : St} {wb : Nat} {os : List Ob} {v : Value} (h : Wld w L s wb os v) : w.cell? ⟨wb, 3, none⟩ = some (.int .i64 s.ser) := cell_of h.head 3 rfl
theorem Wld.f {w : World} {L : Lay} {s : St} {wb : Nat} {os : List Ob} {v : Value} (h : Wld w L s wb os v) (j : Nat) : w.frozen? ⟨wb, j, none⟩ = false := frozen_of h.head j
theorem Wld.lt {w : World} {L : Lay} {s : St} {wb : Nat} {os : List Ob} {v : Value} (h : Wld w L s wb os v) : wb < w.heap.size := (Array.getElem?_eq_some_iff.1 h.head).1

theorem agree_new (n : Nat) : Agree (St.new n) [] := ⟨fun o ho => (by cases ho), fun a ha => (by cases ha), List.nodup_nil⟩

set_option maxRecDepth 100000 in
set_option maxHeartbeats 1600000 in
theorem begun_any (n : Int) (w : World) (hn1 : -9223372036854775808 ≤ n) (hn2 : n ≤ 9223372036854775807) (hT : Tab w) (h0 : 0 < w.heap.size) (Q : Ending → World → Prop)
    (hQ : ∀ w' L wb, w.heap.size ≤ wb → Wld w' L (St.new (1 + (wi n 12).toNat)) wb [] (.slice none 0 0) → Still w w' → Q (.returned (.pointer (some ⟨wb, 0, none⟩))) w') :
    Calls Tryd.prog 11 #[.int .i64 n] w Q := by
  have HQ := Lib.hid hQ
  have hwi := wi_range n 12 (by omega)
  obtain ⟨m, hm⟩ : ∃ m : Nat, wi n 12 = (m : Int) := ⟨(wi n 12).toNat, by omega⟩
  rw [hm, Int.toNat_natCast] at HQ
  have hm12 : (m : Int) < 12 := by omega
  have hm0 : (0 : Int) ≤ (m : Int) := by omega
  have HT := Lib.hid hT
  have H0 := Lib.hid h0
  have HWI := Lib.hid (within_any n 12 w hn1 hn2 (by omega) (by omega))
  rw [hm] at HWI
  clear hQ hT h0 hwi hm
  go_enter Tryd.func11, Tryd.ntmps11
  go_wp2_with fail
  refine HWI.out.mono ?_
  rintro e w1 ⟨rfl, rfl⟩
  go_wp2_with fail
  have hB0 := heap_alloc_new w (.cells #[.int .i64 (1 + (m : Int)), .pointer none, .slice none 0 0, .int .i64 0] 30)
  have hs1 : Still w (w.alloc (.cells #[.int .i64 (1 + (m : Int)), .pointer none, .slice none 0 0, .int .i64 0] 30)) := (Only.refl _ _ w).alloc _
  have HT1 := Lib.hid (HT.out.only hs1 H0.out)
  have H01 : Hid (0 < (w.alloc (.cells #[.int .i64 (1 + (m : Int)), .pointer none, .slice none 0 0, .int .i64 0] 30)).heap.size) := Lib.hid (by simp)
  have HL1 : Hid (w.heap.size < (w.alloc (.cells #[.int .i64 (1 + (m : Int)), .pointer none, .slice none 0 0, .int .i64 0] 30)).heap.size) := Lib.hid (by simp)
  generalize w.alloc (.cells #[.int .i64 (1 + (m : Int)), .pointer none, .slice none 0 0, .int .i64 0] 30) = w2 at *
  have HS1 := Lib.hid hs1
  obtain ⟨M, hM⟩ : ∃ M : Nat, 1 + m = M := ⟨_, rfl⟩
  have hMI : (1 : Int) + (m : Int) = (M : Int) := by omega
  rw [hM] at HQ
  rw [hMI] at hB0 ⊢
  have hM1 : (1 : Int) ≤ (M : Int) := by omega
  have hM2 : (M : Int) ≤ 12 := by omega
  have hmul : IntKind.i64.wrap (64 * (M : Int)) = 64 * (M : Int) := by rw [IntKind.wrap_i64]; omega
  clear hs1
  refine snew_yes M w2 (by omega) (by omega) HT1.out H01.out _ (fun w3 L hlo hs hst => ?_)
  have hB1 : w3.heap[w.heap.size]? = some (.cells #[.int .i64 (M : Int), .pointer none, .slice none 0 0, .int .i64 0] 30) := (hst.block _ HL1.out (.inl HL1.out)).trans hB0
  have HSP := Lib.hid hs
  have HST := Lib.hid (Still.trans HS1.out hst)
  have HLO := Lib.hid hlo
  have HB1 := Lib.hid hB1
  have c0 := cell_of (v := .int .i64 (M : Int)) hB1 0 rfl
  have c1 := cell_of (v := .pointer none) hB1 1 rfl
  have f1 := frozen_of hB1 1
  have l1 := (Array.getElem?_eq_some_iff.1 hB1).1
  have hls := hs.sblt
  have HWD := Lib.hid (fun k => words_len (w3.drewN k) L (St.new M) (hs.drewN k))
  have hnn : ((64 * (St.new M).n : Nat) : Int) = 64 * (M : Int) := by show ((64 * M : Nat) : Int) = _; omega
  rw [hnn] at HWD
  clear hlo hs hst hB0 hB1 hnn
  go_wp2_with fail
  go_quiet (((go_at_call 43; exact quiet_eq (HWD.out _))))
  go_wp2_with fail
  show Q (.returned (.pointer (some ⟨w.heap.size, 0, none⟩))) ((w3.drewN nq).setCell ⟨w.heap.size, 1, none⟩ (.pointer (some ⟨L.sb, 0, none⟩)))
  have hlo : w.heap.size < L.lo := by rw [HLO.out]; exact HL1.out
  refine HQ.out _ L w.heap.size (Nat.le_refl _) ⟨H0.out, hlo, ?_, World.ownsRow_nil _ _ _ _, ?_, new_inv M (by omega) (by omega), agree_new M⟩ ((HST.out.drewN nq).setCell (.inr (Nat.le_refl _)) _)
  · have hb : (w3.drewN nq).heap[w.heap.size]? = some (.cells #[.int .i64 (M : Int), .pointer none, .slice none 0 0, .int .i64 0] 30) := HB1.out
    simp only [World.setCell, Array.getElem?_modify, hb]
    simp
    exact ⟨rfl, rfl⟩
  · exact (HSP.out.drewN nq).kept (only_cell _ _ _ _) (.inr (by omega)) H0.out
end Go.Proofs.YtiniadochjeieaaDoor
