/-
  The walks of hearthlaw8.within and small; a script that came in.
-/
import Derived.Test.YtfbcdmhmpfijjaaGreatDoorQN
namespace Go.Proofs.YtfbcdmhmpfijjaaGreatDoor
open Go Go.RowKit

/-- A slice of ints that came in. -/
def IsRowI (w : World) (a : Option Addr) (len _ : Nat) (zs : Nat → Int) : Prop :=
  len ≤ 9223372036854775807 ∧ ∀ i, i < len → ∃ x, a = some x ∧ w.cell? (x.add i) = some (.int .i64 (zs i)) ∧ (Lit.int .i64 (zs i)).wf = true
/-- A step of a script. -/
structure OpV where
  k : Int
  a : Int
  b : Int
  c : Int
  la : Option Addr
  ll : Nat
  lc : Nat
  zs : Nat → Int
/-- One step of a script lies at the address. -/
def OpAt (w : World) (x : Addr) (o : OpV) : Prop :=
  (∃ who, w.cell? x = some (.int .i64 who)) ∧ w.cell? ⟨x.block, x.off + 1, none⟩ = some (.int .i64 o.k) ∧ w.cell? ⟨x.block, x.off + 2, none⟩ = some (.int .i64 o.a) ∧ w.cell? ⟨x.block, x.off + 3, none⟩ = some (.int .i64 o.b) ∧ w.cell? ⟨x.block, x.off + 4, none⟩ = some (.int .i64 o.c) ∧
    w.cell? ⟨x.block, x.off + 5, none⟩ = some (.slice o.la o.ll o.lc) ∧ (Lit.int .i64 o.a).wf = true ∧ (Lit.int .i64 o.b).wf = true ∧ (Lit.int .i64 o.c).wf = true ∧ IsRowI w o.la o.ll o.lc o.zs
/-- A script that came in. -/
def IsOps (w : World) (a : Option Addr) (len : Nat) (os : Nat → OpV) : Prop :=
  len ≤ 9223372036854775807 ∧ ∀ i, i < len → ∃ x, a = some x ∧ OpAt w (x.add (i * 6)) (os i)

end Go.Proofs.YtfbcdmhmpfijjaaGreatDoor

namespace Go.Proofs.YtfbcdmhmpfijjaaGreatDoor
open Go Go.RowKit

/-- The first two objects of a new space of one page, and the link behind them. -/
theorem two_taken (s1 : St) (a : Nat) (t1 : (St.new 1).take 3 = (s1, (a : Int), 0, 0)) (k1 : (St.new 1).Took s1 3 a) (i2 : (s1.put a 1 3 0).Inv) :
    a = 0 ∧ ∃ s3, (s1.put a 1 3 0).take 3 = (s3, ((4 : Nat) : Int), 0, 0) ∧ ((s1.put a 1 3 0).Took s3 3 4 → (s3.put 4 1 3 0).Inv → (s3.put 4 1 3 0).W 8 = 100 ∧ 8 < 64 * (s3.put 4 1 3 0).n) := by
  obtain ⟨s1', e1, e2, e3⟩ := first_take
  rw [t1] at e1
  injection e1 with e4 e5
  injection e5 with e5 _
  subst e4
  obtain rfl : a = 0 := by omega
  refine ⟨rfl, ?_⟩
  have hb0 : ∀ x, (s1.put 0 1 3 0).B 0 x = if x = 0 then true else false := fun x => by
    rw [put_has, k1.b0]; rfl
  have hn : (s1.put 0 1 3 0).n = 1 := e3
  have hP : (s1.put 0 1 3 0).P 0 = ⟨1, ((1 : Nat) : Int), 0⟩ := e2
  have hh : (s1.put 0 1 3 0).hd0 1 = ((1 * 4 : Nat) : Int) := by
    unfold St.hd0
    rw [hn]
    exact next_one i2 hn hP 1 0 (by omega) (by omega) (by rw [hb0]; rfl) (fun j _ hj => by rw [hb0]; obtain rfl : j = 0 := by omega
                                                                                           rfl)
  have hlow : (s1.put 0 1 3 0).low ≤ (s1.put 0 1 3 0).n := by
    show s1.low ≤ s1.n
    rw [e3]
    have : s1 = ((St.new 1).take 3).1 := by rw [t1]
    rw [this]
    rcases (new_inv 1 (by omega) (by omega)).takeSmall (z := 3) (c := 1) (by omega) (by decide) (Nat.zero_le _) with ⟨b, hb, ht⟩ | ⟨_, _, ht⟩ | ⟨_, hf, _, ht⟩
    · rw [ht]; exact Nat.zero_le _
    · rw [t1] at ht; injection ht with _ e; injection e with _ e; injection e with e _; exact absurd e (by decide)
    · rw [ht]; show (St.new 1).ff ≤ 1; have hf : (St.new 1).ff < 1 := hf; omega
  rcases i2.takeSmall (z := 3) (c := 1) (by omega) (by decide) hlow with ⟨b, hb, ht⟩ | ⟨he, _, _⟩ | ⟨he, _⟩
  · rw [hh] at hb
    obtain rfl : b = 4 := by omega
    refine ⟨_, ht, fun k3 i3 => ?_⟩
    generalize (s1.put 0 1 3 0).setB 2 _ = s3 at *
    have hb3 : ∀ x, (s3.put 4 1 3 0).B 0 x = if x = 4 then true else if x = 0 then true else false := fun x => by
      rw [put_has, k3.b0, hb0]
    have hn3 : (s3.put 4 1 3 0).n = 1 := k3.n.trans hn
    have hP3 : (s3.put 4 1 3 0).P 0 = ⟨1, ((1 : Nat) : Int), 0⟩ := by
      show s3.P 0 = _
      have hs3 : s3 = ((s1.put 0 1 3 0).take 3).1 := by rw [ht]
      rw [hs3]
      rcases i2.takeSmall (z := 3) (c := 1) (by omega) (by decide) hlow with ⟨b, _, ht'⟩ | ⟨he, _, _⟩ | ⟨he, _⟩
      · rw [ht']; exact hP
      · have := (free_one i2 hn hP 4).2 ⟨⟨1, by omega, rfl⟩, by rw [hb0]; rfl⟩
        rw [he 4] at this; cases this
      · have := (free_one i2 hn hP 4).2 ⟨⟨1, by omega, rfl⟩, by rw [hb0]; rfl⟩
        rw [he 4] at this; cases this
    have hf8 : (s3.put 4 1 3 0).B 2 8 = true := (free_one i3 hn3 hP3 8).2 ⟨⟨2, by omega, rfl⟩, by rw [hb3]; rfl⟩
    refine ⟨?_, by rw [hn3]; omega⟩
    rw [i3.lnk 1 (by omega) 8 hf8]
    unfold St.link
    rw [hn3]
    have := next_one i3 hn3 hP3 3 9 (by omega) (by omega) (by rw [hb3]; rfl) (fun j hj hj2 => by omega)
    show Sp.lnk (Bm.next ((s3.put 4 1 3 0).B 2) 64 ((9 : Nat) : Int)) = 100
    rw [this]
    decide
  · have := (free_one i2 hn hP 4).2 ⟨⟨1, by omega, rfl⟩, by rw [hb0]; rfl⟩
    rw [he 4] at this; cases this
  · have := (free_one i2 hn hP 4).2 ⟨⟨1, by omega, rfl⟩, by rw [hb0]; rfl⟩
    rw [he 4] at this; cases this

set_option maxRecDepth 100000 in
set_option maxHeartbeats 1600000 in
theorem alive_any (w : World) (hT : Tab w) (h0 : 0 < w.heap.size) :
    Calls Tryz.prog 12 #[] w fun e w' => e = .returned (.bool true) ∧ Still w w' := by
  have HNW := Lib.hid (snew_yes 1 w (by omega) (by omega) hT h0)
  clear hT h0
  go_enter Tryz.func12, Tryz.ntmps12
  go_wp2_with fail
  refine HNW.out _ (fun w1 L hlo hs hst => ?_)
  have HS := Lib.hid hs
  have HST := Lib.hid hst
  have HLO := Lib.hid hlo
  clear hs hst HNW hlo
  go_wp2_with fail
  have hf13 : Sp.fits 1 3 = true := by decide
  obtain ⟨s1', e1, e2, e3⟩ := first_take
  refine alloc_inv w1 L (St.new 1) HS.out (new_inv 1 (by omega) (by omega)) 1 3 0 (by decide) (by decide) _ (fun hf => absurd hf13 (by rw [hf]; decide)) (fun l w' _ e => ?_) (fun s1 a w2 _ ht hk hsp hi ho => ?_)
  · rw [e1] at e; injection e with _ e; injection e with _ e; injection e with e _; exact absurd e (by decide)
  obtain ⟨rfl, s3, ht3, hlast⟩ := two_taken s1 a ht hk hi
  have HS2 := Lib.hid hsp
  have HI2 := Lib.hid hi
  have HST2 : Hid (Still w w2) := Lib.hid (HST.out.trans' ho (.inr (Nat.le_of_eq HLO.out.symm)) (.inr (Nat.le_of_eq HLO.out.symm)))
  have HT3 := Lib.hid ht3
  have HLAST := Lib.hid hlast
  have hacts : (s1.put 0 1 3 0).acts + 2 ≤ 1000000000000 := by show s1.acts + 2 + 2 ≤ _; rw [hk.acts]; decide
  have hls := hsp.sblt
  have HLH := Lib.hid hsp.top
  clear hsp hi ho ht3 hlast ht hk e1 e2 e3 HS HST
  generalize s1.put 0 1 3 0 = s2 at *
  go_wp2_with fail
  have hB0 := heap_alloc_new w2 (.cells #[.int .i64 0, .int .i64 0] 50)
  have HS3 := Lib.hid (HS2.out.alloc (.cells #[.int .i64 0, .int .i64 0] 50))
  have HST3 := Lib.hid (HST2.out.alloc (.cells #[.int .i64 0, .int .i64 0] 50))
  have HL3 : Hid (w2.heap.size < (w2.alloc (.cells #[.int .i64 0, .int .i64 0] 50)).heap.size) := Lib.hid (by simp)
  generalize w2.alloc (.cells #[.int .i64 0, .int .i64 0] 50) = w3 at *
  clear HS2 HST2
  refine alloc_inv w3 L s2 HS3.out HI2.out 1 3 0 (by decide) hacts _ (fun hf => absurd hf13 (by rw [hf]; decide)) (fun l w' _ e => ?_) (fun s4 a w4 _ ht hk hsp hi ho => ?_)
  · rw [HT3.out] at e; injection e with _ e; injection e with _ e; injection e with e _; exact absurd e (by decide)
  rw [HT3.out] at ht
  injection ht with es ea
  injection ea with ea _
  subst es
  obtain rfl : a = 4 := by omega
  obtain ⟨hW, h8⟩ := HLAST.out hk hi
  have HS4 := Lib.hid hsp
  have HST4 : Hid (Still w w4) := Lib.hid (HST3.out.trans' ho (.inr (Nat.le_of_eq HLO.out.symm)) (.inr (Nat.le_of_eq HLO.out.symm)))
  have hB1 : w4.heap[w2.heap.size]? = some (.cells #[.int .i64 0, .int .i64 0] 50) := (ho.block _ HL3.out (.inr HLH.out)).trans hB0
  have HB1 := Lib.hid hB1
  have hlB1 := (Array.getElem?_eq_some_iff.1 hB1).1
  clear hsp hi ho hk hB0 hB1 HS3 HST3 HL3 HLAST
  generalize s3.put 4 1 3 0 = s5 at *
  go_wp2_with fail
  have hB4 := heap_alloc_new w4 (.cells #[.int .i64 0, .int .i64 0] 50)
  have hB5 : (w4.alloc (.cells #[.int .i64 0, .int .i64 0] 50)).heap[w2.heap.size]? = some (.cells #[.int .i64 0, .int .i64 0] 50) := by rw [Below.heap_alloc _ _ _ hlB1]; exact HB1.out
  have HS6 := Lib.hid (HS4.out.alloc (.cells #[.int .i64 0, .int .i64 0] 50))
  have HST6 := Lib.hid (HST4.out.alloc (.cells #[.int .i64 0, .int .i64 0] 50))
  generalize w4.alloc (.cells #[.int .i64 0, .int .i64 0] 50) = w6 at *
  refine (peek_in w6 L s5 HS6.out 8 h8).mono ?_
  rintro e w7 ⟨rfl, rfl⟩
  rw [hW]
  have c0 := cell_of (v := .int .i64 0) hB5 0 rfl
  have c1 := cell_of (v := .int .i64 0) hB5 1 rfl
  have d0 := cell_of (v := .int .i64 0) hB4 0 rfl
  have d1 := cell_of (v := .int .i64 0) hB4 1 rfl
  have l0 := (Array.getElem?_eq_some_iff.1 hB5).1
  have l1 := (Array.getElem?_eq_some_iff.1 hB4).1
  clear hB4 hB5
  go_wp2_with fail
  go_ret
  exact ⟨rfl, HST6.out⟩
end Go.Proofs.YtfbcdmhmpfijjaaGreatDoor

namespace Go.Proofs.YtfbcdmhmpfijjaaGreatDoor
open Go Go.RowKit

/-- An object as the laws keep it. -/
structure Ob where
  at' : Nat
  sh : Sh
def Ob.cells (o : Ob) : List Value := [.int .i64 (o.at' : Int), .int .i64 o.sh.k, .int .i64 o.sh.z, .int .i64 o.sh.s, .int .i64 o.sh.t]
def obCells (os : List Ob) : List Value := os.flatMap Ob.cells
/-- What the laws' list says of a space. -/
structure Agree (s : St) (os : List Ob) : Prop where
  here : ∀ o ∈ os, s.B 0 o.at' = true ∧ s.sh o.at' = o.sh
  all : ∀ a, s.B 0 a = true → ∃ o ∈ os, o.at' = a
  once : (os.map Ob.at').Nodup
end Go.Proofs.YtfbcdmhmpfijjaaGreatDoor
