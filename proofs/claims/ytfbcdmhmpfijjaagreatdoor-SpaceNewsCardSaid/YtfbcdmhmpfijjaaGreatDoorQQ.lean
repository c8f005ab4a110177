/-
  Writing under the invariant; the walk of world.played.
-/
import Derived.Test.YtfbcdmhmpfijjaaGreatDoorQP
namespace Go.Proofs.YtfbcdmhmpfijjaaGreatDoor
open Go Go.RowKit

set_option maxHeartbeats 1600000 in
theorem Sp.cls_le {z : Int} {c : Nat} (hc : c < 8) (h : Sp.cls z = (c : Int)) : z ≤ (Sp.cw c : Int) := by
  unfold Sp.cls at h
  have hcc : c = 0 ∨ c = 1 ∨ c = 2 ∨ c = 3 ∨ c = 4 ∨ c = 5 ∨ c = 6 ∨ c = 7 := by omega
  rcases hcc with rfl | rfl | rfl | rfl | rfl | rfl | rfl | rfl
  · show z ≤ ((2 : Nat) : Int); repeat' split at h
    all_goals omega
  · show z ≤ ((4 : Nat) : Int); repeat' split at h
    all_goals omega
  · show z ≤ ((6 : Nat) : Int); repeat' split at h
    all_goals omega
  · show z ≤ ((8 : Nat) : Int); repeat' split at h
    all_goals omega
  · show z ≤ ((12 : Nat) : Int); repeat' split at h
    all_goals omega
  · show z ≤ ((16 : Nat) : Int); repeat' split at h
    all_goals omega
  · show z ≤ ((20 : Nat) : Int); repeat' split at h
    all_goals omega
  · show z ≤ ((32 : Nat) : Int); repeat' split at h
    all_goals omega
/-- A word of an object's own is written. -/
theorem St.InvX.write {s : St} (h : s.Inv) {a i : Nat} (ha : s.B 0 a = true) (h1 : 1 ≤ i) (h2 : (i : Int) < (s.sh a).z) (x : Int) : ({ s with W := setW s.W (a + i) x } : St).Inv := by
  have hob := h.obj a ha
  have hw : (i : Int) < Sp.wide (s.sh a).z := by
    have hz := hob.1
    have hz1 := hz.2.2.2.2.1
    have hz2 := hz.2.2.2.2.2
    refine Int.lt_of_lt_of_le h2 ?_
    rcases hob.2 with ⟨c, hc, hcz, _⟩ | ⟨h8, _⟩
    · rw [Sp.wide_blk hc hcz]
      exact Sp.cls_le hc hcz
    · rw [(Sp.wide_run h8).1]
      unfold Sp.pgs
      rw [if_pos h8]
      omega
  have hno : ∀ y, s.Beg y → y ≠ a + i := fun y hy e => by
    have := hob.2.apart hy (by omega)
    omega
  have hW : ∀ y, s.Beg y → ({ s with W := setW s.W (a + i) x } : St).W y = s.W y := fun y hy => by
    show setW s.W (a + i) x y = _
    unfold setW; rw [if_neg (hno y hy)]
  refine ⟨h.n1, h.n2, h.pages, h.obj, h.runs, h.free, fun y hy => ?_, fun c hc y hy => ?_, h.side, h.ser0, h.ser1, h.sers, h.room, h.room2, h.idx.of rfl rfl rfl, h.lowf.of rfl rfl⟩
  · rw [hW y (h.obj y hy).2.beg]; exact h.hdr y hy
  · rw [hW y (.inl ⟨c, hc, ((h.free c hc y).1 hy).1⟩)]; exact h.lnk c hc y hy
/-- A script that lies below a block. -/
def OpsB (w : World) (B : Nat) (a : Option Addr) (len : Nat) (os : Nat → OpV) : Prop :=
  len ≤ 9223372036854775807 ∧ ∀ i, i < len → ∃ x, a = some x ∧ x.block < B ∧ OpAt w (x.add (i * 6)) (os i) ∧ ∀ y, (os i).la = some y → 0 < (os i).ll → y.block < B
theorem add_block (x : Addr) (j : Nat) : (x.add j).block = x.block := by unfold Addr.add; split <;> rfl
theorem OpsB.below {w w' : World} {B : Nat} {a : Option Addr} {len : Nat} {os : Nat → OpV} (h : OpsB w B a len os) (hb : Below B w w') : OpsB w' B a len os := by
  have hc : ∀ p : Addr, p.block < B → w'.cell? p = w.cell? p := fun p hp => World.cell?_of_block (w := w) (hb.block p.block hp)
  refine ⟨h.1, fun i hi => ?_⟩
  obtain ⟨x, h1, h2, ⟨⟨who, k0⟩, k1, k2, k3, k4, k5, k6, k7, k8, k9⟩, h4⟩ := h.2 i hi
  have hx : (x.add (i * 6)).block < B := by rw [add_block]; exact h2
  refine ⟨x, h1, h2, ⟨⟨who, (hc _ hx).trans k0⟩, (hc ⟨_, _, none⟩ hx).trans k1, (hc ⟨_, _, none⟩ hx).trans k2, (hc ⟨_, _, none⟩ hx).trans k3, (hc ⟨_, _, none⟩ hx).trans k4, (hc ⟨_, _, none⟩ hx).trans k5, k6, k7, k8, k9.1, fun j hj => ?_⟩, h4⟩
  obtain ⟨y, e1, e2, e3⟩ := k9.2 j hj
  exact ⟨y, e1, (hc _ (by rw [add_block]; exact h4 y e1 (by omega))).trans e2, e3⟩
end Go.Proofs.YtfbcdmhmpfijjaaGreatDoor
