/-
  The walk of owner.
-/
import Derived.Test.YtfbcdmhmpfijjaaGreatDoorQN8
import Derived.OwnWalk
namespace Go.Proofs.YtfbcdmhmpfijjaaGreatDoor
open Go Go.RowKit

/-- Of each word the number of the first k objects in whose room it lies; -1: none. -/
def ownTo (os : List Ob) : Nat → Nat → Int
  | 0, _ => -1
  | k + 1, x => if (os.getD k ob0).at' ≤ x ∧ x < (os.getD k ob0).at' + (Sp.wide (os.getD k ob0).sh.z).toNat then (k : Int) else ownTo os k x
theorem Agree.ob {s : St} {os : List Ob} (h : Agree s os) {k : Nat} (hk : k < os.length) : s.B 0 (os.getD k ob0).at' = true ∧ s.sh (os.getD k ob0).at' = (os.getD k ob0).sh := by
  exact h.here _ (getD_mem os k hk)
theorem Agree.ne {s : St} {os : List Ob} (h : Agree s os) {i k : Nat} (hi : i < os.length) (hk : k < os.length) (hik : i ≠ k) : (os.getD i ob0).at' ≠ (os.getD k ob0).at' := by
  have hn := h.once
  have e1 : (os.map Ob.at')[i]? = some (os.getD i ob0).at' := by simp [hi]
  have e2 : (os.map Ob.at')[k]? = some (os.getD k ob0).at' := by simp [hk]
  intro e
  exact hik ((List.getElem?_inj (by simpa using hi) hn).1 (by rw [e1, e2, e]))
/-- Rooms of two objects do not meet. -/
theorem St.InvX.apart {s : St} (h : s.Inv) {a b : Nat} (ha : s.B 0 a = true) (hb : s.B 0 b = true) (hab : a ≠ b) : b + (Sp.wide (s.sh b).z).toNat ≤ a ∨ a + (Sp.wide (s.sh a).z).toNat ≤ b := by
  have h1 := (h.obj a ha).2
  have h2 := (h.obj b hb).2
  have g1 := h1.apart h2.beg (fun e => hab e.symm)
  have g2 := h2.apart h1.beg hab
  omega
end Go.Proofs.YtfbcdmhmpfijjaaGreatDoor

namespace Go.Proofs.YtfbcdmhmpfijjaaGreatDoor
open Go Go.RowKit

theorem getD_el (l : List Ob) (i : Nat) (h : i < l.length) : l.getD i ob0 = l[i] := by simp [h]
/-- Nothing is wrong. -/
theorem St.InvX.good {s : St} (h : s.Inv) (i : Nat) : ¬s.badTo 8 i := by
  rintro (⟨h1, h2⟩ | ⟨c, hc, h1, h2⟩)
  · exact h2 (h.hdr i h1)
  · exact h2 (h.lnk c hc i h1)
theorem St.InvX.least {s : St} (h : s.Inv) {m : Nat} (hm : Least (s.badTo 8) (64 * s.n) m) : m = 64 * s.n := by
  rcases Nat.lt_or_ge m (64 * s.n) with h1 | h1
  · exact absurd (hm.2.2 h1) (h.good m)
  · have := hm.1; omega
theorem Agree.inj {s : St} {os : List Ob} (h : Agree s os) {o p : Ob} (ho : o ∈ os) (hp : p ∈ os) (e : o.at' = p.at') : o = p := by
  have h1 := (h.here o ho).2
  have h2 := (h.here p hp).2
  obtain ⟨x, y⟩ := o
  obtain ⟨x', y'⟩ := p
  cases e
  dsimp only at h1 h2
  rw [h1] at h2
  cases h2
  rfl
/-- Where an object lies within its page. -/
theorem St.InvX.place {s : St} (h : s.Inv) {a : Nat} (ha : s.B 0 a = true) :
    (Sp.cls (s.sh a).z < 8 ∧ 0 < Sp.wide (s.sh a).z ∧ ((a : Int) % 64) % Sp.wide (s.sh a).z = 0 ∧ (a : Int) % 64 + Sp.wide (s.sh a).z ≤ 64) ∨ (Sp.cls (s.sh a).z = 8 ∧ (a : Int) % 64 = 0) := by
  rcases (h.obj a ha).2 with ⟨c, hc, e, p, i, hp, hi, ea, hP⟩ | ⟨e, p, ea, hr⟩
  · left
    rw [Sp.wide_blk hc e, e]
    have hpg := blk_page hc hi ea
    have hw : 0 < Sp.cw c := by
      have h8 : c = 0 ∨ c = 1 ∨ c = 2 ∨ c = 3 ∨ c = 4 ∨ c = 5 ∨ c = 6 ∨ c = 7 := by omega
      rcases h8 with rfl | rfl | rfl | rfl | rfl | rfl | rfl | rfl <;> decide
    have hm : a % 64 = i * Sp.cw c := by omega
    have hm2 : (a : Int) % 64 = ((i * Sp.cw c : Nat) : Int) := by omega
    refine ⟨by omega, by omega, ?_, ?_⟩
    · rw [hm2]
      have : (i * Sp.cw c) % Sp.cw c = 0 := Nat.mul_mod_left _ _
      omega
    · omega
  · right
    exact ⟨e, by omega⟩
end Go.Proofs.YtfbcdmhmpfijjaaGreatDoor
