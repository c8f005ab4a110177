/-
  The walk of space.tidy.
-/
import Derived.Test.YtfbcdmhmpfijjaaGreatDoorQS10
namespace Go.Proofs.YtfbcdmhmpfijjaaGreatDoor
open Go Go.RowKit

/-- Behind the first blocks of a class's page have been looked at. -/
def St.tidyLoop (s : St) (p c : Nat) : Nat → St
  | 0 => s
  | i + 1 =>
    if (s.tidyLoop p c i).B 0 (p * 64 + i * Sp.cw c) then s.tidyLoop p c i
    else ((s.tidyLoop p c i).setB (c + 1) (setS ((s.tidyLoop p c i).B (c + 1)) (p * 64 + i * Sp.cw c) true)).setWs (clrW (s.tidyLoop p c i).W (p * 64 + i * Sp.cw c) (Sp.cw c))
theorem St.tidyLoop_n (s : St) (p c : Nat) : ∀ i, (s.tidyLoop p c i).n = s.n
  | 0 => rfl
  | i + 1 => by
    unfold St.tidyLoop
    split
    · exact St.tidyLoop_n s p c i
    · exact St.tidyLoop_n s p c i
def St.Empty (s : St) (p : Nat) : Prop := (s.P p).k = 1 ∧ Bm.count (s.B 0) (64 * s.n) ((p * 64 : Nat) : Int) ((p * 64 + 64 : Nat) : Int) = 0
instance (s : St) (p : Nat) : Decidable (s.Empty p) := by unfold St.Empty; infer_instance
/-- tidy. -/
def St.tidy (s : St) (p : Nat) : St :=
  if s.Empty p then ({ s with P := clrPg s.P p (max 1 (s.P p).r.toNat), low := min s.low p } : St).setWs (clrW s.W (p * 64) 64)
  else if (s.P p).k = 0 then s.setWs (clrW s.W (p * 64) 64)
  else if (s.P p).k = 1 then
    (s.tidyLoop p (s.P p).c.toNat (Sp.bk (s.P p).c.toNat)).setWs (clrW (s.tidyLoop p (s.P p).c.toNat (Sp.bk (s.P p).c.toNat)).W (p * 64 + Sp.bk (s.P p).c.toNat * Sp.cw (s.P p).c.toNat) (64 - Sp.bk (s.P p).c.toNat * Sp.cw (s.P p).c.toNat))
  else s
theorem SpaceAt.state {w : World} {L : Lay} {s : St} (h : SpaceAt w L s) (p : Nat) (hp : p < s.n) :
    Calls Tryz.prog 147 #[.pointer (some ⟨L.tb, 0, none⟩), .int .i64 (p : Int)] w fun e w' => e = .returned (.tuple #[.agg #[.int .i64 (s.P p).k, .int .i64 (s.P p).c, .int .i64 (s.P p).r], .bool true]) ∧ Still w w' := by
  obtain ⟨free, ht⟩ := h.table
  exact state_any _ _ _ _ _ _ p _ _ _ w ht hp

end Go.Proofs.YtfbcdmhmpfijjaaGreatDoor

namespace Go.Proofs.YtfbcdmhmpfijjaaGreatDoor
open Go Go.RowKit

theorem Sp.bkcw (c : Nat) (hc : c < 8) : Sp.bk c * Sp.cw c ≤ 64 := by
  have := Sp.cw_8 c hc
  rcases this with ⟨h1, h2⟩ | ⟨h1, h2⟩ | ⟨h1, h2⟩ | ⟨h1, h2⟩ | ⟨h1, h2⟩ | ⟨h1, h2⟩ | ⟨h1, h2⟩ | ⟨h1, h2⟩ <;> rw [h1, h2] <;> omega
end Go.Proofs.YtfbcdmhmpfijjaaGreatDoor
