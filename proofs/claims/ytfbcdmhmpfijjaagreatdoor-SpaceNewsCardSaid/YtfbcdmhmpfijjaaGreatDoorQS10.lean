/-
  The walk of space.drop.
-/
import Derived.Test.YtfbcdmhmpfijjaaGreatDoorQS9
namespace Go.Proofs.YtfbcdmhmpfijjaaGreatDoor
open Go Go.RowKit

/-- What drop makes of a space. -/
def St.drop (s : St) (a : Nat) : St :=
  { s with
    S := updM s.S (a : Int) none
    Q := if 0 < (s.sh a).s then updM s.Q (s.sh a).s none else s.Q
    B := fun j => if j = 0 then setS (s.B 0) a false else s.B j
    room := s.room - Sp.wide (s.sh a).z
    P := if Sp.cls (s.sh a).z = 8 then clrPg s.P (a / 64) (max 1 (s.P (a / 64)).r.toNat) else s.P
    low := if Sp.cls (s.sh a).z = 8 then min s.low (a / 64) else s.low }
/-- A page may be given back. -/
def St.Givable (s : St) (p : Nat) : Prop := p < s.n ∧ (s.P p).free = false ∧ (s.P p).k ≠ 3 ∧ 0 ≤ (s.P p).r ∧ p + max 1 (s.P p).r.toNat ≤ s.n
theorem St.Givable.congr {s s' : St} {p : Nat} (h : s.Givable p) (hn : s'.n = s.n) (hP : s'.P = s.P) : s'.Givable p := by
  unfold St.Givable at h ⊢
  rw [hn, hP]; exact h
end Go.Proofs.YtfbcdmhmpfijjaaGreatDoor
