/-
  The plain laws that firsts leans on.
-/
import Derived.Test.YtfbcdmhmpfijjaaGreatDoorQU
namespace Go.Proofs.YtfbcdmhmpfijjaaGreatDoor
open Go Go.RowKit

/-- The free blocks of class c below a. -/
def frs (s : St) (c : Nat) : Nat → List Nat
  | 0 => []
  | a + 1 => if s.B (c + 1) a then frs s c a ++ [a] else frs s c a
theorem mem_frs (s : St) (c x : Nat) : ∀ a, x ∈ frs s c a ↔ x < a ∧ s.B (c + 1) x = true
  | 0 => by
    constructor
    · intro h; cases h
    · intro h; omega
  | a + 1 => by
    have ih := mem_frs s c x a
    show x ∈ (if s.B (c + 1) a then _ else _) ↔ _
    by_cases hb : s.B (c + 1) a = true
    · rw [if_pos hb, List.mem_append, ih]
      constructor
      · rintro (⟨h1, h2⟩ | h1)
        · exact ⟨by omega, h2⟩
        · rw [List.mem_singleton.1 h1]; exact ⟨by omega, hb⟩
      · rintro ⟨h1, h2⟩
        by_cases e : x = a
        · exact .inr (List.mem_singleton.2 e)
        · exact .inl ⟨by omega, h2⟩
    · rw [if_neg hb, ih]
      constructor
      · rintro ⟨h1, h2⟩
        exact ⟨by omega, h2⟩
      · rintro ⟨h1, h2⟩
        refine ⟨?_, h2⟩
        by_cases e : x = a
        · rw [e] at h2; exact absurd h2 hb
        · omega
theorem ownTo_none {os : List Ob} {x : Nat} : ∀ k, (∀ j, j < k → ¬((os.getD j ob0).at' ≤ x ∧ x < (os.getD j ob0).at' + (Sp.wide (os.getD j ob0).sh.z).toNat)) → ownTo os k x = -1
  | 0, _ => rfl
  | k + 1, h => by
    show (if _ then _ else _) = _
    rw [if_neg (h k (by omega))]
    exact ownTo_none k fun j hj => h j (by omega)
theorem ownTo_some {os : List Ob} {x : Nat} : ∀ k j, j < k → (os.getD j ob0).at' ≤ x → x < (os.getD j ob0).at' + (Sp.wide (os.getD j ob0).sh.z).toNat → 0 ≤ ownTo os k x
  | 0, j, h, _, _ => by omega
  | k + 1, j, h, h1, h2 => by
    unfold ownTo
    split
    · exact Int.natCast_nonneg _
    · by_cases e : j = k
      · subst e; rename_i hn; exact absurd ⟨h1, h2⟩ hn
      · exact ownTo_some k j (by omega) h1 h2
end Go.Proofs.YtfbcdmhmpfijjaaGreatDoor

namespace Go.Proofs.YtfbcdmhmpfijjaaGreatDoor
open Go Go.RowKit

def updF {α : Type} (f : Nat → α) (c : Nat) (y : α) : Nat → α := fun j => if j = c then y else f j
/-- The free blocks of class c below a, as numbers. -/
def frI (s : St) (a c : Nat) : List Int := (frs s c a).map fun (x : Nat) => (x : Int)
end Go.Proofs.YtfbcdmhmpfijjaaGreatDoor

namespace Go.Proofs.YtfbcdmhmpfijjaaGreatDoor
open Go Go.RowKit

/-- a is an object's first word, or a free block's of the first c classes. -/
def St.tolTo (s : St) (a : Nat) : Nat → Bool
  | 0 => s.B 0 a
  | c + 1 => s.tolTo a c || s.B (c + 1) a
theorem St.tolTo_iff (s : St) (a : Nat) : ∀ c, s.tolTo a c = true ↔ s.B 0 a = true ∨ ∃ c', c' < c ∧ s.B (c' + 1) a = true
  | 0 => ⟨.inl, fun h => h.resolve_right fun ⟨c', h, _⟩ => by omega⟩
  | c + 1 => by
    show (_ || _) = true ↔ _
    rw [Bool.or_eq_true, s.tolTo_iff a c]
    constructor
    · rintro ((h | ⟨c', h1, h2⟩) | h)
      · exact .inl h
      · exact .inr ⟨c', by omega, h2⟩
      · exact .inr ⟨c, by omega, h⟩
    · rintro (h | ⟨c', h1, h2⟩)
      · exact .inl (.inl h)
      · by_cases e : c' = c
        · subst e; exact .inr h2
        · exact .inl (.inr ⟨c', by omega, h2⟩)
/-- The space with one word turned. -/
def St.turn (s : St) (a : Nat) (x : Int) : St := { s with W := setW s.W a x }
theorem St.turn_W (s : St) (a : Nat) (x : Int) (y : Nat) : (s.turn a x).W y = if y = a then x else s.W y := rfl
/-- Just the turned word is told. -/
theorem St.InvX.turned {s : St} (h : s.Inv) (a : Nat) (x : Int) (i : Nat) : (s.turn a x).badTo 8 i ↔ i = a ∧ s.tolTo a 8 = true ∧ x ≠ s.W a := by
  have hW := s.turn_W a x i
  constructor
  · rintro (⟨h1, h2⟩ | ⟨c, hc, h1, h2⟩)
    · have h1 : s.B 0 i = true := h1
      have h3 := h.hdr i h1
      have h2 : (s.turn a x).W i ≠ s.hd i := h2
      rw [hW] at h2
      by_cases e : i = a
      · rw [if_pos e] at h2
        refine ⟨e, (s.tolTo_iff a 8).2 (.inl (by rw [← e]; exact h1)), fun e2 => h2 (by rw [e2, ← e, h3])⟩
      · rw [if_neg e] at h2; exact absurd h3 h2
    · have h1 : s.B (c + 1) i = true := h1
      have h3 := h.lnk c hc i h1
      have h2 : (s.turn a x).W i ≠ s.link c i := h2
      rw [hW] at h2
      by_cases e : i = a
      · rw [if_pos e] at h2
        refine ⟨e, (s.tolTo_iff a 8).2 (.inr ⟨c, hc, by rw [← e]; exact h1⟩), fun e2 => h2 (by rw [e2, ← e, h3])⟩
      · rw [if_neg e] at h2; exact absurd h3 h2
  · rintro ⟨rfl, h1, h2⟩
    rw [if_pos rfl] at hW
    rcases (s.tolTo_iff i 8).1 h1 with h3 | ⟨c, hc, h3⟩
    · refine .inl ⟨h3, ?_⟩
      rw [hW]
      show x ≠ s.hd i
      rw [← h.hdr i h3]; exact h2
    · refine .inr ⟨c, hc, h3, ?_⟩
      rw [hW]
      show x ≠ s.link c i
      rw [← h.lnk c hc i h3]; exact h2
end Go.Proofs.YtfbcdmhmpfijjaaGreatDoor
