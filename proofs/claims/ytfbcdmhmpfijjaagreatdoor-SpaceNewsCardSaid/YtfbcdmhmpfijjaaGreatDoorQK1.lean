/-
  What Keep makes of a space; marks of loops.
-/
import Derived.Test.YtfbcdmhmpfijjaaGreatDoorQR3
namespace Go.Proofs.YtfbcdmhmpfijjaaGreatDoor
open Go Go.RowKit

/-- Behind the places below a have been gone over. -/
def St.dropTo (s : St) (stay : Nat → Bool) : Nat → St
  | 0 => s
  | a + 1 => if (s.dropTo stay a).B 0 a && !stay a then (s.dropTo stay a).drop a else s.dropTo stay a
/-- The free blocks of the first i classes are struck. -/
def St.reset (s : St) (i : Nat) : St := { s with B := fun j => if 1 ≤ j ∧ j ≤ i then (fun _ => false) else s.B j }
/-- The first p pages are tidied. -/
def St.tidyTo (s : St) : Nat → St
  | 0 => s
  | p + 1 => (s.tidyTo p).tidy p
/-- The links of class c at the free blocks below a are written. -/
def St.linkTo (s : St) (c : Nat) : Nat → St
  | 0 => s
  | a + 1 => if s.B (c + 1) a then (s.linkTo c a).setWs (setW (s.linkTo c a).W a (s.link c a)) else s.linkTo c a
theorem St.linkTo_form (s : St) (c : Nat) : ∀ a, ∃ W, s.linkTo c a = s.setWs W
  | 0 => ⟨s.W, rfl⟩
  | a + 1 => by
    obtain ⟨W, h⟩ := St.linkTo_form s c a
    unfold St.linkTo
    split
    · exact ⟨_, by rw [h]; rfl⟩
    · exact ⟨W, h⟩
/-- The links of the first c classes are written. -/
def St.links (s : St) : Nat → St
  | 0 => s
  | c + 1 => (s.links c).linkTo c (64 * s.n)
theorem St.links_form (s : St) : ∀ c, ∃ W, s.links c = s.setWs W
  | 0 => ⟨s.W, rfl⟩
  | c + 1 => by
    obtain ⟨W, h⟩ := St.links_form s c
    obtain ⟨W2, h2⟩ := St.linkTo_form (s.links c) c (64 * s.n)
    exact ⟨W2, by show (s.links c).linkTo c (64 * s.n) = _; rw [h2, h]; rfl⟩
/-- Keep. -/
def St.keep (s : St) (stay : Nat → Bool) : St := ((((s.dropTo stay (64 * s.n)).reset 8).tidyTo s.n).links 8)
/-- A frame with marks alone leaves. -/
theorem leaves_marks {fn : Func} {n : Nat} {tmps : Array Value} {R : Ending → World → Prop} (B hi : Nat) : ∀ (ds : List Nat) (w : World), ds.Nodup → (∀ D ∈ ds, B ≤ D ∧ D < hi ∧ w.heap[D]? = some (.deferred (some []))) →
    (∀ w', Only B hi w w' → LeavesIn Fence.wide n Tryz.prog fn tmps R [] .returning w') → LeavesInM Fence.wide n Tryz.prog fn tmps R (ds.map markOf) .returning w
  | [], w, _, _, h => h w (Only.refl _ _ _)
  | D :: ds, w, hn, hd, h => by
    have h1 := hd D (by simp)
    refine ⟨by simp, .inl ⟨D, _, rfl, run_takeDeferred h1.2.2, ?_⟩⟩
    have hn2 := List.nodup_cons.1 hn
    refine leaves_marks B hi ds _ hn2.2 (fun D' hD' => ?_) (fun w' ho => h w' (((only_put _).mono h1.1 (by omega)).trans ho))
    have h2 := hd D' (by simp [hD'])
    exact ⟨h2.1, h2.2.1, (World.putObj_heap_other (fun e => hn2.1 (by rw [← e]; exact hD'))).trans h2.2.2⟩
end Go.Proofs.YtfbcdmhmpfijjaaGreatDoor
