/-
  What Keep makes of a space; marks of loops.
-/
import Derived.Test.YtiniadochjeieaaDoorQR3
namespace Go.Proofs.YtiniadochjeieaaDoor
open Go Go.RowKit

/-- Behind the places below a have been gone over. -/
def St.dropTo (s : St) (stay : Nat → Bool) : Nat → St
  | 0 => s
  | a + 1 => if (s.dropTo stay a).B 0 a && !stay a then (s.dropTo stay a).drop a else s.dropTo stay a
/-- How many have been dropped by then. -/
def St.dropN (s : St) (stay : Nat → Bool) : Nat → Nat
  | 0 => 0
  | a + 1 => if (s.dropTo stay a).B 0 a && !stay a then s.dropN stay a + 1 else s.dropN stay a
theorem St.dropTo_n (s : St) (stay : Nat → Bool) : ∀ a, (s.dropTo stay a).n = s.n
  | 0 => rfl
  | a + 1 => by
    unfold St.dropTo
    split
    · exact St.dropTo_n s stay a
    · exact St.dropTo_n s stay a
theorem St.dropTo_gap (s : St) (stay : Nat → Bool) (a : Nat) : ∀ d, (∀ j, a ≤ j → j < a + d → (s.dropTo stay a).B 0 j = false) → s.dropTo stay (a + d) = s.dropTo stay a ∧ s.dropN stay (a + d) = s.dropN stay a
  | 0, _ => ⟨rfl, rfl⟩
  | d + 1, h => by
    obtain ⟨h1, h2⟩ := St.dropTo_gap s stay a d (fun j hj hj2 => h j hj (by omega))
    have h3 := h (a + d) (by omega) (by omega)
    rw [← Nat.add_assoc]
    have e1 : s.dropTo stay (a + d + 1) = if (s.dropTo stay (a + d)).B 0 (a + d) && !stay (a + d) then (s.dropTo stay (a + d)).drop (a + d) else s.dropTo stay (a + d) := rfl
    have e2 : s.dropN stay (a + d + 1) = if (s.dropTo stay (a + d)).B 0 (a + d) && !stay (a + d) then s.dropN stay (a + d) + 1 else s.dropN stay (a + d) := rfl
    rw [e1, e2, h1, h3]
    exact ⟨by simp, by simp [h2]⟩
theorem St.dropN_le (s : St) (stay : Nat → Bool) : ∀ a, s.dropN stay a ≤ a
  | 0 => Nat.le_refl _
  | a + 1 => by
    unfold St.dropN
    have := St.dropN_le s stay a
    split <;> omega
/-- The free blocks of the first i classes are struck. -/
def St.reset (s : St) (i : Nat) : St := { s with B := fun j => if 1 ≤ j ∧ j ≤ i then (fun _ => false) else s.B j }
theorem St.reset_zero (s : St) : s.reset 0 = s := by
  unfold St.reset
  congr 1
  funext j
  rw [if_neg (by omega)]
theorem St.reset_succ (s : St) (i : Nat) : (s.reset i).setB (i + 1) (fun _ => false) = s.reset (i + 1) := by
  unfold St.reset St.setB
  congr 1
  funext j
  dsimp only
  by_cases h : j = i + 1
  · rw [if_pos h, if_pos (by omega)]
  · rw [if_neg h]
    by_cases h2 : 1 ≤ j ∧ j ≤ i
    · rw [if_pos h2, if_pos (by omega)]
    · rw [if_neg h2, if_neg (by omega)]
/-- The first p pages are tidied. -/
def St.tidyTo (s : St) : Nat → St
  | 0 => s
  | p + 1 => (s.tidyTo p).tidy p
/-- The links of class c at the free blocks below a are written. -/
def St.linkTo (s : St) (c : Nat) : Nat → St
  | 0 => s
  | a + 1 => if s.B (c + 1) a then (s.linkTo c a).setWs (setW (s.linkTo c a).W a (s.link c a)) else s.linkTo c a
theorem St.linkTo_form (s : St) (c : Nat) : ∀ a, ∃ W, s.linkTo c a = s.setWs W
  | 0 => ⟨s.W, rfl⟩
  | a + 1 => by
    obtain ⟨W, h⟩ := St.linkTo_form s c a
    unfold St.linkTo
    split
    · exact ⟨_, by rw [h]; rfl⟩
    · exact ⟨W, h⟩
theorem St.linkTo_gap (s : St) (c a : Nat) : ∀ d, (∀ j, a ≤ j → j < a + d → s.B (c + 1) j = false) → s.linkTo c (a + d) = s.linkTo c a
  | 0, _ => rfl
  | d + 1, h => by
    rw [← Nat.add_assoc]
    show (if s.B (c + 1) (a + d) then _ else _) = _
    rw [h (a + d) (by omega) (by omega)]
    exact St.linkTo_gap s c a d (fun j hj hj2 => h j hj (by omega))
/-- The links of the first c classes are written. -/
def St.links (s : St) : Nat → St
  | 0 => s
  | c + 1 => (s.links c).linkTo c (64 * s.n)
theorem St.links_form (s : St) : ∀ c, ∃ W, s.links c = s.setWs W
  | 0 => ⟨s.W, rfl⟩
  | c + 1 => by
    obtain ⟨W, h⟩ := St.links_form s c
    obtain ⟨W2, h2⟩ := St.linkTo_form (s.links c) c (64 * s.n)
    exact ⟨W2, by show (s.links c).linkTo c (64 * s.n) = _; rw [h2, h]; rfl⟩
/-- Keep. -/
def St.keep (s : St) (stay : Nat → Bool) : St := ((((s.dropTo stay (64 * s.n)).reset 8).tidyTo s.n).links 8)
theorem St.tidy_n (s : St) (p : Nat) : (s.tidy p).n = s.n := by
  unfold St.tidy
  repeat' split
  all_goals first | rfl | exact St.tidyLoop_n _ _ _ _
theorem St.tidyTo_n (s : St) : ∀ p, (s.tidyTo p).n = s.n
  | 0 => rfl
  | p + 1 => by show ((s.tidyTo p).tidy p).n = _; rw [St.tidy_n]; exact St.tidyTo_n s p

def St.DropOk (s : St) (a : Nat) : Prop := (-9223372036854775808 ≤ (s.sh a).s ∧ (s.sh a).s ≤ 9223372036854775807) ∧ (-1000000000000000 ≤ s.room ∧ s.room ≤ 1000000000000000) ∧ (Sp.cls (s.sh a).z = 8 → s.Givable (a / 64))
def St.TidyOk (s : St) (p : Nat) : Prop := ((s.P p).k = 1 → ∃ c : Nat, c < 8 ∧ (s.P p).c = (c : Int)) ∧ (s.Empty p → s.Givable p)
/-- tidy, whatever the page is. -/
theorem tidy_any (w : World) (L : Lay) (s : St) (h : SpaceAt w L s) (p : Nat) (hp : p < s.n) (hok : s.TidyOk p) (Q : Ending → World → Prop)
    (hQ : ∀ w', SpaceAt w' L (s.tidy p) → Only L.lo L.hi w w' → Q (.returned (.tuple #[])) w') :
    Calls Tryd.prog 69 #[.pointer (some ⟨L.sb, 0, none⟩), .int .i64 (p : Int)] w Q := by
  obtain ⟨ok1, ok2⟩ := hok
  by_cases hE : s.Empty p
  · refine tidy_empty w L s h p hp hE (ok2 hE) Q (fun w' a b => hQ w' ?_ b)
    unfold St.tidy; rw [if_pos hE]; exact a
  · by_cases h0 : (s.P p).k = 0
    · refine tidy_free w L s h p hp h0 Q (fun w' a b => hQ w' ?_ b)
      unfold St.tidy; rw [if_neg hE, if_pos h0]; exact a
    · by_cases h1 : (s.P p).k = 1
      · obtain ⟨c, hc, hpc⟩ := ok1 h1
        refine tidy_class w L s h p c hp hc h1 hpc hE Q (fun w' a b => hQ w' ?_ b)
        unfold St.tidy
        rw [if_neg hE, if_neg h0, if_pos h1, hpc, Int.toNat_natCast]
        exact a
      · refine tidy_other w L s h p hp h0 h1 Q (fun w' a b => hQ w' ?_ b)
        unfold St.tidy; rw [if_neg hE, if_neg h0, if_neg h1]; exact a

/-- A list of numbers that a slice holds. -/
def IntsAt (w : World) (v : Value) (zs : List Int) : Prop :=
  (v = .slice none 0 0 ∧ zs = []) ∨ ∃ b o cap, v = .slice (some ⟨b, o, none⟩) zs.length cap ∧ zs.length ≤ 140737488355328 ∧ ∀ j, j < zs.length → w.cell? ⟨b, o + j, none⟩ = some (.int .i64 (zs.getD j 0))
/-- A frame with marks alone leaves. -/
theorem leaves_marks {fn : Func} {n : Nat} {tmps : Array Value} {R : Ending → World → Prop} (B hi : Nat) : ∀ (ds : List Nat) (w : World), ds.Nodup → (∀ D ∈ ds, B ≤ D ∧ D < hi ∧ w.heap[D]? = some (.deferred (some []))) →
    (∀ w', Only B hi w w' → LeavesIn Fence.wide n Tryd.prog fn tmps R [] .returning w') → LeavesInM Fence.wide n Tryd.prog fn tmps R (ds.map markOf) .returning w
  | [], w, _, _, h => h w (Only.refl _ _ _)
  | D :: ds, w, hn, hd, h => by
    have h1 := hd D (by simp)
    refine ⟨by simp, .inl ⟨D, _, rfl, run_takeDeferred h1.2.2, ?_⟩⟩
    have hn2 := List.nodup_cons.1 hn
    refine leaves_marks B hi ds _ hn2.2 (fun D' hD' => ?_) (fun w' ho => h w' (((only_put _).mono h1.1 (by omega)).trans ho))
    have h2 := hd D' (by simp [hD'])
    exact ⟨h2.1, h2.2.1, (World.putObj_heap_other (fun e => hn2.1 (by rw [← e]; exact hD'))).trans h2.2.2⟩
end Go.Proofs.YtiniadochjeieaaDoor
