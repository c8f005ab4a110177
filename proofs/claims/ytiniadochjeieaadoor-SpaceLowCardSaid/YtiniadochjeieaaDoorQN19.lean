/-
  The plain laws that SpaceLow leans on.
-/
import Derived.Test.YtiniadochjeieaaDoorQN17
namespace Go.Proofs.YtiniadochjeieaaDoor
open Go Go.RowKit

theorem seekRun_least (P : Nat → Pg) (n m : Nat) : ∀ (d i g : Nat), n - i ≤ d → g ≤ i → g < m →
    (∀ h, seekRun P n m i g = some h → ∀ p, i - g ≤ p → p < h → ∃ j, p ≤ j ∧ j < p + m ∧ (P j).free = false) ∧ (seekRun P n m i g = none → ∀ p, i - g ≤ p → p + m ≤ n → ∃ j, p ≤ j ∧ j < p + m ∧ (P j).free = false)
  | 0, i, g, hd, hg, hgm => by
    rw [seekRun, dif_neg (by omega)]
    exact ⟨fun h e => (by cases e), fun _ p h1 h2 => by omega⟩
  | d + 1, i, g, hd, hg, hgm => by
    rw [seekRun]
    by_cases hi : i < n
    · rw [dif_pos hi]
      by_cases hf : (P i).free = true
      · rw [if_pos hf]
        by_cases hm : g + 1 = m
        · rw [if_pos hm]
          exact ⟨fun h e p h1 h2 => by injection e with e; omega, fun e => by cases e⟩
        · rw [if_neg hm]
          have ih := seekRun_least P n m d (i + 1) (g + 1) (by omega) (by omega) (by omega)
          rw [show i + 1 - (g + 1) = i - g by omega] at ih
          exact ih
      · rw [if_neg hf]
        have ih := seekRun_least P n m d (i + 1) 0 (by omega) (by omega) (by omega)
        have hf' : (P i).free = false := by simpa using hf
        refine ⟨fun h e p h1 h2 => ?_, fun e p h1 h2 => ?_⟩
        · by_cases hp : i + 1 ≤ p
          · exact ih.1 h e p (by omega) h2
          · exact ⟨i, by omega, by omega, hf'⟩
        · by_cases hp : i + 1 ≤ p
          · exact ih.2 e p (by omega) h2
          · exact ⟨i, by omega, by omega, hf'⟩
    · rw [dif_neg hi]
      exact ⟨fun h e => (by cases e), fun _ p h1 h2 => by omega⟩
theorem St.InvX.freeP {s : St} (h : s.Inv) {p : Nat} (hp : p < s.n) : (s.P p).free = true ↔ (s.P p).k = 0 := by
  rcases h.pages p hp with e | ⟨c, _, e⟩ | ⟨q, r, hr, h1, h2⟩
  · rw [e]; exact ⟨fun _ => rfl, fun _ => rfl⟩
  · rw [e]
    constructor
    · intro hh; cases hh
    · intro hh; exact absurd hh (by decide : (1 : Int) ≠ 0)
  · have hk : (s.P p).k = 2 ∨ (s.P p).k = 3 := by
      by_cases e : p = q
      · subst e; rw [hr.2.2.1]; exact .inl rfl
      · rw [hr.2.2.2 p (by omega) (by omega)]; exact .inr rfl
    constructor
    · intro hh; rw [Pg.free_eq hh]
    · intro hh; omega
/-- A row of m free pages from p on. -/
def St.Row (s : St) (m p : Nat) : Prop := p + m ≤ s.n ∧ ∀ j, p ≤ j → j < p + m → (s.P j).k = 0
/-- What the law wants when the pages from q on have been looked at; ini: the class's least free block, or -1. -/
def St.Wnt (s : St) (m : Nat) (ini : Int) (q : Nat) (v : Int) : Prop :=
  (0 ≤ ini ∧ v = ini) ∨ (ini = -1 ∧ v = -1 ∧ ∀ p, q ≤ p → ¬s.Row m p) ∨ (ini = -1 ∧ ∃ p : Nat, v = 64 * (p : Int) ∧ q ≤ p ∧ s.Row m p ∧ ∀ p', q ≤ p' → p' < p → ¬s.Row m p')
/-- The class's least free block, as the law finds it. -/
def St.ini (s : St) (z : Int) : Int := if Sp.cls z = 8 then -1 else s.hd0 (Sp.cls z).toNat
def Sp.need (z : Int) : Nat := if Sp.cls z = 8 then (Sp.pgs z).toNat else 1
theorem St.Row.one {s : St} {p : Nat} : s.Row 1 p ↔ p < s.n ∧ (s.P p).k = 0 :=
  ⟨fun h => ⟨h.1, h.2 p (Nat.le_refl _) (by omega)⟩, fun h => ⟨h.1, fun j h1 h2 => by rw [show j = p by omega]; exact h.2⟩⟩
/-- Where take puts an object is where the law wants it. -/
theorem St.InvX.takeLow {s : St} (h : s.Inv) (hlow : s.low ≤ s.n) {z : Int} (hz : 1 ≤ z ∧ z ≤ 1024) {v : Int} (hv : s.Wnt (Sp.need z) (s.ini z) 0 v) :
    (∀ t, s.take z = (t, 0, 20, 0) → v = -1) ∧ (∀ t (a : Nat), s.take z = (t, (a : Int), 0, 0) → v = (a : Int)) := by
  have hffn : s.ff ≤ s.n := firstFree_le _ _ _ hlow
  have hbel : ∀ p, p < s.ff → p < s.n → (s.P p).k ≠ 0 := fun p h1 h2 e => h.ffBelow p h1 h2 (Pg.free_eq ((h.freeP h2).2 e))
  by_cases h8 : Sp.cls z = 8
  · have hini : s.ini z = -1 := by unfold St.ini; rw [if_pos h8]
    have hneed : Sp.need z = (Sp.pgs z).toNat := by unfold Sp.need; rw [if_pos h8]
    have hm := (Sp.wide_run h8).2
    rw [hini, hneed] at hv
    obtain ⟨m, hmm⟩ : ∃ m, (Sp.pgs z).toNat = m := ⟨_, rfl⟩
    have hsk := seekRun_least s.P s.n m _ s.ff 0 (Nat.le_refl _) (Nat.zero_le _) (by omega)
    have hfree := seekRun_free s.P s.n m _ s.ff 0 (Nat.le_refl _) (by omega) (fun j hj1 hj2 => by omega) (by omega)
    have hin := seekRun_in s.P s.n m (by omega) _ s.ff 0 (Nat.le_refl _) (by omega) (by omega)
    rw [hmm] at hv
    have ht : s.take z = match s.runAt m with
      | none => ({ s with low := s.ff }, 0, 20, 0)
      | some h => ({ s with P := runPg s.P h m, low := s.ff }, ((h * 64 : Nat) : Int), 0, 0) := by
      unfold St.take
      rw [if_pos h8, hmm]
      rfl
    rw [ht]
    have hge : ∀ p, s.Row m p → s.ff ≤ p := fun p hr => by
      rcases Nat.lt_or_ge p s.ff with g | g
      · exact absurd (hr.2 p (Nat.le_refl _) (by omega)) (hbel p g (by have := hr.1; omega))
      · exact g
    have hno : ∀ p, s.Row m p → ∀ j, p ≤ j → j < p + m → (s.P j).free = true := fun p hr j h1 h2 => (h.freeP (by have := hr.1; omega)).2 (hr.2 j h1 h2)
    cases hr : s.runAt m with
    | none =>
      have h2 := hsk.2 hr
      have hnr : ∀ p, ¬s.Row m p := fun p hp => by
        obtain ⟨j, h3, h4, h5⟩ := h2 p (by have := hge p hp; omega) hp.1
        rw [hno p hp j h3 h4] at h5; cases h5
      refine ⟨fun t _ => ?_, fun t a e => ?_⟩
      · rcases hv with ⟨e, _⟩ | ⟨_, e, _⟩ | ⟨_, p, _, _, e, _⟩
        · omega
        · exact e
        · exact absurd e (hnr p)
      · injection e with _ e; injection e with _ e; injection e with e _; cases e
    | some q =>
      have h2 := hsk.1 q hr
      have hq : s.Row m q := ⟨hin q hr, fun j h3 h4 => (h.freeP (by have := hin q hr; omega)).1 (hfree q hr j h3 h4)⟩
      have hnr : ∀ p, p < q → ¬s.Row m p := fun p hpq hp => by
        obtain ⟨j, h3, h4, h5⟩ := h2 p (by have := hge p hp; omega) hpq
        rw [hno p hp j h3 h4] at h5; cases h5
      refine ⟨fun t e => ?_, fun t a e => ?_⟩
      · injection e with _ e; injection e with _ e; injection e with e _; cases e
      · injection e with _ e
        injection e with e _
        rcases hv with ⟨e1, _⟩ | ⟨_, _, e1⟩ | ⟨_, p, e1, _, e2, e3⟩
        · omega
        · exact absurd hq (e1 q (Nat.zero_le _))
        · have : p = q := by
            rcases Nat.lt_trichotomy p q with g | g | g
            · exact absurd e2 (hnr p g)
            · exact g
            · exact absurd hq (e3 q (Nat.zero_le _) g)
          omega
  · have hci := Sp.cls_in hz.1 hz.2
    obtain ⟨c, hcz⟩ : ∃ c : Nat, Sp.cls z = (c : Int) := ⟨(Sp.cls z).toNat, by omega⟩
    have hc : c < 8 := by omega
    have hini : s.ini z = s.hd0 c := by unfold St.ini; rw [if_neg h8, hcz, Int.toNat_natCast]
    have hneed : Sp.need z = 1 := by unfold Sp.need; rw [if_neg h8]
    rw [hini, hneed] at hv
    have hnone : (∀ a, s.B (c + 1) a = false) → s.hd0 c = -1 := fun he => Bm.next_none fun a _ _ => he a
    rcases h.takeSmall hc hcz hlow with ⟨a, ha, ht⟩ | ⟨he, hf, ht⟩ | ⟨he, hf, hP, ht⟩
    · rw [ht]
      refine ⟨fun t e => ?_, fun t a' e => ?_⟩
      · injection e with _ e; injection e with _ e; injection e with e _; cases e
      · injection e with _ e
        injection e with e _
        rcases hv with ⟨_, e1⟩ | ⟨e1, _⟩ | ⟨e1, _⟩
        · rw [e1, ha, e]
        · omega
        · omega
    · rw [ht]
      rw [hnone he] at hv
      refine ⟨fun t _ => ?_, fun t a e => ?_⟩
      · rcases hv with ⟨e, _⟩ | ⟨_, e, _⟩ | ⟨_, p, _, _, e, _⟩
        · omega
        · exact e
        · have := St.Row.one.1 e
          exact absurd this.2 (hbel p (by omega) this.1)
      · injection e with _ e; injection e with _ e; injection e with e _; cases e
    · rw [ht]
      rw [hnone he] at hv
      refine ⟨fun t e => ?_, fun t a e => ?_⟩
      · injection e with _ e; injection e with _ e; injection e with e _; cases e
      · injection e with _ e
        injection e with e _
        have hq : s.Row 1 s.ff := St.Row.one.2 ⟨hf, by rw [hP]⟩
        rcases hv with ⟨e1, _⟩ | ⟨_, _, e1⟩ | ⟨_, p, e1, _, e2, e3⟩
        · omega
        · exact absurd hq (e1 s.ff (Nat.zero_le _))
        · have : p = s.ff := by
            rcases Nat.lt_trichotomy p s.ff with g | g | g
            · have := St.Row.one.1 e2
              exact absurd this.2 (hbel p g this.1)
            · exact g
            · exact absurd hq (e3 s.ff (Nat.zero_le _) g)
          omega
theorem fits3 {z : Int} (h : 1 ≤ z ∧ z ≤ 1024) : Sp.fits 3 z = true := by
  unfold Sp.fits
  simp [Sp.base, Sp.most]
  omega
/-- The first of a class's free blocks. -/
theorem frs_head (s : St) (c : Nat) : (0 < (frs s c (64 * s.n)).length → s.hd0 c = ((frs s c (64 * s.n)).getD 0 0 : Nat)) ∧ ((frs s c (64 * s.n)).length = 0 → s.hd0 c = -1) := by
  have hup := frs_up s c (64 * s.n)
  have hmem := fun x => mem_frs s c x (64 * s.n)
  generalize frs s c (64 * s.n) = l at *
  unfold St.hd0
  constructor
  · intro h
    obtain ⟨g1, g2⟩ := (hmem (l.getD 0 0)).1 (by simp [h])
    refine Bm.next_eq (by omega) g1 g2 fun j _ hj => ?_
    cases hb : s.B (c + 1) j with
    | false => rfl
    | true =>
      obtain ⟨k, hk, e⟩ := getD_at ((hmem j).2 ⟨by omega, hb⟩)
      rcases Nat.eq_zero_or_pos k with g | g
      · subst g; omega
      · have := up_lt hup hk g; omega
  · intro h
    refine Bm.next_none fun a _ ha => ?_
    cases hb : s.B (c + 1) a with
    | false => rfl
    | true =>
      have := (hmem a).2 ⟨ha, hb⟩
      rw [List.eq_nil_of_length_eq_zero h] at this
      cases this
/-- One more page has been looked at. -/
theorem St.Wnt.step {s : St} {m : Nat} {ini : Int} {q : Nat} {v : Int} (h : s.Wnt m ini (q + 1) v) :
    (0 ≤ ini → s.Wnt m ini q v) ∧ (ini = -1 → s.Row m q → s.Wnt m ini q (64 * (q : Int))) ∧ (¬s.Row m q → s.Wnt m ini q v) := by
  refine ⟨fun hi => ?_, fun hi hr => .inr (.inr ⟨hi, q, rfl, Nat.le_refl _, hr, fun p' h1 h2 => by omega⟩), fun hr => ?_⟩
  · rcases h with h | ⟨e, _⟩ | ⟨e, _⟩
    · exact .inl h
    · omega
    · omega
  · rcases h with h | ⟨e1, e2, e3⟩ | ⟨e1, p, e2, e3, e4, e5⟩
    · exact .inl h
    · refine .inr (.inl ⟨e1, e2, fun p hp => ?_⟩)
      by_cases e : p = q
      · rw [e]; exact hr
      · exact e3 p (by omega)
    · refine .inr (.inr ⟨e1, p, e2, by omega, e4, fun p' h1 h2 => ?_⟩)
      by_cases e : p' = q
      · rw [e]; exact hr
      · exact e5 p' (by omega) h2
end Go.Proofs.YtiniadochjeieaaDoor
