/-
  How many objects of a size there is room for: one less behind each.
-/
import Derived.Test.YtiniadochjeieaaDoorQW
import Derived.Test.YtiniadochjeieaaDoorQN21
import Derived.Laws.FloatArith
import Derived.Deep.Cut
import Derived.Deep.CutRange
namespace Go.Proofs.YtiniadochjeieaaDoor
open Go Go.RowKit

theorem cnt_add {S : Nat → Bool} {x N : Nat} (hx : S x = false) (hN : x < N) : Bm.cnt (setS S x true) 0 N = Bm.cnt S 0 N + 1 := by
  have h := cnt_set (S := setS S x true) (x := x) (if_pos rfl) N hN
  have e : setS (setS S x true) x false = S := by
    funext i
    unfold setS
    by_cases h : i = x
    · rw [if_pos h, h, hx]
    · rw [if_neg h, if_neg h]
  rw [e] at h
  exact h
theorem cutB_in (S : Nat → Bool) (f w : Nat) : ∀ k x, cutB S f w k x = true ↔ S x = true ∨ ∃ j, j < k ∧ x = f + j * w
  | 0, x => ⟨.inl, fun h => h.resolve_right fun ⟨j, h, _⟩ => by omega⟩
  | k + 1, x => by
    have ih := cutB_in S f w k x
    show setS (cutB S f w k) (f + k * w) true x = true ↔ _
    unfold setS
    by_cases e : x = f + k * w
    · rw [if_pos e]
      exact ⟨fun _ => .inr ⟨k, by omega, e⟩, fun _ => rfl⟩
    · rw [if_neg e, ih]
      refine ⟨fun h => h.imp id fun ⟨j, h1, h2⟩ => ⟨j, by omega, h2⟩, fun h => h.imp id fun ⟨j, h1, h2⟩ => ⟨j, ?_, h2⟩⟩
      by_cases ej : j = k
      · subst ej; exact absurd h2 e
      · omega
theorem cutB_cnt {S : Nat → Bool} {f w N : Nat} (hS : ∀ x, S x = false) (hw : 0 < w) : ∀ k, f + k * w ≤ N → Bm.cnt (cutB S f w k) 0 N = Bm.cnt S 0 N + k
  | 0, _ => rfl
  | k + 1, h => by
    have hm : (k + 1) * w = k * w + w := Nat.succ_mul _ _
    have ih := cutB_cnt (S := S) (f := f) (w := w) (N := N) hS hw k (by omega)
    show Bm.cnt (setS (cutB S f w k) (f + k * w) true) 0 N = _
    rw [cnt_add (by
      cases e : cutB S f w k (f + k * w) with
      | false => rfl
      | true =>
        rcases (cutB_in S f w k _).1 e with h1 | ⟨j, h1, h2⟩
        · rw [hS] at h1; cases h1
        · have h3 : j * w = k * w := by omega
          have := Nat.eq_of_mul_eq_mul_right hw h3
          omega) (by omega), ih]
    omega
/-- Free pages below k. -/
def fpg (P : Nat → Pg) : Nat → Nat
  | 0 => 0
  | k + 1 => fpg P k + if (P k).k = 0 then 1 else 0
theorem fpg_set {P : Nat → Pg} {q : Nat} {g : Pg} (hq : (P q).k = 0) (hg : g.k ≠ 0) : ∀ N, q < N → fpg P N = fpg (setPg P q g) N + 1
  | 0, h => by omega
  | N + 1, h => by
    show fpg P N + _ = fpg (setPg P q g) N + _ + 1
    by_cases e : q = N
    · subst e
      have h1 : ∀ N, N ≤ q → fpg P N = fpg (setPg P q g) N := fun N => by
        induction N with
        | zero => intro _; rfl
        | succ N ih =>
          intro hN
          show fpg P N + _ = fpg (setPg P q g) N + _
          rw [ih (by omega), show setPg P q g N = P N from if_neg (by omega)]
      rw [h1 q (Nat.le_refl _), show setPg P q g q = g from if_pos rfl, if_pos hq, if_neg hg]
    · rw [fpg_set hq hg N (by omega), show setPg P q g N = P N from if_neg (fun h => e h.symm)]
      omega
theorem fpg_none {P : Nat → Pg} : ∀ N, (∀ p, p < N → (P p).k ≠ 0) → fpg P N = 0
  | 0, _ => rfl
  | N + 1, h => by
    show fpg P N + _ = 0
    rw [fpg_none N fun p hp => h p (by omega), if_neg (h N (by omega))]
theorem fpg_all {P : Nat → Pg} : ∀ N, (∀ p, p < N → (P p).k = 0) → fpg P N = N
  | 0, _ => rfl
  | N + 1, h => by
    show fpg P N + _ = N + 1
    rw [fpg_all N fun p hp => h p (by omega), if_pos (h N (by omega))]
/-- Pages looked through: how many rows of m free ones there were, and how long the one under way is. -/
def scan (P : Nat → Pg) (m : Nat) : Nat → Nat × Nat
  | 0 => (0, 0)
  | k + 1 => if (P k).k = 0 then (if (scan P m k).2 + 1 = m then ((scan P m k).1 + 1, 0) else ((scan P m k).1, (scan P m k).2 + 1)) else ((scan P m k).1, 0)
theorem scan_row (P : Nat → Pg) (m : Nat) (hm : 1 ≤ m) : ∀ k, (scan P m k).2 < m ∧ (scan P m k).2 ≤ k ∧ ∀ j, k - (scan P m k).2 ≤ j → j < k → (P j).k = 0
  | 0 => ⟨hm, Nat.le_refl _, fun j _ h => by omega⟩
  | k + 1 => by
    obtain ⟨h1, h2, h3⟩ := scan_row P m hm k
    unfold scan
    by_cases hk : (P k).k = 0
    · rw [if_pos hk]
      by_cases hr : (scan P m k).2 + 1 = m
      · rw [if_pos hr]
        exact ⟨hm, Nat.zero_le _, fun j h4 h5 => by dsimp only at h4; omega⟩
      · rw [if_neg hr]
        refine ⟨by dsimp only; omega, by dsimp only; omega, fun j h4 h5 => ?_⟩
        dsimp only at h4
        by_cases e : j = k
        · rw [e]; exact hk
        · exact h3 j (by omega) (by omega)
    · rw [if_neg hk]
      exact ⟨hm, Nat.zero_le _, fun j h4 h5 => by dsimp only at h4; omega⟩
/-- As long as no row ends, none is counted. -/
theorem scan_none (P : Nat → Pg) (m : Nat) (hm : 1 ≤ m) : ∀ k, (∀ p, p + m ≤ k → ∃ j, p ≤ j ∧ j < p + m ∧ (P j).k ≠ 0) →
    (scan P m k).1 = 0 ∧ ((scan P m k).2 = k ∨ (P (k - (scan P m k).2 - 1)).k ≠ 0)
  | 0, _ => ⟨rfl, .inl rfl⟩
  | k + 1, h => by
    obtain ⟨h1, h2⟩ := scan_none P m hm k fun p hp => h p (by omega)
    obtain ⟨h3, h4, h5⟩ := scan_row P m hm k
    unfold scan
    by_cases hk : (P k).k = 0
    · rw [if_pos hk]
      by_cases hr : (scan P m k).2 + 1 = m
      · obtain ⟨j, g1, g2, g3⟩ := h (k - (scan P m k).2) (by omega)
        by_cases e : j = k
        · rw [e] at g3; exact absurd hk g3
        · exact absurd (h5 j g1 (by omega)) g3
      · rw [if_neg hr]
        refine ⟨h1, ?_⟩
        dsimp only
        rcases h2 with h2 | h2
        · left; omega
        · right
          rw [show k + 1 - ((scan P m k).2 + 1) - 1 = k - (scan P m k).2 - 1 by omega]
          exact h2
    · rw [if_neg hk]
      exact ⟨h1, .inr hk⟩
theorem scan_congr {P Q : Nat → Pg} {m : Nat} : ∀ k, (∀ j, j < k → (P j).k = (Q j).k) → scan P m k = scan Q m k
  | 0, _ => rfl
  | k + 1, h => by
    unfold scan
    rw [scan_congr k fun j hj => h j (by omega), h k (by omega)]
theorem scan_zero {P : Nat → Pg} {m : Nat} (k : Nat) : ∀ i, 1 ≤ i → (∀ j, k ≤ j → j < k + i → (P j).k ≠ 0) → scan P m (k + i) = ((scan P m k).1, 0)
  | 0, h, _ => by omega
  | i + 1, _, h => by
    show (if (P (k + i)).k = 0 then _ else _) = _
    rw [if_neg (h (k + i) (by omega) (by omega))]
    show ((scan P m (k + i)).1, 0) = _
    by_cases hi : 1 ≤ i
    · rw [scan_zero k i hi fun j h1 h2 => h j h1 (by omega)]
    · obtain rfl : i = 0 := by omega
      rfl
theorem scan_from {P Q : Nat → Pg} {m k d : Nat} (h1 : (scan P m k).1 = (scan Q m k).1 + d) (h2 : (scan P m k).2 = (scan Q m k).2) : ∀ i, (∀ j, k ≤ j → j < k + i → (P j).k = (Q j).k) → (scan P m (k + i)).1 = (scan Q m (k + i)).1 + d ∧ (scan P m (k + i)).2 = (scan Q m (k + i)).2
  | 0, _ => ⟨h1, h2⟩
  | i + 1, h => by
    obtain ⟨h3, h4⟩ := scan_from h1 h2 i fun j g1 g2 => h j g1 (by omega)
    show (scan P m (k + i + 1)).1 = (scan Q m (k + i + 1)).1 + d ∧ (scan P m (k + i + 1)).2 = (scan Q m (k + i + 1)).2
    unfold scan
    rw [h (k + i) (by omega) (by omega), h4]
    by_cases e1 : (Q (k + i)).k = 0
    · rw [if_pos e1, if_pos e1]
      by_cases e2 : (scan Q m (k + i)).2 + 1 = m
      · rw [if_pos e2, if_pos e2]
        exact ⟨by dsimp only; omega, rfl⟩
      · rw [if_neg e2, if_neg e2]
        exact ⟨h3, rfl⟩
    · rw [if_neg e1, if_neg e1]
      exact ⟨h3, rfl⟩
/-- The least row taken: one less. -/
theorem scan_take {P : Nat → Pg} {n m h : Nat} (hm : 1 ≤ m) (hn : h + m ≤ n) (hf : ∀ j, h ≤ j → j < h + m → (P j).k = 0) (hl : ∀ p, p < h → ∃ j, p ≤ j ∧ j < p + m ∧ (P j).k ≠ 0) {Q : Nat → Pg} (hQ : ∀ j, h ≤ j → j < h + m → (Q j).k ≠ 0) (hE : ∀ j, ¬(h ≤ j ∧ j < h + m) → (Q j).k = (P j).k) :
    (scan P m n).1 = (scan Q m n).1 + 1 := by
  obtain ⟨g1, g2⟩ := scan_none P m hm (h + m - 1) fun p hp => hl p (by omega)
  obtain ⟨g3, g4, g5⟩ := scan_row P m hm (h + m - 1)
  have hrow : (scan P m (h + m - 1)).2 + 1 = m := by
    by_cases e : (scan P m (h + m - 1)).2 + 1 = m
    · exact e
    · exfalso
      rcases g2 with g2 | g2
      · omega
      · exact g2 (hf _ (by omega) (by omega))
  have hP : scan P m (h + m) = (1, 0) := by
    rw [show h + m = (h + m - 1) + 1 by omega]
    show (if (P (h + m - 1)).k = 0 then _ else _) = _
    rw [if_pos (hf _ (by omega) (by omega)), if_pos hrow, g1]
  have hQ2 : scan Q m (h + m) = (0, 0) := by
    rw [scan_zero h m hm hQ, scan_congr (Q := P) h fun j hj => hE j (by omega)]
    rw [(scan_none P m hm h fun p hp => hl p (by omega)).1]
  have := (scan_from (P := P) (Q := Q) (m := m) (k := h + m) (d := 1) (by rw [hP, hQ2]) (by rw [hP, hQ2]) (n - (h + m)) fun j h1 h2 => (hE j (by omega)).symm).1
  rw [show h + m + (n - (h + m)) = n by omega] at this
  exact this
theorem scan_all {P : Nat → Pg} {m : Nat} (hm : 1 ≤ m) : ∀ k, (∀ j, j < k → (P j).k = 0) → scan P m k = (k / m, k % m)
  | 0, _ => by
    show (0, 0) = (0 / m, 0 % m)
    rw [Nat.zero_div, Nat.zero_mod]
  | k + 1, h => by
    unfold scan
    rw [if_pos (h k (by omega)), scan_all hm k fun j hj => h j (by omega)]
    dsimp only
    have hd := Nat.div_add_mod k m
    have hlt := Nat.mod_lt k hm
    by_cases e : k % m + 1 = m
    · rw [if_pos e]
      have e2 : k + 1 = m * (k / m + 1) := by rw [Nat.mul_add]; omega
      rw [e2, Nat.mul_div_cancel_left _ hm, Nat.mul_mod_right]
    · rw [if_neg e]
      have hl2 : k % m + 1 < m := by omega
      have e2 : k + 1 = (k % m + 1) + m * (k / m) := by omega
      have e3 : (k + 1) / m = k / m := by
        rw [e2, Nat.add_mul_div_left _ _ hm, Nat.div_eq_of_lt hl2, Nat.zero_add]
      have e4 : (k + 1) % m = k % m + 1 := by
        rw [e2, Nat.add_mul_mod_self_left, Nat.mod_eq_of_lt hl2]
      rw [e3, e4]
/-- How many objects of a size there is room for. -/
def St.hold (s : St) (z : Int) : Nat :=
  if Sp.cls z = 8 then (scan s.P (Sp.pgs z).toNat s.n).1
  else Sp.bk (Sp.cls z).toNat * fpg s.P s.n + Bm.cnt (s.B ((Sp.cls z).toNat + 1)) 0 (64 * s.n)
theorem St.hold_put (s : St) (a : Nat) (k z t z' : Int) : (s.put a k z t).hold z' = s.hold z' := rfl
theorem cnt_none {S : Nat → Bool} (h : ∀ x, S x = false) (N : Nat) : Bm.cnt S 0 N = 0 := Bm.cnt_zero fun i _ _ => h i
theorem runPg_k (P : Nat → Pg) (h m j : Nat) : (h ≤ j ∧ j < h + m → (runPg P h m j).k ≠ 0) ∧ (¬(h ≤ j ∧ j < h + m) → j ≠ h → runPg P h m j = P j) := by
  unfold runPg
  constructor
  · intro hj
    by_cases e : j = h
    · rw [if_pos e]; exact (by decide : (2 : Int) ≠ 0)
    · rw [if_neg e, if_pos hj]; exact (by decide : (3 : Int) ≠ 0)
  · intro hj hne
    rw [if_neg hne, if_neg hj]
/-- One object more: room for one less; none: room for none. -/
theorem St.InvX.holdTake {s : St} (h : s.Inv) (hlow : s.low ≤ s.n) {z : Int} (hz : 1 ≤ z ∧ z ≤ 1024) :
    (∀ t, s.take z = (t, 0, 20, 0) → s.hold z = 0) ∧ (∀ t (a : Nat), s.take z = (t, (a : Int), 0, 0) → s.hold z = t.hold z + 1) := by
  have hffn : s.ff ≤ s.n := firstFree_le _ _ _ hlow
  have hbel : ∀ p, p < s.ff → p < s.n → (s.P p).k ≠ 0 := fun p h1 h2 e => h.ffBelow p h1 h2 (Pg.free_eq ((h.freeP h2).2 e))
  by_cases h8 : Sp.cls z = 8
  · have hm := (Sp.wide_run h8).2
    obtain ⟨m, hmm⟩ : ∃ m, (Sp.pgs z).toNat = m := ⟨_, rfl⟩
    have hsk := seekRun_least s.P s.n m _ s.ff 0 (Nat.le_refl _) (Nat.zero_le _) (by omega)
    have hfree := seekRun_free s.P s.n m _ s.ff 0 (Nat.le_refl _) (by omega) (fun j hj1 hj2 => by omega) (by omega)
    have hin := seekRun_in s.P s.n m (by omega) _ s.ff 0 (Nat.le_refl _) (by omega) (by omega)
    have ht : s.take z = match s.runAt m with
      | none => ({ s with low := s.ff }, 0, 20, 0)
      | some h => ({ s with P := runPg s.P h m, low := s.ff }, ((h * 64 : Nat) : Int), 0, 0) := by
      unfold St.take
      rw [if_pos h8, hmm]
      rfl
    have hh : ∀ t : St, t.hold z = (scan t.P m t.n).1 := fun t => by unfold St.hold; rw [if_pos h8, hmm]
    rw [ht]
    have hbad : ∀ j, j < s.n → (s.P j).free = false → (s.P j).k ≠ 0 := fun j hj e e2 => by rw [(h.freeP hj).2 e2] at e; cases e
    cases hr : s.runAt m with
    | none =>
      refine ⟨fun t _ => ?_, fun t a e => ?_⟩
      · rw [hh]
        refine (scan_none s.P m (by omega) s.n fun p hp => ?_).1
        by_cases hpf : s.ff ≤ p
        · obtain ⟨j, h3, h4, h5⟩ := hsk.2 hr p (by omega) hp
          exact ⟨j, h3, h4, hbad j (by omega) h5⟩
        · exact ⟨p, Nat.le_refl _, by omega, hbel p (by omega) (by omega)⟩
      · injection e with _ e; injection e with _ e; injection e with e _; cases e
    | some q =>
      refine ⟨fun t e => ?_, fun t a e => ?_⟩
      · injection e with _ e; injection e with _ e; injection e with e _; cases e
      · injection e with e _
        subst e
        rw [hh, hh]
        have hqn := hin q hr
        refine scan_take (by omega) hqn (fun j h3 h4 => (h.freeP (by omega)).1 (hfree q hr j h3 h4)) (fun p hp => ?_) (fun j h3 h4 => (runPg_k s.P q m j).1 ⟨h3, h4⟩) (fun j hj => by
          show (runPg s.P q m j).k = _
          rw [(runPg_k s.P q m j).2 hj (by omega)])
        by_cases hpf : s.ff ≤ p
        · obtain ⟨j, h3, h4, h5⟩ := hsk.1 q hr p (by omega) hp
          exact ⟨j, h3, h4, hbad j (by omega) h5⟩
        · exact ⟨p, Nat.le_refl _, by omega, hbel p (by omega) (by omega)⟩
  · have hci := Sp.cls_in hz.1 hz.2
    obtain ⟨c, hcz⟩ : ∃ c : Nat, Sp.cls z = (c : Int) := ⟨(Sp.cls z).toNat, by omega⟩
    have hc : c < 8 := by omega
    have hh : ∀ t : St, t.hold z = Sp.bk c * fpg t.P t.n + Bm.cnt (t.B (c + 1)) 0 (64 * t.n) := fun t => by unfold St.hold; rw [if_neg h8, hcz, Int.toNat_natCast]
    rcases h.takeSmall hc hcz hlow with ⟨a, ha, ht⟩ | ⟨he, hf, ht⟩ | ⟨he, hf, hP, ht⟩
    · rw [ht]
      refine ⟨fun t e => ?_, fun t a' e => ?_⟩
      · injection e with _ e; injection e with _ e; injection e with e _; cases e
      · injection e with e _
        subst e
        rw [hh, hh]
        show _ = Sp.bk c * fpg s.P s.n + Bm.cnt ((s.setB (c + 1) (setS (s.B (c + 1)) a false)).B (c + 1)) 0 (64 * s.n) + 1
        rw [St.setB_at]
        have hpk := (h.pick hc ha).2.2.1
        have hb : s.B (c + 1) a = true := by
          unfold St.hd0 at ha
          rcases Bm.next_spec (s.B (c + 1)) (64 * s.n) 0 with ⟨e, _⟩ | ⟨i, e, _, _, h4, _⟩
          · omega
          · obtain rfl : i = a := by omega
            exact h4
        have haN : a < 64 * s.n := by
          obtain ⟨p, i, h1, h2, h3, _⟩ := hpk
          have := blk_page hc h2 h3
          omega
        have := cnt_set hb (64 * s.n) haN
        omega
    · rw [ht]
      refine ⟨fun t _ => ?_, fun t a e => ?_⟩
      · rw [hh, fpg_none s.n fun p hp => hbel p (by omega) hp, cnt_none he]
        rfl
      · injection e with _ e; injection e with _ e; injection e with e _; cases e
    · rw [ht]
      refine ⟨fun t e => ?_, fun t a e => ?_⟩
      · injection e with _ e; injection e with _ e; injection e with e _; cases e
      · injection e with e _
        subst e
        rw [hh, hh]
        have hBc : (s.open c).B (c + 1) = cutB (s.B (c + 1)) (s.ff * 64) (Sp.cw c) (Sp.bk c) := St.setB_at _ _ _
        show _ = Sp.bk c * fpg (setPg s.P s.ff ⟨1, c, 0⟩) s.n + Bm.cnt (((s.open c).setB (c + 1) (setS ((s.open c).B (c + 1)) (s.ff * 64) false)).B (c + 1)) 0 (64 * s.n) + 1
        rw [St.setB_at, hBc]
        have hcw := Sp.cw_le c hc
        have hw0 : 0 < Sp.cw c := by
          have h8 : c = 0 ∨ c = 1 ∨ c = 2 ∨ c = 3 ∨ c = 4 ∨ c = 5 ∨ c = 6 ∨ c = 7 := by omega
          rcases h8 with rfl | rfl | rfl | rfl | rfl | rfl | rfl | rfl <;> decide
        have hle : 1 ≤ Sp.bk c ∧ Sp.bk c * Sp.cw c ≤ 64 := by
          have h8 : c = 0 ∨ c = 1 ∨ c = 2 ∨ c = 3 ∨ c = 4 ∨ c = 5 ∨ c = 6 ∨ c = 7 := by omega
          rcases h8 with rfl | rfl | rfl | rfl | rfl | rfl | rfl | rfl <;> decide
        have h1 := cutB_cnt (f := s.ff * 64) (w := Sp.cw c) (N := 64 * s.n) he hw0 (Sp.bk c) (by omega)
        have h2 := cnt_set (S := cutB (s.B (c + 1)) (s.ff * 64) (Sp.cw c) (Sp.bk c)) (x := s.ff * 64) ((cutB_in _ _ _ _ _).2 (.inr ⟨0, by omega, by omega⟩)) (64 * s.n) (by omega)
        have h3 := fpg_set (P := s.P) (q := s.ff) (g := ⟨1, c, 0⟩) (by rw [hP]) (by show (1 : Int) ≠ 0; decide) s.n hf
        have h4 := cnt_none he (64 * s.n)
        rw [h3, Nat.mul_add]
        omega
end Go.Proofs.YtiniadochjeieaaDoor

namespace Go.Proofs.YtiniadochjeieaaDoor
open Go Go.RowKit

/-- What Fits has come to stands for a space in which the objects were taken. -/
structure Sim.Ok (x : Sim) (s0 s : St) : Prop where
  P : x.P = s.P
  low : x.low = s.low
  n : s.n = s0.n
  cnt : ∀ c, c < 8 → x.cnt s0 c = (Bm.cnt (s.B (c + 1)) 0 (64 * s.n) : Nat)
theorem Sim.Ok.start (s : St) : s.sim0.Ok s s := ⟨rfl, rfl, rfl, fun _ _ => rfl⟩
theorem Sim.cnt_upd (x : Sim) (s0 : St) (P : Nat → Pg) (low c : Nat) {u : Int} (hu : 0 ≤ u) (c' : Nat) : Sim.cnt ⟨P, low, updF x.left c u⟩ s0 c' = if c' = c then u else x.cnt s0 c' := by
  show (if updF x.left c u c' < 0 then _ else updF x.left c u c') = _
  by_cases e : c' = c
  · have e2 : updF x.left c u c' = u := if_pos e
    rw [e2, if_pos e, if_neg (by omega)]
  · have e2 : updF x.left c u c' = x.left c' := if_neg e
    rw [e2, if_neg e]
    rfl
theorem Sim.Ok.step {x : Sim} {s0 s : St} (h : x.Ok s0 s) (hi : s.Inv) (hlow : s.low ≤ s.n) {z : Int} (hz : 1 ≤ z ∧ z ≤ 1024) :
    (∀ t, s.take z = (t, 0, 20, 0) → x.step s0 z = none) ∧ (∀ t (a : Nat), s.take z = (t, (a : Int), 0, 0) → ∃ x', x.step s0 z = some x' ∧ x'.Ok s0 t) := by
  have hffn : s.ff ≤ s.n := firstFree_le _ _ _ hlow
  have hff : x.ff s0.n = s.ff := by unfold Sim.ff St.ff; rw [h.P, h.low, h.n]
  by_cases h8 : Sp.cls z = 8
  · obtain ⟨m, hmm⟩ : ∃ m, (Sp.pgs z).toNat = m := ⟨_, rfl⟩
    have ht : s.take z = match s.runAt m with
      | none => ({ s with low := s.ff }, 0, 20, 0)
      | some h => ({ s with P := runPg s.P h m, low := s.ff }, ((h * 64 : Nat) : Int), 0, 0) := by
      unfold St.take
      rw [if_pos h8, hmm]
      rfl
    have hst : x.step s0 z = match s.runAt m with
      | none => none
      | some h => some ⟨runPg s.P h m, s.ff, x.left⟩ := by
      unfold Sim.step
      rw [if_neg (by omega), if_pos h8, hmm, hff, h.P, ← h.n]
      rfl
    rw [ht, hst]
    cases hr : s.runAt m with
    | none =>
      refine ⟨fun t _ => rfl, fun t a e => ?_⟩
      injection e with _ e; injection e with _ e; injection e with e _; cases e
    | some q =>
      refine ⟨fun t e => ?_, fun t a e => ⟨_, rfl, ?_⟩⟩
      · injection e with _ e; injection e with _ e; injection e with e _; cases e
      · injection e with e _
        subst e
        exact ⟨rfl, rfl, h.n, h.cnt⟩
  · have hci := Sp.cls_in hz.1 hz.2
    obtain ⟨c, hcz⟩ : ∃ c : Nat, Sp.cls z = (c : Int) := ⟨(Sp.cls z).toNat, by omega⟩
    have hc : c < 8 := by omega
    have hcn := h.cnt c hc
    have hst : x.step s0 z = if x.cnt s0 c = 0 then (if s.ff = s.n then none else some ⟨setPg s.P s.ff ⟨1, (c : Int), 0⟩, s.ff, updF x.left c ((Sp.bk c : Int) - 1)⟩) else some ⟨s.P, s.low, updF x.left c (x.cnt s0 c - 1)⟩ := by
      unfold Sim.step
      rw [if_neg (by omega), if_neg h8, hcz, Int.toNat_natCast, hff, h.P, h.low, ← h.n]
    rw [hst, hcn]
    rcases hi.takeSmall hc hcz hlow with ⟨a, ha, ht⟩ | ⟨he, hf, ht⟩ | ⟨he, hf, hP, ht⟩
    · rw [ht]
      refine ⟨fun t e => ?_, fun t a' e => ?_⟩
      · injection e with _ e; injection e with _ e; injection e with e _; cases e
      · injection e with e _
        subst e
        have hpk := (hi.pick hc ha).2.2.1
        have hb : s.B (c + 1) a = true := by
          unfold St.hd0 at ha
          rcases Bm.next_spec (s.B (c + 1)) (64 * s.n) 0 with ⟨e, _⟩ | ⟨i, e, _, _, h4, _⟩
          · omega
          · obtain rfl : i = a := by omega
            exact h4
        have haN : a < 64 * s.n := by
          obtain ⟨p, i, h1, h2, h3, _⟩ := hpk
          have := blk_page hc h2 h3
          omega
        have hcs := cnt_set hb (64 * s.n) haN
        rw [if_neg (by omega)]
        refine ⟨_, rfl, rfl, rfl, h.n, fun c' hc' => ?_⟩
        rw [x.cnt_upd s0 _ _ c (by omega)]
        by_cases ec : c' = c
        · subst ec
          rw [if_pos rfl]
          show _ = ((Bm.cnt ((s.setB (c' + 1) (setS (s.B (c' + 1)) a false)).B (c' + 1)) 0 (64 * s.n) : Nat) : Int)
          rw [St.setB_at]
          omega
        · rw [if_neg ec, h.cnt c' hc']
          show _ = ((Bm.cnt ((s.setB (c + 1) (setS (s.B (c + 1)) a false)).B (c' + 1)) 0 (64 * s.n) : Nat) : Int)
          rw [setB_ne _ _ _ _ (by omega)]
    · rw [ht]
      refine ⟨fun t _ => ?_, fun t a e => ?_⟩
      · rw [cnt_none he, if_pos (by rfl), if_pos hf]
      · injection e with _ e; injection e with _ e; injection e with e _; cases e
    · rw [ht]
      refine ⟨fun t e => ?_, fun t a e => ?_⟩
      · injection e with _ e; injection e with _ e; injection e with e _; cases e
      · injection e with e _
        subst e
        have hBc : (s.open c).B (c + 1) = cutB (s.B (c + 1)) (s.ff * 64) (Sp.cw c) (Sp.bk c) := St.setB_at _ _ _
        have hBo : ∀ j, j ≠ c + 1 → (s.open c).B j = s.B j := fun j hj => setB_ne _ _ _ _ hj
        have hw0 : 0 < Sp.cw c ∧ 1 ≤ Sp.bk c ∧ Sp.bk c * Sp.cw c ≤ 64 := by
          have h8 : c = 0 ∨ c = 1 ∨ c = 2 ∨ c = 3 ∨ c = 4 ∨ c = 5 ∨ c = 6 ∨ c = 7 := by omega
          rcases h8 with rfl | rfl | rfl | rfl | rfl | rfl | rfl | rfl <;> decide
        have h1 := cutB_cnt (f := s.ff * 64) (w := Sp.cw c) (N := 64 * s.n) he hw0.1 (Sp.bk c) (by omega)
        have h2 := cnt_set (S := cutB (s.B (c + 1)) (s.ff * 64) (Sp.cw c) (Sp.bk c)) (x := s.ff * 64) ((cutB_in _ _ _ _ _).2 (.inr ⟨0, by omega, by omega⟩)) (64 * s.n) (by omega)
        have h4 := cnt_none he (64 * s.n)
        rw [h4, if_pos (by rfl), if_neg (by omega)]
        refine ⟨_, rfl, rfl, rfl, h.n, fun c' hc' => ?_⟩
        rw [x.cnt_upd s0 _ _ c (by omega)]
        by_cases ec : c' = c
        · subst ec
          rw [if_pos rfl]
          show _ = ((Bm.cnt (((s.open c').setB (c' + 1) (setS ((s.open c').B (c' + 1)) (s.ff * 64) false)).B (c' + 1)) 0 (64 * s.n) : Nat) : Int)
          rw [St.setB_at, hBc]
          omega
        · rw [if_neg ec, h.cnt c' hc']
          show _ = ((Bm.cnt (((s.open c).setB (c + 1) (setS ((s.open c).B (c + 1)) (s.ff * 64) false)).B (c' + 1)) 0 (64 * s.n) : Nat) : Int)
          rw [setB_ne _ _ _ _ (by omega), hBo _ (by omega)]
theorem Sim.Ok.put {x : Sim} {s0 s : St} (h : x.Ok s0 s) (a : Nat) (k z t : Int) : x.Ok s0 (s.put a k z t) := ⟨h.P, h.low, h.n, h.cnt⟩
theorem Sim.step_bad (x : Sim) (s0 : St) {z : Int} (hz : ¬(1 ≤ z ∧ z ≤ 1024)) : x.step s0 z = none := by
  unfold Sim.step Sp.cls
  rw [if_pos (by rw [if_pos (by omega)]; omega)]
/-- Of one size alone. -/
theorem St.InvX.fitsOne {s : St} (h : s.Inv) (hlow : s.low ≤ s.n) {z : Int} (hz : 1 ≤ z ∧ z ≤ 1024) (h0 : s.hold z = 0) : (s.simTo (fun _ => z) 1).isSome = false := by
  have hs : s.simTo (fun _ => z) 1 = s.sim0.step s z := rfl
  rw [hs]
  rcases h.take hz hlow with ⟨l, e, _⟩ | ⟨s1, a, e, _⟩
  · rw [((Sim.Ok.start s).step h hlow hz).1 _ e]; rfl
  · have := (h.holdTake hlow hz).2 _ _ e
    omega
end Go.Proofs.YtiniadochjeieaaDoor

namespace Go.Proofs.YtiniadochjeieaaDoor
open Go Go.RowKit

theorem order_self (d : Ieee.Datum) (h : d.isNaN = false) : d.order d = some .eq := by
  cases d with
  | nan s t => cases h
  | infinity s => simp [Ieee.Datum.order, compare, compareOfLessAndEq]
  | number s m i => simp [Ieee.Datum.order, compare, compareOfLessAndEq]
theorem read_not_nan (f : Ieee.Format) {w : Nat} (h : w % f.signWeight ≤ f.infRung) : (f.read w).isNaN = false := by
  unfold Ieee.Format.read
  dsimp only
  split
  · rfl
  · split
    · rfl
    · split
      · rfl
      · omega
theorem word_mod (f : Ieee.Format) (s : Bool) {r : Nat} (h : r ≤ f.infRung) : f.word s r % f.signWeight = r := by
  have := f.infRung_lt
  unfold Ieee.Format.word
  split
  · rw [Nat.add_mod_left, Nat.mod_eq_of_lt (by omega)]
  · exact Nat.mod_eq_of_lt (by omega)
theorem write_not_nan (f : Ieee.Format) (s : Bool) (m : Nat) (p : Int) : (f.read (f.write (.number s m p))).isNaN = false := by
  refine read_not_nan f ?_
  show f.nearest s m p % _ ≤ _
  unfold Ieee.Format.nearest
  dsimp only
  split
  · rw [word_mod f s (Nat.zero_le _)]; exact Nat.zero_le _
  · rw [word_mod f s (Nat.min_le_right _ _)]; exact Nat.min_le_right _ _
/-- A whole number that is not too great reads as a number that is not 0. -/
theorem read_nat {n : Nat} (h1 : 1 ≤ n) (h2 : n < 2 ^ 53) : ∃ m e, Ieee.double.read (Ieee.double.write (.number false n 0)) = .number false m e ∧ m ≠ 0 := by
  have hlog : n.log2 < 53 := (Nat.log2_lt (by omega)).2 h2
  have hlt : n < 2 ^ (n.log2 + 1) := Nat.lt_log2_self
  obtain ⟨l, hl⟩ : ∃ l, n.log2 = l := ⟨_, rfl⟩
  rw [hl] at hlog hlt
  have hlp : Ieee.double.leastPlace = -1074 := by decide
  have hbn : Ieee.double.binade = 2 ^ 52 := rfl
  have hin : Ieee.double.infRung = 2047 * 2 ^ 52 := by decide
  have hsw : Ieee.double.signWeight = 2 ^ 63 := rfl
  have hlast : max ((0 : Int) + (l : Int) - (Ieee.double.fractionBits : Int)) Ieee.double.leastPlace = (l : Int) - 52 := by
    rw [hlp]
    show max ((0 : Int) + (l : Int) - ((52 : Nat) : Int)) (-1074) = _
    omega
  have hcut : ∀ x, Ieee.Toward.even.cut false x 0 = x := fun x => by
    unfold Ieee.Toward.cut
    simp [Nat.mod_one]
  have hk : ∃ r, 1 ≤ r ∧ r < 2047 * 2 ^ 52 ∧ Ieee.double.write (.number false n 0) = r := by
    refine ⟨(l + 1022) * 2 ^ 52 + n * 2 ^ (52 - l), ?_, ?_, ?_⟩
    · have : 1 ≤ n * 2 ^ (52 - l) := Nat.mul_pos h1 (Nat.two_pow_pos _)
      omega
    · have h3 : n * 2 ^ (52 - l) < 2 ^ (l + 1) * 2 ^ (52 - l) := (Nat.mul_lt_mul_right (Nat.two_pow_pos _)).2 hlt
      rw [← Nat.pow_add, show l + 1 + (52 - l) = 53 by omega] at h3
      have h4 : (l + 1022) * 2 ^ 52 ≤ 1074 * 2 ^ 52 := Nat.mul_le_mul_right _ (by omega)
      omega
    · show Ieee.double.nearest false n 0 = _
      unfold Ieee.Format.nearest
      rw [if_neg (by omega), hl]
      dsimp only
      rw [hlast, hlp, show ((l : Int) - 52 - 0).toNat = 0 by omega, hcut, show ((0 : Int) - ((l : Int) - 52)).toNat = 52 - l by omega, Nat.shiftLeft_eq, show ((l : Int) - 52 - -1074).toNat = l + 1022 by omega, hbn, hin]
      have h3 : n * 2 ^ (52 - l) < 2 ^ (l + 1) * 2 ^ (52 - l) := (Nat.mul_lt_mul_right (Nat.two_pow_pos _)).2 hlt
      rw [← Nat.pow_add, show l + 1 + (52 - l) = 53 by omega] at h3
      have h4 : (l + 1022) * 2 ^ 52 ≤ 1074 * 2 ^ 52 := Nat.mul_le_mul_right _ (by omega)
      have h5 : (l + 1022) * 2 ^ 52 + n * 2 ^ (52 - l) ≤ 2047 * 2 ^ 52 := Nat.le_trans (Nat.add_le_add h4 (Nat.le_of_lt h3)) (by decide)
      rw [Nat.min_eq_left h5]
      unfold Ieee.Format.word
      rw [if_neg (by decide)]
  obtain ⟨r, r1, r2, hr⟩ := hk
  rw [hr]
  unfold Ieee.Format.read
  dsimp only
  have h63 : r < Ieee.double.signWeight := by rw [hsw]; omega
  rw [Nat.mod_eq_of_lt h63, Nat.div_eq_of_lt h63, hbn, hin]
  have hz : ((0 : Nat) % 2 == 1) = false := rfl
  rw [hz]
  by_cases hb : r < 2 ^ 52
  · rw [if_pos hb]
    exact ⟨_, _, rfl, by omega⟩
  · rw [if_neg hb, if_pos r2]
    exact ⟨_, _, rfl, by omega⟩
/-- The quotient of two whole numbers. -/
theorem quo_nat {r d : Nat} (h1 : 1 ≤ d) (h2 : d < 2 ^ 53) : ∃ q, floatBits .quo .f64 (floatOfInt .f64 (r : Int)) (floatOfInt .f64 (d : Int)) = some q ∧ Ieee.double.order q q = some .eq ∧ (r = 0 → q = 0) := by
  obtain ⟨m, e, hd, hm⟩ := read_nat h1 h2
  have hfd : floatOfInt .f64 (d : Int) = Ieee.double.write (.number false d 0) := by
    show Ieee.double.write (.number (decide ((d : Int) < 0)) (d : Int).natAbs 0) = _
    rw [decide_eq_false (by omega)]; rfl
  have hfr : floatOfInt .f64 (r : Int) = Ieee.double.write (.number false r 0) := by
    show Ieee.double.write (.number (decide ((r : Int) < 0)) (r : Int).natAbs 0) = _
    rw [decide_eq_false (by omega)]; rfl
  have hrn := write_not_nan Ieee.double false r 0
  show ∃ q, Ieee.double.div (floatOfInt .f64 (r : Int)) (floatOfInt .f64 (d : Int)) = some q ∧ _
  unfold Ieee.Format.div
  rw [hfd, hfr, hd]
  cases hx : Ieee.double.read (Ieee.double.write (.number false r 0)) with
  | nan s t => rw [hx] at hrn; cases hrn
  | infinity s =>
    refine ⟨_, rfl, order_self _ (read_not_nan _ ?_), fun h0 => ?_⟩
    · show Ieee.double.word _ _ % _ ≤ _
      rw [word_mod _ _ (Nat.le_refl _)]; exact Nat.le_refl _
    · subst h0
      have h0 : Ieee.double.read (Ieee.double.write (.number false 0 0)) = .number false 0 (-1074) := by decide
      rw [h0] at hx
      cases hx
  | number s mr er =>
    refine ⟨Ieee.double.write (.number (s ^^ false) (2 * (mr <<< (Ieee.double.fractionBits + 2 + m.log2 - mr.log2) / m) + (mr <<< (Ieee.double.fractionBits + 2 + m.log2 - mr.log2) % m != 0).toNat) (er - e - (Ieee.double.fractionBits + 2 + m.log2 - mr.log2 : Nat) - 1)), ?_, order_self _ (write_not_nan _ _ _ _), fun h0 => ?_⟩
    · unfold Ieee.Datum.quotient
      dsimp only
      rw [if_neg hm]
      rfl
    · subst h0
      have h0 : Ieee.double.read (Ieee.double.write (.number false 0 0)) = .number false 0 (-1074) := by decide
      rw [h0] at hx
      injection hx with h3 h4 h5
      subst h3
      subst h4
      rw [Nat.zero_shiftLeft, Nat.zero_div, Nat.zero_mod]
      rfl
set_option maxHeartbeats 1600000 in
theorem suse_any (w : World) (L : Lay) (s : St) (h : SpaceAt w L s) {r q : Nat} (hr : s.room = (r : Int)) (hq : floatBits .quo .f64 (floatOfInt .f64 (r : Int)) (floatOfInt .f64 ((64 * s.n : Nat) : Int)) = some q) :
    Calls Tryd.prog 28 #[.pointer (some ⟨L.sb, 0, none⟩)] w fun e w' => e = .returned (.float .f64 q) ∧ ∃ m, w' = w.drewN m := by
  have c0 := h.c0
  have c14 := h.c14
  have cl := h.sblt
  rw [hr] at c14
  have hc : ∀ (n : Int) (W : World), (convert 3 61 (.int .i64 n)).run Tryd.prog W = .ok (.float .f64 (floatOfInt .f64 n)) W := fun n W => run_convert_int_float W _ _ _ _ n (by rw [Tryd.underlying3]; rfl) Tryd.underlying61
  have hqq := fun (W : World) => run_float_arith (P := Tryd.prog) W .quo 61 .f64 _ _ q hq
  generalize 64 * s.n = N at *
  clear h hr hq
  go_enter Tryd.func28, Tryd.ntmps28
  go_wp2_with fail
  go_quiet (fail)
  go_wp2_with fail
  go_ret
  exact ⟨rfl, _, rfl⟩
end Go.Proofs.YtiniadochjeieaaDoor

namespace Go.Proofs.YtiniadochjeieaaDoor
open Go Go.RowKit

set_option maxRecDepth 100000 in
set_option maxHeartbeats 1600000 in
theorem opened_any (n : Int) (w : World) (hn1 : -9223372036854775808 ≤ n) (hn2 : n ≤ 9223372036854775807) (hT : Tab w) (h0 : 0 < w.heap.size) (Q : Ending → World → Prop)
    (hQ : ∀ w' L wb m, 1 ≤ m → m ≤ 4096 → w.heap.size ≤ wb → Wld w' L (St.new m) wb [] (.slice none 0 0) → Still w w' → Q (.returned (.pointer (some ⟨wb, 0, none⟩))) w') :
    Calls Tryd.prog 26 #[.int .i64 n] w Q := by
  have HQ := Lib.hid hQ
  have hwi := wi_range n 12 (by omega)
  obtain ⟨m, hm⟩ : ∃ m : Nat, wi n 12 = (m : Int) := ⟨(wi n 12).toNat, by omega⟩
  have hm12 : (m : Int) < 12 := by omega
  have hm0 : (0 : Int) ≤ (m : Int) := by omega
  have HT := Lib.hid hT
  have H0 := Lib.hid h0
  have HWI := Lib.hid (within_any n 12 w hn1 hn2 (by omega) (by omega))
  rw [hm] at HWI
  clear hQ hT h0 hwi hm
  go_enter Tryd.func26, Tryd.ntmps26
  go_wp2_with fail
  refine HWI.out.mono ?_
  rintro e w1 ⟨rfl, rfl⟩
  have hB0 := heap_alloc_new w (.cells #[.int .i64 (1 + (m : Int)), .pointer none, .slice none 0 0, .int .i64 0] 30)
  have hs1 : Still w (w.alloc (.cells #[.int .i64 (1 + (m : Int)), .pointer none, .slice none 0 0, .int .i64 0] 30)) := (Only.refl _ _ w).alloc _
  have HL1 : Hid (w.heap.size < (w.alloc (.cells #[.int .i64 (1 + (m : Int)), .pointer none, .slice none 0 0, .int .i64 0] 30)).heap.size) := Lib.hid (by simp)
  clear HWI
  go_upto_if 13 with fail
  generalize w.alloc (.cells #[.int .i64 (1 + (m : Int)), .pointer none, .slice none 0 0, .int .i64 0] 30) = w2 at *
  have HS1 := Lib.hid hs1
  have HB0 := Lib.hid hB0
  clear hs1
  go_cut [2] from 13 to 20 (fun s2 wx => s2 = .pointer none ∧ ∃ M : Nat, 1 ≤ M ∧ M ≤ 4096 ∧ Still w wx ∧ wx.heap[w.heap.size]? = some (.cells #[.int .i64 (M : Int), .pointer none, .slice none 0 0, .int .i64 0] 30 (0, 0)) ∧ w.heap.size < wx.heap.size)
  case first =>
    by_cases h100 : n.tmod 100 = 0
    · have hwi2 := wi_range (n.tdiv 100) 4096 (by omega)
      obtain ⟨m2, hm2⟩ : ∃ m2 : Nat, wi (n.tdiv 100) 4096 = (m2 : Int) := ⟨(wi (n.tdiv 100) 4096).toNat, by omega⟩
      have hdv : -9223372036854775808 ≤ n.tdiv 100 ∧ n.tdiv 100 ≤ 9223372036854775807 := by
        rcases Int.lt_or_le n 0 with h | h
        · have e : n.tdiv 100 = -((-n).tdiv 100) := by rw [Int.neg_tdiv, Int.neg_neg]
          rw [e, Int.tdiv_eq_ediv_of_nonneg (by omega)]
          omega
        · rw [Int.tdiv_eq_ediv_of_nonneg h]
          omega
      obtain ⟨hd1, hd2⟩ := hdv
      have hwd : IntKind.i64.wrap (n.tdiv 100) = n.tdiv 100 := by rw [IntKind.wrap_i64]; omega
      have HWI2 := Lib.hid (within_any (n.tdiv 100) 4096 w2 hd1 hd2 (by omega) (by omega))
      rw [hm2] at HWI2 hwi2
      have hm2a := hwi2.1
      have hm2b := hwi2.2
      have hbe : (n.tmod 100 == 0) = true := by rw [h100]; rfl
      have c0 := cell_of (v := .int .i64 (1 + (m : Int))) hB0 0 rfl
      have f0 := frozen_of hB0 0
      have l0 := (Array.getElem?_eq_some_iff.1 hB0).1
      clear hm2 hwi2 h100
      go_wp2_with fail
      refine HWI2.out.mono ?_
      rintro e w3 ⟨rfl, rfl⟩
      go_wp2_with fail
      go_meet
      refine ⟨rfl, m2 + 1, by omega, by omega, HS1.out.setCell (p := ⟨w.heap.size, 0, none⟩) (.inr (Nat.le_refl _)) _, ?_, by simpa [World.setCell] using HL1.out⟩
      have := cells_set HB0.out 0 (.int .i64 (1 + (m2 : Int)))
      rw [show ((m2 + 1 : Nat) : Int) = 1 + (m2 : Int) by omega]
      exact this
    · have hbe : (n.tmod 100 == 0) = false := by simpa using h100
      clear h100
      go_wp2_with fail
      go_meet
      refine ⟨rfl, m + 1, by omega, by omega, HS1.out, ?_, HL1.out⟩
      rw [show ((m + 1 : Nat) : Int) = 1 + (m : Int) by omega]
      exact HB0.out
  case rest =>
    obtain ⟨rfl, M, hM1, hM2, hs1, hB1, hl1⟩ := hcut
    have HT1 := Lib.hid (HT.out.only hs1 H0.out)
    have H01 : Hid (0 < wc.heap.size) := Lib.hid (by omega)
    have hM1I : (1 : Int) ≤ (M : Int) := by omega
    have hM2I : (M : Int) ≤ 4096 := by omega
    have hmul : IntKind.i64.wrap (64 * (M : Int)) = 64 * (M : Int) := by rw [IntKind.wrap_i64]; omega
    have c0 := cell_of (v := .int .i64 (M : Int)) hB1 0 rfl
    have l0 := (Array.getElem?_eq_some_iff.1 hB1).1
    have HS2 := Lib.hid hs1
    have HB1 := Lib.hid hB1
    have HL2 := Lib.hid hl1
    clear hB0 HB0 HS1 HL1 hs1 hB1 hl1
    go_wp2_with fail
    refine snew_yes M wc (by omega) (by omega) HT1.out H01.out _ (fun w3 L hlo hs hst => ?_)
    have hB2 : w3.heap[w.heap.size]? = some (.cells #[.int .i64 (M : Int), .pointer none, .slice none 0 0, .int .i64 0] 30 (0, 0)) := (hst.block _ HL2.out (.inl HL2.out)).trans HB1.out
    have HSP := Lib.hid hs
    have HST := Lib.hid (Still.trans HS2.out hst)
    have HLO := Lib.hid hlo
    have HB2 := Lib.hid hB2
    have c0 := cell_of (v := .int .i64 (M : Int)) hB2 0 rfl
    have c1 := cell_of (v := .pointer none) hB2 1 rfl
    have f1 := frozen_of hB2 1
    have l1 := (Array.getElem?_eq_some_iff.1 hB2).1
    have hls := hs.sblt
    have HWD := Lib.hid (fun k => words_len (w3.drewN k) L (St.new M) (hs.drewN k))
    have hnn : ((64 * (St.new M).n : Nat) : Int) = 64 * (M : Int) := by show ((64 * M : Nat) : Int) = _; omega
    rw [hnn] at HWD
    clear hlo hs hst hB2 hnn
    go_wp2_with fail
    go_quiet (((go_at_call 43; exact quiet_eq (HWD.out _))))
    go_wp2_with fail
    show Q (.returned (.pointer (some ⟨w.heap.size, 0, none⟩))) ((w3.drewN nq).setCell ⟨w.heap.size, 1, none⟩ (.pointer (some ⟨L.sb, 0, none⟩)))
    have hlo : w.heap.size < L.lo := by rw [HLO.out]; exact HL2.out
    refine HQ.out _ L w.heap.size M hM1 hM2 (Nat.le_refl _) ⟨H0.out, hlo, ?_, World.ownsRow_nil _ _ _ _, ?_, new_inv M (by omega) (by omega), agree_new M⟩ ((HST.out.drewN nq).setCell (.inr (Nat.le_refl _)) _)
    · have hb : (w3.drewN nq).heap[w.heap.size]? = some (.cells #[.int .i64 (M : Int), .pointer none, .slice none 0 0, .int .i64 0] 30) := HB2.out
      simp only [World.setCell, Array.getElem?_modify, hb]
      simp
      exact ⟨rfl, rfl⟩
    · exact (HSP.out.drewN nq).kept (only_cell _ _ _ _) (.inr (by omega)) H0.out
end Go.Proofs.YtiniadochjeieaaDoor

namespace Go.Proofs.YtiniadochjeieaaDoor
open Go Go.RowKit

/-- How many objects of a size so many pages hold. -/
def mostOf (n : Nat) (z : Int) : Nat := if Sp.cls z = 8 then n / (Sp.pgs z).toNat else n * Sp.bk (Sp.cls z).toNat
theorem mostOf_le {n : Nat} {z : Int} (hz : 1 ≤ z ∧ z ≤ 1024) : mostOf n z * (Sp.wide z).toNat ≤ 64 * n ∧ mostOf n z ≤ 32 * n := by
  unfold mostOf
  by_cases h8 : Sp.cls z = 8
  · rw [if_pos h8]
    obtain ⟨h1, h2⟩ := Sp.wide_run h8
    obtain ⟨m, hm⟩ : ∃ m : Nat, Sp.pgs z = (m : Int) := ⟨(Sp.pgs z).toNat, by omega⟩
    rw [h1, hm, Int.toNat_natCast, show ((m : Int) * 64).toNat = m * 64 by omega, ← Nat.mul_assoc]
    have h3 := Nat.div_mul_le_self n m
    have h4 := Nat.div_le_self n m
    omega
  · rw [if_neg h8]
    have hci := Sp.cls_in hz.1 hz.2
    obtain ⟨c, hcz⟩ : ∃ c : Nat, Sp.cls z = (c : Int) := ⟨(Sp.cls z).toNat, by omega⟩
    have hc : c < 8 := by omega
    rw [Sp.wide_blk hc hcz, hcz, Int.toNat_natCast, Int.toNat_natCast, Nat.mul_assoc]
    have hle : Sp.bk c * Sp.cw c ≤ 64 ∧ Sp.bk c ≤ 32 := by
      have h8 : c = 0 ∨ c = 1 ∨ c = 2 ∨ c = 3 ∨ c = 4 ∨ c = 5 ∨ c = 6 ∨ c = 7 := by omega
      rcases h8 with rfl | rfl | rfl | rfl | rfl | rfl | rfl | rfl <;> decide
    have h1 : n * (Sp.bk c * Sp.cw c) ≤ n * 64 := Nat.mul_le_mul_left _ hle.1
    have h2 : n * Sp.bk c ≤ n * 32 := Nat.mul_le_mul_left _ hle.2
    omega
/-- An empty space. -/
theorem St.InvX.holdEmpty {s : St} (h : s.Inv) (hf : ∀ p, p < s.n → s.P p = ⟨0, 0, 0⟩) {z : Int} (hz : 1 ≤ z ∧ z ≤ 1024) : s.hold z = mostOf s.n z := by
  unfold St.hold mostOf
  by_cases h8 : Sp.cls z = 8
  · rw [if_pos h8, if_pos h8, scan_all (by have := (Sp.wide_run h8).2; omega) s.n fun j hj => by rw [hf j hj]]
  · rw [if_neg h8, if_neg h8]
    have hci := Sp.cls_in hz.1 hz.2
    obtain ⟨c, hcz⟩ : ∃ c : Nat, Sp.cls z = (c : Int) := ⟨(Sp.cls z).toNat, by omega⟩
    have hc : c < 8 := by omega
    rw [hcz, Int.toNat_natCast, fpg_all s.n fun p hp => by rw [hf p hp], cnt_none fun x => ?_, Nat.mul_comm]
    · omega
    · cases hb : s.B (c + 1) x with
      | false => rfl
      | true =>
        obtain ⟨⟨p, i, hp, _, _, hP⟩, _⟩ := (h.free c hc x).1 hb
        rw [hf p hp] at hP
        injection hP with e _ _
        omega
/-- Behind a keeping of nothing all pages are free. -/
theorem St.Kept.empty {s t : St} {stay : Nat → Bool} (h : s.Kept t stay) (hb : ∀ x, t.B 0 x = false) : ∀ p, p < t.n → t.P p = ⟨0, 0, 0⟩ := fun p hp => by
  rcases h.inv.pages p hp with e | ⟨c, _, e⟩ | ⟨q, r, hr, _, _⟩
  · exact e
  · obtain ⟨x, _, hx⟩ := h.used p c (by rw [← h.n]; exact hp) e
    rw [hb] at hx; cases hx
  · have := (h.inv.runs q r hr).resolve_right id
    rw [hb] at this; cases this
/-- A space in which i objects of size z have been taken, in the round rd. -/
structure Fil (w0 : World) (L : Lay) (n : Nat) (z : Int) (M rd i : Nat) (s : St) (W : World) : Prop where
  sp : SpaceAt W L s
  inv : s.Inv
  nn : s.n = n
  hold : s.hold z + i = M
  ser : s.ser = ((rd * M + i : Nat) : Int)
  cnt : Bm.cnt (s.B 0) 0 (64 * n) = i
  room : s.room = ((i * (Sp.wide z).toNat : Nat) : Int)
  acts : s.acts ≤ 2 * (rd * M + i)
  on : Only L.lo L.hi w0 W
theorem Fil.still {w0 : World} {L : Lay} {n : Nat} {z : Int} {M rd i : Nat} {s : St} {W W' : World} (h : Fil w0 L n z M rd i s W) (hs : Still W W') : Fil w0 L n z M rd i s W' :=
  ⟨h.sp.still hs, h.inv, h.nn, h.hold, h.ser, h.cnt, h.room, h.acts, h.on.andStill hs⟩
theorem Fil.start {W : World} {L : Lay} {s : St} {z : Int} (hz : 1 ≤ z ∧ z ≤ 1024) (h : SpaceAt W L s) {m : Nat} (hs : s = St.new m) (h1 : 1 ≤ m) (h2 : m ≤ 4096) : Fil W L m z (mostOf m z) 0 0 s W := by
  subst hs
  refine ⟨h, new_inv m h1 h2, rfl, (new_inv m h1 h2).holdEmpty (fun p _ => rfl) hz, by rw [Nat.zero_mul]; rfl, cnt_none (fun _ => rfl) _, by rw [Nat.zero_mul]; rfl, by rw [Nat.zero_mul]; exact Nat.le_refl _, Only.refl _ _ _⟩
/-- One object more. -/
theorem Fil.put {w0 : World} {L : Lay} {n : Nat} {z : Int} {M rd i : Nat} {s s1 : St} {W W' : World} {a : Nat} (h : Fil w0 L n z M rd i s W) (hz : 1 ≤ z ∧ z ≤ 1024) (e : s.take z = (s1, (a : Int), 0, 0)) (ht : s.Took s1 z a) {t : Int} (hs : SpaceAt W' L (s1.put a 3 z t)) (hi : (s1.put a 3 z t).Inv) (ho : Only L.lo L.hi W W') :
    i < M ∧ Fil w0 L n z M rd (i + 1) (s1.put a 3 z t) W' := by
  have h1 := (h.inv.holdTake h.sp.lowle hz).2 _ _ e
  have h2 := h.hold
  have hn : s1.n = n := ht.n.trans h.nn
  have hwl := (Sp.wide_le z).1
  refine ⟨by omega, hs, hi, hn, ?_, ?_, ?_, ?_, ?_, h.on.trans ho⟩
  · rw [St.hold_put]; omega
  · show (if Sp.numbered 3 then s1.ser + 1 else s1.ser) = _
    rw [if_pos (by decide), ht.ser, h.ser]
    omega
  · have hb : (s1.put a 3 z t).B 0 = setS (s1.B 0) a true := rfl
    have hlt := ht.fit.lt.2
    rw [hb, ht.b0, cnt_add ht.new (by rw [← hn]; exact hlt), h.cnt]
  · show s1.room + Sp.wide z = _
    rw [ht.room, h.room, Nat.succ_mul]
    omega
  · show s1.acts + 2 ≤ _
    have := h.acts
    rw [ht.acts]
    omega
/-- There is no room. -/
theorem Fil.full {w0 : World} {L : Lay} {n : Nat} {z : Int} {M rd i : Nat} {s : St} {W W' : World} (h : Fil w0 L n z M rd i s W) (hz : 1 ≤ z ∧ z ≤ 1024) {l : Nat} (e : s.take z = ({ s with low := l }, 0, 20, 0)) (hs : SpaceAt W' L { s with low := l }) (hi : ({ s with low := l } : St).Inv) (ho : Only L.lo L.hi W W') :
    i = M ∧ Fil w0 L n z M rd i { s with low := l } W' := by
  have h1 := (h.inv.holdTake h.sp.lowle hz).1 _ e
  have h2 := h.hold
  exact ⟨by omega, hs, hi, h.nn, h.hold, h.ser, h.cnt, h.room, h.acts, h.on.trans ho⟩
/-- All are freed. -/
theorem Fil.none {w0 : World} {L : Lay} {n : Nat} {z : Int} {rd i : Nat} {s t : St} {W W' : World} (h : Fil w0 L n z (mostOf n z) rd i s W) (hz : 1 ≤ z ∧ z ≤ 1024) (hi : i = mostOf n z) (hk : s.Kept t fun _ => false) (hs : SpaceAt W' L t) (ho : Only L.lo L.hi W W') :
    Fil w0 L n z (mostOf n z) (rd + 1) 0 t W' := by
  have hb : ∀ x, t.B 0 x = false := fun x => by rw [hk.b0, Bool.and_false]
  have hn : t.n = n := hk.n.trans h.nn
  have hro : t.room = 0 := by
    rw [hk.inv.room]
    have : ∀ N, sumTo (fun a : Nat => if t.B 0 a = true then Sp.wide (t.sh a).z else 0) N = 0 := fun N => by
      induction N with
      | zero => rfl
      | succ N ih =>
        unfold sumTo
        rw [ih, hb]
        rfl
    exact this _
  refine ⟨hs, hk.inv, hn, ?_, ?_, cnt_none hb _, ?_, ?_, h.on.trans ho⟩
  · rw [hk.inv.holdEmpty (hk.empty hb) hz, hn]; rfl
  · rw [hk.ser, h.ser, hi, Nat.succ_mul]
    rfl
  · rw [hro, Nat.zero_mul]; rfl
  · have h2 := h.acts
    have e1 : (rd + 1) * mostOf n z = rd * mostOf n z + mostOf n z := Nat.succ_mul _ _
    rw [hk.acts, e1]
    omega
theorem run_neq_float (t : TypeId) (k : FloatKind) (x y : Nat) (h : k.format.order x y = some .eq) (w : World) : (binOp .neq t (.float k x) (.float k y)).run Tryd.prog w = .ok (.bool false) w := by
  simp [binOp, Op.floatCmp, h]
end Go.Proofs.YtiniadochjeieaaDoor
