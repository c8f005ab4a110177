/-
  How many objects of a size there is room for: one less behind each.
-/
import Derived.Test.YtiniadochjeieaaDoorQW
import Derived.Test.YtiniadochjeieaaDoorQN21
namespace Go.Proofs.YtiniadochjeieaaDoor
open Go Go.RowKit

theorem cnt_add {S : Nat → Bool} {x N : Nat} (hx : S x = false) (hN : x < N) : Bm.cnt (setS S x true) 0 N = Bm.cnt S 0 N + 1 := by
  have h := cnt_set (S := setS S x true) (x := x) (if_pos rfl) N hN
  have e : setS (setS S x true) x false = S := by
    funext i
    unfold setS
    by_cases h : i = x
    · rw [if_pos h, h, hx]
    · rw [if_neg h, if_neg h]
  rw [e] at h
  exact h
theorem cutB_in (S : Nat → Bool) (f w : Nat) : ∀ k x, cutB S f w k x = true ↔ S x = true ∨ ∃ j, j < k ∧ x = f + j * w
  | 0, x => ⟨.inl, fun h => h.resolve_right fun ⟨j, h, _⟩ => by omega⟩
  | k + 1, x => by
    have ih := cutB_in S f w k x
    show setS (cutB S f w k) (f + k * w) true x = true ↔ _
    unfold setS
    by_cases e : x = f + k * w
    · rw [if_pos e]
      exact ⟨fun _ => .inr ⟨k, by omega, e⟩, fun _ => rfl⟩
    · rw [if_neg e, ih]
      refine ⟨fun h => h.imp id fun ⟨j, h1, h2⟩ => ⟨j, by omega, h2⟩, fun h => h.imp id fun ⟨j, h1, h2⟩ => ⟨j, ?_, h2⟩⟩
      by_cases ej : j = k
      · subst ej; exact absurd h2 e
      · omega
theorem cutB_cnt {S : Nat → Bool} {f w N : Nat} (hS : ∀ x, S x = false) (hw : 0 < w) : ∀ k, f + k * w ≤ N → Bm.cnt (cutB S f w k) 0 N = Bm.cnt S 0 N + k
  | 0, _ => rfl
  | k + 1, h => by
    have hm : (k + 1) * w = k * w + w := Nat.succ_mul _ _
    have ih := cutB_cnt (S := S) (f := f) (w := w) (N := N) hS hw k (by omega)
    show Bm.cnt (setS (cutB S f w k) (f + k * w) true) 0 N = _
    rw [cnt_add (by
      cases e : cutB S f w k (f + k * w) with
      | false => rfl
      | true =>
        rcases (cutB_in S f w k _).1 e with h1 | ⟨j, h1, h2⟩
        · rw [hS] at h1; cases h1
        · have h3 : j * w = k * w := by omega
          have := Nat.eq_of_mul_eq_mul_right hw h3
          omega) (by omega), ih]
    omega
/-- Free pages below k. -/
def fpg (P : Nat → Pg) : Nat → Nat
  | 0 => 0
  | k + 1 => fpg P k + if (P k).k = 0 then 1 else 0
theorem fpg_set {P : Nat → Pg} {q : Nat} {g : Pg} (hq : (P q).k = 0) (hg : g.k ≠ 0) : ∀ N, q < N → fpg P N = fpg (setPg P q g) N + 1
  | 0, h => by omega
  | N + 1, h => by
    show fpg P N + _ = fpg (setPg P q g) N + _ + 1
    by_cases e : q = N
    · subst e
      have h1 : ∀ N, N ≤ q → fpg P N = fpg (setPg P q g) N := fun N => by
        induction N with
        | zero => intro _; rfl
        | succ N ih =>
          intro hN
          show fpg P N + _ = fpg (setPg P q g) N + _
          rw [ih (by omega), show setPg P q g N = P N from if_neg (by omega)]
      rw [h1 q (Nat.le_refl _), show setPg P q g q = g from if_pos rfl, if_pos hq, if_neg hg]
    · rw [fpg_set hq hg N (by omega), show setPg P q g N = P N from if_neg (fun h => e h.symm)]
      omega
theorem fpg_none {P : Nat → Pg} : ∀ N, (∀ p, p < N → (P p).k ≠ 0) → fpg P N = 0
  | 0, _ => rfl
  | N + 1, h => by
    show fpg P N + _ = 0
    rw [fpg_none N fun p hp => h p (by omega), if_neg (h N (by omega))]
theorem fpg_all {P : Nat → Pg} : ∀ N, (∀ p, p < N → (P p).k = 0) → fpg P N = N
  | 0, _ => rfl
  | N + 1, h => by
    show fpg P N + _ = N + 1
    rw [fpg_all N fun p hp => h p (by omega), if_pos (h N (by omega))]
/-- Pages looked through: how many rows of m free ones there were, and how long the one under way is. -/
def scan (P : Nat → Pg) (m : Nat) : Nat → Nat × Nat
  | 0 => (0, 0)
  | k + 1 => if (P k).k = 0 then (if (scan P m k).2 + 1 = m then ((scan P m k).1 + 1, 0) else ((scan P m k).1, (scan P m k).2 + 1)) else ((scan P m k).1, 0)
theorem scan_row (P : Nat → Pg) (m : Nat) (hm : 1 ≤ m) : ∀ k, (scan P m k).2 < m ∧ (scan P m k).2 ≤ k ∧ ∀ j, k - (scan P m k).2 ≤ j → j < k → (P j).k = 0
  | 0 => ⟨hm, Nat.le_refl _, fun j _ h => by omega⟩
  | k + 1 => by
    obtain ⟨h1, h2, h3⟩ := scan_row P m hm k
    unfold scan
    by_cases hk : (P k).k = 0
    · rw [if_pos hk]
      by_cases hr : (scan P m k).2 + 1 = m
      · rw [if_pos hr]
        exact ⟨hm, Nat.zero_le _, fun j h4 h5 => by dsimp only at h4; omega⟩
      · rw [if_neg hr]
        refine ⟨by dsimp only; omega, by dsimp only; omega, fun j h4 h5 => ?_⟩
        dsimp only at h4
        by_cases e : j = k
        · rw [e]; exact hk
        · exact h3 j (by omega) (by omega)
    · rw [if_neg hk]
      exact ⟨hm, Nat.zero_le _, fun j h4 h5 => by dsimp only at h4; omega⟩
/-- As long as no row ends, none is counted. -/
theorem scan_none (P : Nat → Pg) (m : Nat) (hm : 1 ≤ m) : ∀ k, (∀ p, p + m ≤ k → ∃ j, p ≤ j ∧ j < p + m ∧ (P j).k ≠ 0) →
    (scan P m k).1 = 0 ∧ ((scan P m k).2 = k ∨ (P (k - (scan P m k).2 - 1)).k ≠ 0)
  | 0, _ => ⟨rfl, .inl rfl⟩
  | k + 1, h => by
    obtain ⟨h1, h2⟩ := scan_none P m hm k fun p hp => h p (by omega)
    obtain ⟨h3, h4, h5⟩ := scan_row P m hm k
    unfold scan
    by_cases hk : (P k).k = 0
    · rw [if_pos hk]
      by_cases hr : (scan P m k).2 + 1 = m
      · obtain ⟨j, g1, g2, g3⟩ := h (k - (scan P m k).2) (by omega)
        by_cases e : j = k
        · rw [e] at g3; exact absurd hk g3
        · exact absurd (h5 j g1 (by omega)) g3
      · rw [if_neg hr]
        refine ⟨h1, ?_⟩
        dsimp only
        rcases h2 with h2 | h2
        · left; omega
        · right
          rw [show k + 1 - ((scan P m k).2 + 1) - 1 = k - (scan P m k).2 - 1 by omega]
          exact h2
    · rw [if_neg hk]
      exact ⟨h1, .inr hk⟩
theorem scan_congr {P Q : Nat → Pg} {m : Nat} : ∀ k, (∀ j, j < k → (P j).k = (Q j).k) → scan P m k = scan Q m k
  | 0, _ => rfl
  | k + 1, h => by
    unfold scan
    rw [scan_congr k fun j hj => h j (by omega), h k (by omega)]
theorem scan_zero {P : Nat → Pg} {m : Nat} (k : Nat) : ∀ i, 1 ≤ i → (∀ j, k ≤ j → j < k + i → (P j).k ≠ 0) → scan P m (k + i) = ((scan P m k).1, 0)
  | 0, h, _ => by omega
  | i + 1, _, h => by
    show (if (P (k + i)).k = 0 then _ else _) = _
    rw [if_neg (h (k + i) (by omega) (by omega))]
    show ((scan P m (k + i)).1, 0) = _
    by_cases hi : 1 ≤ i
    · rw [scan_zero k i hi fun j h1 h2 => h j h1 (by omega)]
    · obtain rfl : i = 0 := by omega
      rfl
theorem scan_from {P Q : Nat → Pg} {m k d : Nat} (h1 : (scan P m k).1 = (scan Q m k).1 + d) (h2 : (scan P m k).2 = (scan Q m k).2) : ∀ i, (∀ j, k ≤ j → j < k + i → (P j).k = (Q j).k) → (scan P m (k + i)).1 = (scan Q m (k + i)).1 + d ∧ (scan P m (k + i)).2 = (scan Q m (k + i)).2
  | 0, _ => ⟨h1, h2⟩
  | i + 1, h => by
    obtain ⟨h3, h4⟩ := scan_from h1 h2 i fun j g1 g2 => h j g1 (by omega)
    show (scan P m (k + i + 1)).1 = (scan Q m (k + i + 1)).1 + d ∧ (scan P m (k + i + 1)).2 = (scan Q m (k + i + 1)).2
    unfold scan
    rw [h (k + i) (by omega) (by omega), h4]
    by_cases e1 : (Q (k + i)).k = 0
    · rw [if_pos e1, if_pos e1]
      by_cases e2 : (scan Q m (k + i)).2 + 1 = m
      · rw [if_pos e2, if_pos e2]
        exact ⟨by dsimp only; omega, rfl⟩
      · rw [if_neg e2, if_neg e2]
        exact ⟨h3, rfl⟩
    · rw [if_neg e1, if_neg e1]
      exact ⟨h3, rfl⟩
/-- The least row taken: one less. -/
theorem scan_take {P : Nat → Pg} {n m h : Nat} (hm : 1 ≤ m) (hn : h + m ≤ n) (hf : ∀ j, h ≤ j → j < h + m → (P j).k = 0) (hl : ∀ p, p < h → ∃ j, p ≤ j ∧ j < p + m ∧ (P j).k ≠ 0) {Q : Nat → Pg} (hQ : ∀ j, h ≤ j → j < h + m → (Q j).k ≠ 0) (hE : ∀ j, ¬(h ≤ j ∧ j < h + m) → (Q j).k = (P j).k) :
    (scan P m n).1 = (scan Q m n).1 + 1 := by
  obtain ⟨g1, g2⟩ := scan_none P m hm (h + m - 1) fun p hp => hl p (by omega)
  obtain ⟨g3, g4, g5⟩ := scan_row P m hm (h + m - 1)
  have hrow : (scan P m (h + m - 1)).2 + 1 = m := by
    by_cases e : (scan P m (h + m - 1)).2 + 1 = m
    · exact e
    · exfalso
      rcases g2 with g2 | g2
      · omega
      · exact g2 (hf _ (by omega) (by omega))
  have hP : scan P m (h + m) = (1, 0) := by
    rw [show h + m = (h + m - 1) + 1 by omega]
    show (if (P (h + m - 1)).k = 0 then _ else _) = _
    rw [if_pos (hf _ (by omega) (by omega)), if_pos hrow, g1]
  have hQ2 : scan Q m (h + m) = (0, 0) := by
    rw [scan_zero h m hm hQ, scan_congr (Q := P) h fun j hj => hE j (by omega)]
    rw [(scan_none P m hm h fun p hp => hl p (by omega)).1]
  have := (scan_from (P := P) (Q := Q) (m := m) (k := h + m) (d := 1) (by rw [hP, hQ2]) (by rw [hP, hQ2]) (n - (h + m)) fun j h1 h2 => (hE j (by omega)).symm).1
  rw [show h + m + (n - (h + m)) = n by omega] at this
  exact this
theorem scan_all {P : Nat → Pg} {m : Nat} (hm : 1 ≤ m) : ∀ k, (∀ j, j < k → (P j).k = 0) → scan P m k = (k / m, k % m)
  | 0, _ => by
    show (0, 0) = (0 / m, 0 % m)
    rw [Nat.zero_div, Nat.zero_mod]
  | k + 1, h => by
    unfold scan
    rw [if_pos (h k (by omega)), scan_all hm k fun j hj => h j (by omega)]
    dsimp only
    have hd := Nat.div_add_mod k m
    have hlt := Nat.mod_lt k hm
    by_cases e : k % m + 1 = m
    · rw [if_pos e]
      have e2 : k + 1 = m * (k / m + 1) := by rw [Nat.mul_add]; omega
      rw [e2, Nat.mul_div_cancel_left _ hm, Nat.mul_mod_right]
    · rw [if_neg e]
      have hl2 : k % m + 1 < m := by omega
      have e2 : k + 1 = (k % m + 1) + m * (k / m) := by omega
      have e3 : (k + 1) / m = k / m := by
        rw [e2, Nat.add_mul_div_left _ _ hm, Nat.div_eq_of_lt hl2, Nat.zero_add]
      have e4 : (k + 1) % m = k % m + 1 := by
        rw [e2, Nat.add_mul_mod_self_left, Nat.mod_eq_of_lt hl2]
      rw [e3, e4]
/-- How many objects of a size there is room for. -/
def St.hold (s : St) (z : Int) : Nat :=
  if Sp.cls z = 8 then (scan s.P (Sp.pgs z).toNat s.n).1
  else Sp.bk (Sp.cls z).toNat * fpg s.P s.n + Bm.cnt (s.B ((Sp.cls z).toNat + 1)) 0 (64 * s.n)
theorem St.hold_put (s : St) (a : Nat) (k z t z' : Int) : (s.put a k z t).hold z' = s.hold z' := rfl
theorem cnt_none {S : Nat → Bool} (h : ∀ x, S x = false) (N : Nat) : Bm.cnt S 0 N = 0 := Bm.cnt_zero fun i _ _ => h i
theorem runPg_k (P : Nat → Pg) (h m j : Nat) : (h ≤ j ∧ j < h + m → (runPg P h m j).k ≠ 0) ∧ (¬(h ≤ j ∧ j < h + m) → j ≠ h → runPg P h m j = P j) := by
  unfold runPg
  constructor
  · intro hj
    by_cases e : j = h
    · rw [if_pos e]; exact (by decide : (2 : Int) ≠ 0)
    · rw [if_neg e, if_pos hj]; exact (by decide : (3 : Int) ≠ 0)
  · intro hj hne
    rw [if_neg hne, if_neg hj]
/-- One object more: room for one less; none: room for none. -/
theorem St.InvX.holdTake {s : St} (h : s.Inv) (hlow : s.low ≤ s.n) {z : Int} (hz : 1 ≤ z ∧ z ≤ 1024) :
    (∀ t, s.take z = (t, 0, 20, 0) → s.hold z = 0) ∧ (∀ t (a : Nat), s.take z = (t, (a : Int), 0, 0) → s.hold z = t.hold z + 1) := by
  have hffn : s.ff ≤ s.n := firstFree_le _ _ _ hlow
  have hbel : ∀ p, p < s.ff → p < s.n → (s.P p).k ≠ 0 := fun p h1 h2 e => h.ffBelow p h1 h2 (Pg.free_eq ((h.freeP h2).2 e))
  by_cases h8 : Sp.cls z = 8
  · have hm := (Sp.wide_run h8).2
    obtain ⟨m, hmm⟩ : ∃ m, (Sp.pgs z).toNat = m := ⟨_, rfl⟩
    have hsk := seekRun_least s.P s.n m _ s.ff 0 (Nat.le_refl _) (Nat.zero_le _) (by omega)
    have hfree := seekRun_free s.P s.n m _ s.ff 0 (Nat.le_refl _) (by omega) (fun j hj1 hj2 => by omega) (by omega)
    have hin := seekRun_in s.P s.n m (by omega) _ s.ff 0 (Nat.le_refl _) (by omega) (by omega)
    have ht : s.take z = match s.runAt m with
      | none => ({ s with low := s.ff }, 0, 20, 0)
      | some h => ({ s with P := runPg s.P h m, low := s.ff }, ((h * 64 : Nat) : Int), 0, 0) := by
      unfold St.take
      rw [if_pos h8, hmm]
      rfl
    have hh : ∀ t : St, t.hold z = (scan t.P m t.n).1 := fun t => by unfold St.hold; rw [if_pos h8, hmm]
    rw [ht]
    have hbad : ∀ j, j < s.n → (s.P j).free = false → (s.P j).k ≠ 0 := fun j hj e e2 => by rw [(h.freeP hj).2 e2] at e; cases e
    cases hr : s.runAt m with
    | none =>
      refine ⟨fun t _ => ?_, fun t a e => ?_⟩
      · rw [hh]
        refine (scan_none s.P m (by omega) s.n fun p hp => ?_).1
        by_cases hpf : s.ff ≤ p
        · obtain ⟨j, h3, h4, h5⟩ := hsk.2 hr p (by omega) hp
          exact ⟨j, h3, h4, hbad j (by omega) h5⟩
        · exact ⟨p, Nat.le_refl _, by omega, hbel p (by omega) (by omega)⟩
      · injection e with _ e; injection e with _ e; injection e with e _; cases e
    | some q =>
      refine ⟨fun t e => ?_, fun t a e => ?_⟩
      · injection e with _ e; injection e with _ e; injection e with e _; cases e
      · injection e with e _
        subst e
        rw [hh, hh]
        have hqn := hin q hr
        refine scan_take (by omega) hqn (fun j h3 h4 => (h.freeP (by omega)).1 (hfree q hr j h3 h4)) (fun p hp => ?_) (fun j h3 h4 => (runPg_k s.P q m j).1 ⟨h3, h4⟩) (fun j hj => by
          show (runPg s.P q m j).k = _
          rw [(runPg_k s.P q m j).2 hj (by omega)])
        by_cases hpf : s.ff ≤ p
        · obtain ⟨j, h3, h4, h5⟩ := hsk.1 q hr p (by omega) hp
          exact ⟨j, h3, h4, hbad j (by omega) h5⟩
        · exact ⟨p, Nat.le_refl _, by omega, hbel p (by omega) (by omega)⟩
  · have hci := Sp.cls_in hz.1 hz.2
    obtain ⟨c, hcz⟩ : ∃ c : Nat, Sp.cls z = (c : Int) := ⟨(Sp.cls z).toNat, by omega⟩
    have hc : c < 8 := by omega
    have hh : ∀ t : St, t.hold z = Sp.bk c * fpg t.P t.n + Bm.cnt (t.B (c + 1)) 0 (64 * t.n) := fun t => by unfold St.hold; rw [if_neg h8, hcz, Int.toNat_natCast]
    rcases h.takeSmall hc hcz hlow with ⟨a, ha, ht⟩ | ⟨he, hf, ht⟩ | ⟨he, hf, hP, ht⟩
    · rw [ht]
      refine ⟨fun t e => ?_, fun t a' e => ?_⟩
      · injection e with _ e; injection e with _ e; injection e with e _; cases e
      · injection e with e _
        subst e
        rw [hh, hh]
        show _ = Sp.bk c * fpg s.P s.n + Bm.cnt ((s.setB (c + 1) (setS (s.B (c + 1)) a false)).B (c + 1)) 0 (64 * s.n) + 1
        rw [St.setB_at]
        have hpk := (h.pick hc ha).2.2.1
        have hb : s.B (c + 1) a = true := by
          unfold St.hd0 at ha
          rcases Bm.next_spec (s.B (c + 1)) (64 * s.n) 0 with ⟨e, _⟩ | ⟨i, e, _, _, h4, _⟩
          · omega
          · obtain rfl : i = a := by omega
            exact h4
        have haN : a < 64 * s.n := by
          obtain ⟨p, i, h1, h2, h3, _⟩ := hpk
          have := blk_page hc h2 h3
          omega
        have := cnt_set hb (64 * s.n) haN
        omega
    · rw [ht]
      refine ⟨fun t _ => ?_, fun t a e => ?_⟩
      · rw [hh, fpg_none s.n fun p hp => hbel p (by omega) hp, cnt_none he]
        rfl
      · injection e with _ e; injection e with _ e; injection e with e _; cases e
    · rw [ht]
      refine ⟨fun t e => ?_, fun t a e => ?_⟩
      · injection e with _ e; injection e with _ e; injection e with e _; cases e
      · injection e with e _
        subst e
        rw [hh, hh]
        have hBc : (s.open c).B (c + 1) = cutB (s.B (c + 1)) (s.ff * 64) (Sp.cw c) (Sp.bk c) := St.setB_at _ _ _
        show _ = Sp.bk c * fpg (setPg s.P s.ff ⟨1, c, 0⟩) s.n + Bm.cnt (((s.open c).setB (c + 1) (setS ((s.open c).B (c + 1)) (s.ff * 64) false)).B (c + 1)) 0 (64 * s.n) + 1
        rw [St.setB_at, hBc]
        have hcw := Sp.cw_le c hc
        have hw0 : 0 < Sp.cw c := by
          have h8 : c = 0 ∨ c = 1 ∨ c = 2 ∨ c = 3 ∨ c = 4 ∨ c = 5 ∨ c = 6 ∨ c = 7 := by omega
          rcases h8 with rfl | rfl | rfl | rfl | rfl | rfl | rfl | rfl <;> decide
        have hle : 1 ≤ Sp.bk c ∧ Sp.bk c * Sp.cw c ≤ 64 := by
          have h8 : c = 0 ∨ c = 1 ∨ c = 2 ∨ c = 3 ∨ c = 4 ∨ c = 5 ∨ c = 6 ∨ c = 7 := by omega
          rcases h8 with rfl | rfl | rfl | rfl | rfl | rfl | rfl | rfl <;> decide
        have h1 := cutB_cnt (f := s.ff * 64) (w := Sp.cw c) (N := 64 * s.n) he hw0 (Sp.bk c) (by omega)
        have h2 := cnt_set (S := cutB (s.B (c + 1)) (s.ff * 64) (Sp.cw c) (Sp.bk c)) (x := s.ff * 64) ((cutB_in _ _ _ _ _).2 (.inr ⟨0, by omega, by omega⟩)) (64 * s.n) (by omega)
        have h3 := fpg_set (P := s.P) (q := s.ff) (g := ⟨1, c, 0⟩) (by rw [hP]) (by show (1 : Int) ≠ 0; decide) s.n hf
        have h4 := cnt_none he (64 * s.n)
        rw [h3, Nat.mul_add]
        omega
end Go.Proofs.YtiniadochjeieaaDoor

namespace Go.Proofs.YtiniadochjeieaaDoor
open Go Go.RowKit

/-- What Fits has come to stands for a space in which the objects were taken. -/
structure Sim.Ok (x : Sim) (s0 s : St) : Prop where
  P : x.P = s.P
  low : x.low = s.low
  n : s.n = s0.n
  cnt : ∀ c, c < 8 → x.cnt s0 c = (Bm.cnt (s.B (c + 1)) 0 (64 * s.n) : Nat)
theorem Sim.Ok.start (s : St) : s.sim0.Ok s s := ⟨rfl, rfl, rfl, fun _ _ => rfl⟩
theorem Sim.cnt_upd (x : Sim) (s0 : St) (P : Nat → Pg) (low c : Nat) {u : Int} (hu : 0 ≤ u) (c' : Nat) : Sim.cnt ⟨P, low, updF x.left c u⟩ s0 c' = if c' = c then u else x.cnt s0 c' := by
  show (if updF x.left c u c' < 0 then _ else updF x.left c u c') = _
  by_cases e : c' = c
  · have e2 : updF x.left c u c' = u := if_pos e
    rw [e2, if_pos e, if_neg (by omega)]
  · have e2 : updF x.left c u c' = x.left c' := if_neg e
    rw [e2, if_neg e]
    rfl
theorem Sim.Ok.step {x : Sim} {s0 s : St} (h : x.Ok s0 s) (hi : s.Inv) (hlow : s.low ≤ s.n) {z : Int} (hz : 1 ≤ z ∧ z ≤ 1024) :
    (∀ t, s.take z = (t, 0, 20, 0) → x.step s0 z = none) ∧ (∀ t (a : Nat), s.take z = (t, (a : Int), 0, 0) → ∃ x', x.step s0 z = some x' ∧ x'.Ok s0 t) := by
  have hffn : s.ff ≤ s.n := firstFree_le _ _ _ hlow
  have hff : x.ff s0.n = s.ff := by unfold Sim.ff St.ff; rw [h.P, h.low, h.n]
  by_cases h8 : Sp.cls z = 8
  · obtain ⟨m, hmm⟩ : ∃ m, (Sp.pgs z).toNat = m := ⟨_, rfl⟩
    have ht : s.take z = match s.runAt m with
      | none => ({ s with low := s.ff }, 0, 20, 0)
      | some h => ({ s with P := runPg s.P h m, low := s.ff }, ((h * 64 : Nat) : Int), 0, 0) := by
      unfold St.take
      rw [if_pos h8, hmm]
      rfl
    have hst : x.step s0 z = match s.runAt m with
      | none => none
      | some h => some ⟨runPg s.P h m, s.ff, x.left⟩ := by
      unfold Sim.step
      rw [if_neg (by omega), if_pos h8, hmm, hff, h.P, ← h.n]
      rfl
    rw [ht, hst]
    cases hr : s.runAt m with
    | none =>
      refine ⟨fun t _ => rfl, fun t a e => ?_⟩
      injection e with _ e; injection e with _ e; injection e with e _; cases e
    | some q =>
      refine ⟨fun t e => ?_, fun t a e => ⟨_, rfl, ?_⟩⟩
      · injection e with _ e; injection e with _ e; injection e with e _; cases e
      · injection e with e _
        subst e
        exact ⟨rfl, rfl, h.n, h.cnt⟩
  · have hci := Sp.cls_in hz.1 hz.2
    obtain ⟨c, hcz⟩ : ∃ c : Nat, Sp.cls z = (c : Int) := ⟨(Sp.cls z).toNat, by omega⟩
    have hc : c < 8 := by omega
    have hcn := h.cnt c hc
    have hst : x.step s0 z = if x.cnt s0 c = 0 then (if s.ff = s.n then none else some ⟨setPg s.P s.ff ⟨1, (c : Int), 0⟩, s.ff, updF x.left c ((Sp.bk c : Int) - 1)⟩) else some ⟨s.P, s.low, updF x.left c (x.cnt s0 c - 1)⟩ := by
      unfold Sim.step
      rw [if_neg (by omega), if_neg h8, hcz, Int.toNat_natCast, hff, h.P, h.low, ← h.n]
    rw [hst, hcn]
    rcases hi.takeSmall hc hcz hlow with ⟨a, ha, ht⟩ | ⟨he, hf, ht⟩ | ⟨he, hf, hP, ht⟩
    · rw [ht]
      refine ⟨fun t e => ?_, fun t a' e => ?_⟩
      · injection e with _ e; injection e with _ e; injection e with e _; cases e
      · injection e with e _
        subst e
        have hpk := (hi.pick hc ha).2.2.1
        have hb : s.B (c + 1) a = true := by
          unfold St.hd0 at ha
          rcases Bm.next_spec (s.B (c + 1)) (64 * s.n) 0 with ⟨e, _⟩ | ⟨i, e, _, _, h4, _⟩
          · omega
          · obtain rfl : i = a := by omega
            exact h4
        have haN : a < 64 * s.n := by
          obtain ⟨p, i, h1, h2, h3, _⟩ := hpk
          have := blk_page hc h2 h3
          omega
        have hcs := cnt_set hb (64 * s.n) haN
        rw [if_neg (by omega)]
        refine ⟨_, rfl, rfl, rfl, h.n, fun c' hc' => ?_⟩
        rw [x.cnt_upd s0 _ _ c (by omega)]
        by_cases ec : c' = c
        · subst ec
          rw [if_pos rfl]
          show _ = ((Bm.cnt ((s.setB (c' + 1) (setS (s.B (c' + 1)) a false)).B (c' + 1)) 0 (64 * s.n) : Nat) : Int)
          rw [St.setB_at]
          omega
        · rw [if_neg ec, h.cnt c' hc']
          show _ = ((Bm.cnt ((s.setB (c + 1) (setS (s.B (c + 1)) a false)).B (c' + 1)) 0 (64 * s.n) : Nat) : Int)
          rw [setB_ne _ _ _ _ (by omega)]
    · rw [ht]
      refine ⟨fun t _ => ?_, fun t a e => ?_⟩
      · rw [cnt_none he, if_pos (by rfl), if_pos hf]
      · injection e with _ e; injection e with _ e; injection e with e _; cases e
    · rw [ht]
      refine ⟨fun t e => ?_, fun t a e => ?_⟩
      · injection e with _ e; injection e with _ e; injection e with e _; cases e
      · injection e with e _
        subst e
        have hBc : (s.open c).B (c + 1) = cutB (s.B (c + 1)) (s.ff * 64) (Sp.cw c) (Sp.bk c) := St.setB_at _ _ _
        have hBo : ∀ j, j ≠ c + 1 → (s.open c).B j = s.B j := fun j hj => setB_ne _ _ _ _ hj
        have hw0 : 0 < Sp.cw c ∧ 1 ≤ Sp.bk c ∧ Sp.bk c * Sp.cw c ≤ 64 := by
          have h8 : c = 0 ∨ c = 1 ∨ c = 2 ∨ c = 3 ∨ c = 4 ∨ c = 5 ∨ c = 6 ∨ c = 7 := by omega
          rcases h8 with rfl | rfl | rfl | rfl | rfl | rfl | rfl | rfl <;> decide
        have h1 := cutB_cnt (f := s.ff * 64) (w := Sp.cw c) (N := 64 * s.n) he hw0.1 (Sp.bk c) (by omega)
        have h2 := cnt_set (S := cutB (s.B (c + 1)) (s.ff * 64) (Sp.cw c) (Sp.bk c)) (x := s.ff * 64) ((cutB_in _ _ _ _ _).2 (.inr ⟨0, by omega, by omega⟩)) (64 * s.n) (by omega)
        have h4 := cnt_none he (64 * s.n)
        rw [h4, if_pos (by rfl), if_neg (by omega)]
        refine ⟨_, rfl, rfl, rfl, h.n, fun c' hc' => ?_⟩
        rw [x.cnt_upd s0 _ _ c (by omega)]
        by_cases ec : c' = c
        · subst ec
          rw [if_pos rfl]
          show _ = ((Bm.cnt (((s.open c').setB (c' + 1) (setS ((s.open c').B (c' + 1)) (s.ff * 64) false)).B (c' + 1)) 0 (64 * s.n) : Nat) : Int)
          rw [St.setB_at, hBc]
          omega
        · rw [if_neg ec, h.cnt c' hc']
          show _ = ((Bm.cnt (((s.open c).setB (c + 1) (setS ((s.open c).B (c + 1)) (s.ff * 64) false)).B (c' + 1)) 0 (64 * s.n) : Nat) : Int)
          rw [setB_ne _ _ _ _ (by omega), hBo _ (by omega)]
theorem Sim.Ok.put {x : Sim} {s0 s : St} (h : x.Ok s0 s) (a : Nat) (k z t : Int) : x.Ok s0 (s.put a k z t) := ⟨h.P, h.low, h.n, h.cnt⟩
theorem Sim.step_bad (x : Sim) (s0 : St) {z : Int} (hz : ¬(1 ≤ z ∧ z ≤ 1024)) : x.step s0 z = none := by
  unfold Sim.step Sp.cls
  rw [if_pos (by rw [if_pos (by omega)]; omega)]
/-- Of one size alone. -/
theorem St.InvX.fitsOne {s : St} (h : s.Inv) (hlow : s.low ≤ s.n) {z : Int} (hz : 1 ≤ z ∧ z ≤ 1024) (h0 : s.hold z = 0) : (s.simTo (fun _ => z) 1).isSome = false := by
  have hs : s.simTo (fun _ => z) 1 = s.sim0.step s z := rfl
  rw [hs]
  rcases h.take hz hlow with ⟨l, e, _⟩ | ⟨s1, a, e, _⟩
  · rw [((Sim.Ok.start s).step h hlow hz).1 _ e]; rfl
  · have := (h.holdTake hlow hz).2 _ _ e
    omega
end Go.Proofs.YtiniadochjeieaaDoor
