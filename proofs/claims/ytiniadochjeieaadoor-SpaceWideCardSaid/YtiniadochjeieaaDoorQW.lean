/-
  The plain laws that SpaceKept leans on.
-/
import Derived.Test.YtiniadochjeieaaDoorQV
namespace Go.Proofs.YtiniadochjeieaaDoor
open Go Go.RowKit

theorem frs_up (s : St) (c : Nat) : ∀ a, (frs s c a).Pairwise (· < ·)
  | 0 => .nil
  | a + 1 => by
    show (if s.B (c + 1) a then _ else _ : List Nat).Pairwise _
    split
    · refine List.pairwise_append.2 ⟨frs_up s c a, by simp, fun x hx y hy => ?_⟩
      rw [List.mem_singleton.1 hy]
      exact ((mem_frs s c x a).1 hx).1
    · exact frs_up s c a
theorem up_lt {l : List Nat} (h : l.Pairwise (· < ·)) {i j : Nat} (hj : j < l.length) (hij : i < j) : l.getD i 0 < l.getD j 0 := by
  have hi : i < l.length := by omega
  have := List.pairwise_iff_getElem.1 h i j hi hj hij
  simpa [hi, hj] using this
theorem getD_at {l : List Nat} {x : Nat} (h : x ∈ l) : ∃ j, j < l.length ∧ l.getD j 0 = x := by
  obtain ⟨j, hj, e⟩ := List.getElem_of_mem h
  exact ⟨j, hj, by simp [hj, e]⟩
/-- A free block's word is the link to the next one of the list. -/
theorem frs_link (s : St) (c i : Nat) (hn : s.n ≤ 4096) (hi : i < (frs s c (64 * s.n)).length) :
    s.link c (((frs s c (64 * s.n)).getD i 0 : Nat) : Int) = if i + 1 < (frs s c (64 * s.n)).length then (((frs s c (64 * s.n)).getD (i + 1) 0 : Nat) : Int) * 8 + 4 else -4 := by
  have hup := frs_up s c (64 * s.n)
  have hmem := fun x => mem_frs s c x (64 * s.n)
  generalize frs s c (64 * s.n) = l at *
  have hget : ∀ j, j < l.length → l.getD j 0 < 64 * s.n ∧ s.B (c + 1) (l.getD j 0) = true := fun j hj => (hmem _).1 (by simp [hj])
  unfold St.link
  by_cases h : i + 1 < l.length
  · rw [if_pos h]
    obtain ⟨g1, g2⟩ := hget (i + 1) h
    rw [Bm.next_eq (i := l.getD (i + 1) 0) (by have := up_lt hup h (Nat.lt_succ_self i); omega) g1 g2 fun j h1 h2 => ?_]
    · unfold Sp.lnk
      rw [if_neg (by omega)]
    · cases hb : s.B (c + 1) j with
      | false => rfl
      | true =>
        obtain ⟨k, hk, e⟩ := getD_at ((hmem j).2 ⟨by omega, hb⟩)
        rcases Nat.lt_trichotomy k i with g | g | g
        · have := up_lt hup hi g; omega
        · subst g; omega
        · rcases Nat.lt_or_ge (i + 1) k with g' | g'
          · have := up_lt hup hk g'; omega
          · obtain rfl : k = i + 1 := by omega
            omega
  · rw [if_neg h]
    rcases Bm.next_spec (s.B (c + 1)) (64 * s.n) (((l.getD i 0 : Nat) : Int) + 1) with ⟨e, _⟩ | ⟨x, _, h2, h3, h4, _⟩
    · rw [e]; rfl
    · obtain ⟨k, hk, e⟩ := getD_at ((hmem x).2 ⟨h3, h4⟩)
      rcases Nat.lt_trichotomy k i with g | g | g
      · have := up_lt hup hi g; omega
      · subst g; omega
      · omega
theorem setW_twice (W : Nat → Int) (a : Nat) (x y : Int) : setW (setW W a x) a y = setW W a y := by
  funext z
  unfold setW
  split <;> rfl
/-- Links written into words, of the first i of a list. -/
def lkIn (zs : List Int) (W : Nat → Int) : Nat → Nat → Int
  | 0 => W
  | i + 1 => setW (lkIn zs W i) (zs.getD i 0).toNat (if i + 1 < zs.length then zs.getD (i + 1) 0 * 8 + 4 else -4)
/-- And of the first c classes' lists. -/
def lkTo (s : St) (N : Nat) : Nat → Nat → Int
  | 0 => fun _ => 0
  | c + 1 => lkIn (frI s N c) (lkTo s N c) (frI s N c).length
theorem frI_getD (s : St) (N c i : Nat) : (frI s N c).getD i 0 = ((frs s c N).getD i 0 : Nat) := by
  unfold frI
  rw [List.getD_eq_getElem?_getD, List.getD_eq_getElem?_getD, List.getElem?_map]
  cases (frs s c N)[i]? <;> rfl
theorem frI_length (s : St) (N c : Nat) : (frI s N c).length = (frs s c N).length := by unfold frI; rw [List.length_map]
theorem lkIn_at (s : St) (hn : s.n ≤ 4096) (c : Nat) (W : Nat → Int) : ∀ i, i ≤ (frs s c (64 * s.n)).length → ∀ x, ((∃ j, j < i ∧ (frs s c (64 * s.n)).getD j 0 = x) → lkIn (frI s (64 * s.n) c) W i x = s.link c x) ∧ ((∀ j, j < i → (frs s c (64 * s.n)).getD j 0 ≠ x) → lkIn (frI s (64 * s.n) c) W i x = W x)
  | 0, _, x => ⟨fun ⟨j, h, _⟩ => by omega, fun _ => rfl⟩
  | i + 1, hi, x => by
    obtain ⟨h1, h2⟩ := lkIn_at s hn c W i (by omega) x
    have hl := frs_link s c i hn (by omega)
    have e : lkIn (frI s (64 * s.n) c) W (i + 1) x = if x = (frs s c (64 * s.n)).getD i 0 then s.link c ((frs s c (64 * s.n)).getD i 0 : Nat) else lkIn (frI s (64 * s.n) c) W i x := by
      show setW _ _ _ x = _
      unfold setW
      rw [frI_getD, frI_getD, frI_length, Int.toNat_natCast, hl]
    rw [e]
    by_cases hx : x = (frs s c (64 * s.n)).getD i 0
    · rw [if_pos hx]
      exact ⟨fun _ => by rw [← hx], fun h => absurd hx.symm (h i (by omega))⟩
    · rw [if_neg hx]
      refine ⟨fun ⟨j, hj, e2⟩ => h1 ⟨j, ?_, e2⟩, fun h => h2 fun j hj => h j (by omega)⟩
      by_cases ej : j = i
      · subst ej; exact absurd e2.symm hx
      · omega
theorem lkTo_at {s : St} (h : s.Inv) {x : Nat} (hx : x < 64 * s.n) : ∀ c, c ≤ 8 → (∀ c', c' < c → s.B (c' + 1) x = true → lkTo s (64 * s.n) c x = s.link c' x) ∧ ((∀ c', c' < c → s.B (c' + 1) x = false) → lkTo s (64 * s.n) c x = 0)
  | 0, _ => ⟨fun c' h => by omega, fun _ => rfl⟩
  | c + 1, hc => by
    obtain ⟨h1, h2⟩ := lkTo_at h hx c (by omega)
    have hm := mem_frs s c x (64 * s.n)
    obtain ⟨g1, g2⟩ := lkIn_at s h.n2 c (lkTo s (64 * s.n) c) _ (Nat.le_refl _) x
    rw [← frI_length] at g1 g2
    have e : lkTo s (64 * s.n) (c + 1) x = lkIn (frI s (64 * s.n) c) (lkTo s (64 * s.n) c) (frI s (64 * s.n) c).length x := rfl
    rw [e]
    cases hb : s.B (c + 1) x with
    | true =>
      obtain ⟨j, hj, ej⟩ := getD_at (hm.2 ⟨hx, hb⟩)
      rw [g1 ⟨j, by rw [frI_length]; exact hj, ej⟩]
      refine ⟨fun c' hc' hb' => ?_, fun hn => ?_⟩
      · have b1 := ((h.free c (by omega) x).1 hb).1
        have b2 := ((h.free c' (by omega) x).1 hb').1
        rw [St.Blk.same (by omega) (by omega) b1 b2]
      · rw [hn c (by omega)] at hb; cases hb
    | false =>
      rw [g2 fun j hj ej => by
        have : x ∈ frs s c (64 * s.n) := by rw [← ej]; rw [frI_length] at hj; simp [hj]
        rw [(hm.1 this).2] at hb; cases hb]
      refine ⟨fun c' hc' hb' => h1 c' ?_ hb', fun hn => h2 fun c' hc' => hn c' (by omega)⟩
      by_cases ec : c' = c
      · subst ec; rw [hb] at hb'; cases hb'
      · omega
/-- A word is some object's just where it lies in a room. -/
theorem own_room {s : St} {os : List Ob} (ha : Agree s os) (x : Nat) : 0 ≤ ownTo os os.length x ↔ s.InRoom x := by
  constructor
  · intro h
    by_cases hn : ∃ j, j < os.length ∧ (os.getD j ob0).at' ≤ x ∧ x < (os.getD j ob0).at' + (Sp.wide (os.getD j ob0).sh.z).toNat
    · obtain ⟨j, hj, h1, h2⟩ := hn
      obtain ⟨o1, o2⟩ := ha.ob hj
      exact ⟨_, o1, h1, by rw [o2]; exact h2⟩
    · rw [ownTo_none os.length fun j hj hh => hn ⟨j, hj, hh⟩] at h
      omega
  · rintro ⟨a, h1, h2, h3⟩
    obtain ⟨o, ho, e⟩ := ha.all a h1
    obtain ⟨j, hj, ej⟩ := List.getElem_of_mem ho
    obtain ⟨o1, o2⟩ := ha.ob hj
    have hg : os.getD j ob0 = o := by rw [getD_el _ _ hj, ej]
    rw [hg] at o1 o2
    rw [e] at o2
    exact ownTo_some (os := os) (x := x) os.length j hj (by rw [hg]; omega) (by rw [hg, e, ← o2]; omega)
theorem St.Kept.rest {s t : St} {stay : Nat → Bool} (h : s.Kept t stay) {x : Nat} (hx : x < 64 * t.n) (hr : ¬t.InRoom x) : t.W x = lkTo t (64 * t.n) 8 x := by
  obtain ⟨h1, h2⟩ := lkTo_at h.inv hx 8 (Nat.le_refl _)
  by_cases hb : ∃ c, c < 8 ∧ t.B (c + 1) x = true
  · obtain ⟨c, hc, hb⟩ := hb
    rw [h1 c hc hb, h.inv.lnk c hc x hb]
  · have hf : ∀ c, c < 8 → t.B (c + 1) x = false := fun c hc => by
      cases e : t.B (c + 1) x with
      | false => rfl
      | true => exact absurd ⟨c, hc, e⟩ hb
    rw [h2 hf]
    exact h.zero x (by rw [← h.n]; exact hx) hr hf
/-- The pages of the first a words that are somebody's. -/
def usedL (own : Nat → Int) : Nat → List Nat
  | 0 => []
  | a + 1 => if 0 ≤ own a then usedL own a ++ [a / 64] else usedL own a
theorem mem_usedL (own : Nat → Int) (p : Nat) : ∀ a, p ∈ usedL own a ↔ ∃ x, x < a ∧ x / 64 = p ∧ 0 ≤ own x
  | 0 => ⟨fun h => (by cases h), fun ⟨x, h, _⟩ => by omega⟩
  | a + 1 => by
    have ih := mem_usedL own p a
    show p ∈ (if 0 ≤ own a then _ else _) ↔ _
    by_cases hb : 0 ≤ own a
    · rw [if_pos hb, List.mem_append, ih]
      constructor
      · rintro (⟨x, h1, h2⟩ | h1)
        · exact ⟨x, by omega, h2⟩
        · exact ⟨a, by omega, (List.mem_singleton.1 h1).symm, hb⟩
      · rintro ⟨x, h1, h2, h3⟩
        by_cases e : x = a
        · exact .inr (List.mem_singleton.2 (by rw [← h2, e]))
        · exact .inl ⟨x, by omega, h2, h3⟩
    · rw [if_neg hb, ih]
      constructor
      · rintro ⟨x, h1, h2⟩
        exact ⟨x, by omega, h2⟩
      · rintro ⟨x, h1, h2, h3⟩
        refine ⟨x, ?_, h2, h3⟩
        by_cases e : x = a
        · rw [e] at h3; exact absurd h3 hb
        · omega
theorem bool_same (ks : List Nat) (n k : Nat) : (boolCells ks n).setIfInBounds k (.bool (decide (k ∈ ks))) = boolCells ks n := by
  apply Array.ext_getElem?
  intro j
  by_cases hj : j < n
  · rw [Array.getElem?_setIfInBounds, bool_at _ _ _ hj]
    by_cases e : k = j
    · subst e; rw [if_pos rfl]; simp [boolCells, hj]
    · rw [if_neg e]
  · rw [Array.getElem?_eq_none (by simp [boolCells]; omega), Array.getElem?_eq_none (by simp [boolCells]; omega)]
/-- Behind a keeping a page is taken just where a word of it is somebody's. -/
theorem St.Kept.pages {s t : St} {stay : Nat → Bool} (h : s.Kept t stay) {os : List Ob} (ha : Agree t os) {p : Nat} (hp : p < t.n) :
    decide (p ∈ usedL (ownTo os os.length) (64 * t.n)) = decide ((t.P p).k ≠ 0) := by
  refine decide_eq_decide.2 ?_
  rw [mem_usedL]
  constructor
  · rintro ⟨x, _, hx, ho⟩
    have hr := (own_room ha x).1 ho
    rcases h.inv.mid.roomPage hr with ⟨c, _, _, e, _⟩ | ⟨e, _⟩
    · rw [hx] at e; rw [e]; exact (by decide : (1 : Int) ≠ 0)
    · rw [hx] at e; exact e
  · intro hk
    have hsm : ∀ x, t.B 0 x = true → t.InRoom x := fun x hx => ⟨x, hx, Nat.le_refl _, by
      have hf := (h.inv.obj x hx).1
      have := Sp.wide_pos hf.2.2.2.2.1 hf.2.2.2.2.2
      omega⟩
    rcases h.inv.pages p hp with e | ⟨c, _, e⟩ | ⟨q, r, hr, h1, h2⟩
    · rw [e] at hk; exact absurd rfl hk
    · obtain ⟨x, hx, hb⟩ := h.used p c (by rw [← h.n]; exact hp) e
      exact ⟨x, by omega, hx, (own_room ha x).2 (hsm x hb)⟩
    · have hb := (h.inv.runs q r hr).resolve_right id
      refine ⟨p * 64, by omega, by omega, (own_room ha _).2 ⟨q * 64, hb, by omega, ?_⟩⟩
      rcases (h.inv.obj _ hb).2 with ⟨c, hc, hz, q', i, hq, hi, hai, hP⟩ | ⟨h8, q', hq, hr'⟩
      · have hpg := blk_page hc hi hai
        obtain rfl : q' = q := by omega
        have := hr.2.2.1
        rw [this] at hP
        injection hP with e _ _
        omega
      · obtain rfl : q' = q := by omega
        have := St.Run.same hr hr'
        have hw := (Sp.wide_run h8).1
        rw [hw]
        omega
theorem IsRowI.below {w w' : World} {B : Nat} {a : Option Addr} {len cap : Nat} {zs : Nat → Int} (h : IsRowI w a len cap zs) (hb : Below B w w') (hl : ∀ x, a = some x → 0 < len → x.block < B) : IsRowI w' a len cap zs :=
  ⟨h.1, fun i hi => by
    obtain ⟨x, h1, h2, h3⟩ := h.2 i hi
    refine ⟨x, h1, ?_, h3⟩
    rw [← h2]
    exact World.cell?_of_block (w := w) (hb.block _ (by rw [add_block]; exact hl x h1 (by omega)))⟩
theorem cells_set {W : World} {b : Nat} {cs : Array Value} {T : TypeId} {fr : Nat × Nat} (h : W.heap[b]? = some (.cells cs T fr)) (p : Nat) (v : Value) : (W.setCell ⟨b, p, none⟩ v).heap[b]? = some (.cells (cs.setIfInBounds p v) T fr) := by
  simp only [World.setCell, Array.getElem?_modify, h, if_pos, Option.map_some, Option.isSome_none, Bool.false_eq_true, if_false]
/-- A list of Booleans: true at the numbers of a list. -/
def BoolsAt (W : World) (b n : Nat) (ks : List Nat) : Prop := W.heap[b]? = some (.cells (boolCells ks n) 4 (0, 0))
theorem bool_cell {W : World} {b n : Nat} {ks : List Nat} (h : W.heap[b]? = some (.cells (boolCells ks n) 4 (0, 0))) {p : Nat} (hp : p < n) : W.cell? ⟨b, p, none⟩ = some (.bool (decide (p ∈ ks))) := by
  simp only [World.cell?, h]
  simp [bool_at _ _ _ hp]
theorem index8 (vs : Nat → Value) (c : Nat) (hc : c < 8) (W : World) : (Instr.index 50 (.agg #[vs 0, vs 1, vs 2, vs 3, vs 4, vs 5, vs 6, vs 7]) (.int .i64 (c : Int))).run Tryd.prog W = .ok (vs c) W := by
  have h0 : ∀ (v0 v1 v2 v3 v4 v5 v6 v7 : Value) (W : World), (Instr.index 50 (.agg #[v0, v1, v2, v3, v4, v5, v6, v7]) (.int .i64 0)).run Tryd.prog W = .ok v0 W := fun _ _ _ _ _ _ _ _ _ => by kernel_rfl
  have h1 : ∀ (v0 v1 v2 v3 v4 v5 v6 v7 : Value) (W : World), (Instr.index 50 (.agg #[v0, v1, v2, v3, v4, v5, v6, v7]) (.int .i64 1)).run Tryd.prog W = .ok v1 W := fun _ _ _ _ _ _ _ _ _ => by kernel_rfl
  have h2 : ∀ (v0 v1 v2 v3 v4 v5 v6 v7 : Value) (W : World), (Instr.index 50 (.agg #[v0, v1, v2, v3, v4, v5, v6, v7]) (.int .i64 2)).run Tryd.prog W = .ok v2 W := fun _ _ _ _ _ _ _ _ _ => by kernel_rfl
  have h3 : ∀ (v0 v1 v2 v3 v4 v5 v6 v7 : Value) (W : World), (Instr.index 50 (.agg #[v0, v1, v2, v3, v4, v5, v6, v7]) (.int .i64 3)).run Tryd.prog W = .ok v3 W := fun _ _ _ _ _ _ _ _ _ => by kernel_rfl
  have h4 : ∀ (v0 v1 v2 v3 v4 v5 v6 v7 : Value) (W : World), (Instr.index 50 (.agg #[v0, v1, v2, v3, v4, v5, v6, v7]) (.int .i64 4)).run Tryd.prog W = .ok v4 W := fun _ _ _ _ _ _ _ _ _ => by kernel_rfl
  have h5 : ∀ (v0 v1 v2 v3 v4 v5 v6 v7 : Value) (W : World), (Instr.index 50 (.agg #[v0, v1, v2, v3, v4, v5, v6, v7]) (.int .i64 5)).run Tryd.prog W = .ok v5 W := fun _ _ _ _ _ _ _ _ _ => by kernel_rfl
  have h6 : ∀ (v0 v1 v2 v3 v4 v5 v6 v7 : Value) (W : World), (Instr.index 50 (.agg #[v0, v1, v2, v3, v4, v5, v6, v7]) (.int .i64 6)).run Tryd.prog W = .ok v6 W := fun _ _ _ _ _ _ _ _ _ => by kernel_rfl
  have h7 : ∀ (v0 v1 v2 v3 v4 v5 v6 v7 : Value) (W : World), (Instr.index 50 (.agg #[v0, v1, v2, v3, v4, v5, v6, v7]) (.int .i64 7)).run Tryd.prog W = .ok v7 W := fun _ _ _ _ _ _ _ _ _ => by kernel_rfl
  have h8 : c = 0 ∨ c = 1 ∨ c = 2 ∨ c = 3 ∨ c = 4 ∨ c = 5 ∨ c = 6 ∨ c = 7 := by omega
  rcases h8 with rfl | rfl | rfl | rfl | rfl | rfl | rfl | rfl
  · exact h0 _ _ _ _ _ _ _ _ _
  · exact h1 _ _ _ _ _ _ _ _ _
  · exact h2 _ _ _ _ _ _ _ _ _
  · exact h3 _ _ _ _ _ _ _ _ _
  · exact h4 _ _ _ _ _ _ _ _ _
  · exact h5 _ _ _ _ _ _ _ _ _
  · exact h6 _ _ _ _ _ _ _ _ _
  · exact h7 _ _ _ _ _ _ _ _ _
end Go.Proofs.YtiniadochjeieaaDoor

namespace Go.Proofs.YtiniadochjeieaaDoor
open Go Go.RowKit

theorem seekRun_least (P : Nat → Pg) (n m : Nat) : ∀ (d i g : Nat), n - i ≤ d → g ≤ i → g < m →
    (∀ h, seekRun P n m i g = some h → ∀ p, i - g ≤ p → p < h → ∃ j, p ≤ j ∧ j < p + m ∧ (P j).free = false) ∧ (seekRun P n m i g = none → ∀ p, i - g ≤ p → p + m ≤ n → ∃ j, p ≤ j ∧ j < p + m ∧ (P j).free = false)
  | 0, i, g, hd, hg, hgm => by
    rw [seekRun, dif_neg (by omega)]
    exact ⟨fun h e => (by cases e), fun _ p h1 h2 => by omega⟩
  | d + 1, i, g, hd, hg, hgm => by
    rw [seekRun]
    by_cases hi : i < n
    · rw [dif_pos hi]
      by_cases hf : (P i).free = true
      · rw [if_pos hf]
        by_cases hm : g + 1 = m
        · rw [if_pos hm]
          exact ⟨fun h e p h1 h2 => by injection e with e; omega, fun e => by cases e⟩
        · rw [if_neg hm]
          have ih := seekRun_least P n m d (i + 1) (g + 1) (by omega) (by omega) (by omega)
          rw [show i + 1 - (g + 1) = i - g by omega] at ih
          exact ih
      · rw [if_neg hf]
        have ih := seekRun_least P n m d (i + 1) 0 (by omega) (by omega) (by omega)
        have hf' : (P i).free = false := by simpa using hf
        refine ⟨fun h e p h1 h2 => ?_, fun e p h1 h2 => ?_⟩
        · by_cases hp : i + 1 ≤ p
          · exact ih.1 h e p (by omega) h2
          · exact ⟨i, by omega, by omega, hf'⟩
        · by_cases hp : i + 1 ≤ p
          · exact ih.2 e p (by omega) h2
          · exact ⟨i, by omega, by omega, hf'⟩
    · rw [dif_neg hi]
      exact ⟨fun h e => (by cases e), fun _ p h1 h2 => by omega⟩
theorem St.InvX.freeP {s : St} (h : s.Inv) {p : Nat} (hp : p < s.n) : (s.P p).free = true ↔ (s.P p).k = 0 := by
  rcases h.pages p hp with e | ⟨c, _, e⟩ | ⟨q, r, hr, h1, h2⟩
  · rw [e]; exact ⟨fun _ => rfl, fun _ => rfl⟩
  · rw [e]
    constructor
    · intro hh; cases hh
    · intro hh; exact absurd hh (by decide : (1 : Int) ≠ 0)
  · have hk : (s.P p).k = 2 ∨ (s.P p).k = 3 := by
      by_cases e : p = q
      · subst e; rw [hr.2.2.1]; exact .inl rfl
      · rw [hr.2.2.2 p (by omega) (by omega)]; exact .inr rfl
    constructor
    · intro hh; rw [Pg.free_eq hh]
    · intro hh; omega
/-- A row of m free pages from p on. -/
def St.Row (s : St) (m p : Nat) : Prop := p + m ≤ s.n ∧ ∀ j, p ≤ j → j < p + m → (s.P j).k = 0
/-- What the law wants when the pages from q on have been looked at; ini: the class's least free block, or -1. -/
def St.Wnt (s : St) (m : Nat) (ini : Int) (q : Nat) (v : Int) : Prop :=
  (0 ≤ ini ∧ v = ini) ∨ (ini = -1 ∧ v = -1 ∧ ∀ p, q ≤ p → ¬s.Row m p) ∨ (ini = -1 ∧ ∃ p : Nat, v = 64 * (p : Int) ∧ q ≤ p ∧ s.Row m p ∧ ∀ p', q ≤ p' → p' < p → ¬s.Row m p')
/-- The class's least free block, as the law finds it. -/
def St.ini (s : St) (z : Int) : Int := if Sp.cls z = 8 then -1 else s.hd0 (Sp.cls z).toNat
def Sp.need (z : Int) : Nat := if Sp.cls z = 8 then (Sp.pgs z).toNat else 1
theorem St.Row.one {s : St} {p : Nat} : s.Row 1 p ↔ p < s.n ∧ (s.P p).k = 0 :=
  ⟨fun h => ⟨h.1, h.2 p (Nat.le_refl _) (by omega)⟩, fun h => ⟨h.1, fun j h1 h2 => by rw [show j = p by omega]; exact h.2⟩⟩
/-- Where take puts an object is where the law wants it. -/
theorem St.InvX.takeLow {s : St} (h : s.Inv) (hlow : s.low ≤ s.n) {z : Int} (hz : 1 ≤ z ∧ z ≤ 1024) {v : Int} (hv : s.Wnt (Sp.need z) (s.ini z) 0 v) :
    (∀ t, s.take z = (t, 0, 20, 0) → v = -1) ∧ (∀ t (a : Nat), s.take z = (t, (a : Int), 0, 0) → v = (a : Int)) := by
  have hffn : s.ff ≤ s.n := firstFree_le _ _ _ hlow
  have hbel : ∀ p, p < s.ff → p < s.n → (s.P p).k ≠ 0 := fun p h1 h2 e => h.ffBelow p h1 h2 (Pg.free_eq ((h.freeP h2).2 e))
  by_cases h8 : Sp.cls z = 8
  · have hini : s.ini z = -1 := by unfold St.ini; rw [if_pos h8]
    have hneed : Sp.need z = (Sp.pgs z).toNat := by unfold Sp.need; rw [if_pos h8]
    have hm := (Sp.wide_run h8).2
    rw [hini, hneed] at hv
    obtain ⟨m, hmm⟩ : ∃ m, (Sp.pgs z).toNat = m := ⟨_, rfl⟩
    have hsk := seekRun_least s.P s.n m _ s.ff 0 (Nat.le_refl _) (Nat.zero_le _) (by omega)
    have hfree := seekRun_free s.P s.n m _ s.ff 0 (Nat.le_refl _) (by omega) (fun j hj1 hj2 => by omega) (by omega)
    have hin := seekRun_in s.P s.n m (by omega) _ s.ff 0 (Nat.le_refl _) (by omega) (by omega)
    rw [hmm] at hv
    have ht : s.take z = match s.runAt m with
      | none => ({ s with low := s.ff }, 0, 20, 0)
      | some h => ({ s with P := runPg s.P h m, low := s.ff }, ((h * 64 : Nat) : Int), 0, 0) := by
      unfold St.take
      rw [if_pos h8, hmm]
      rfl
    rw [ht]
    have hge : ∀ p, s.Row m p → s.ff ≤ p := fun p hr => by
      rcases Nat.lt_or_ge p s.ff with g | g
      · exact absurd (hr.2 p (Nat.le_refl _) (by omega)) (hbel p g (by have := hr.1; omega))
      · exact g
    have hno : ∀ p, s.Row m p → ∀ j, p ≤ j → j < p + m → (s.P j).free = true := fun p hr j h1 h2 => (h.freeP (by have := hr.1; omega)).2 (hr.2 j h1 h2)
    cases hr : s.runAt m with
    | none =>
      have h2 := hsk.2 hr
      have hnr : ∀ p, ¬s.Row m p := fun p hp => by
        obtain ⟨j, h3, h4, h5⟩ := h2 p (by have := hge p hp; omega) hp.1
        rw [hno p hp j h3 h4] at h5; cases h5
      refine ⟨fun t _ => ?_, fun t a e => ?_⟩
      · rcases hv with ⟨e, _⟩ | ⟨_, e, _⟩ | ⟨_, p, _, _, e, _⟩
        · omega
        · exact e
        · exact absurd e (hnr p)
      · injection e with _ e; injection e with _ e; injection e with e _; cases e
    | some q =>
      have h2 := hsk.1 q hr
      have hq : s.Row m q := ⟨hin q hr, fun j h3 h4 => (h.freeP (by have := hin q hr; omega)).1 (hfree q hr j h3 h4)⟩
      have hnr : ∀ p, p < q → ¬s.Row m p := fun p hpq hp => by
        obtain ⟨j, h3, h4, h5⟩ := h2 p (by have := hge p hp; omega) hpq
        rw [hno p hp j h3 h4] at h5; cases h5
      refine ⟨fun t e => ?_, fun t a e => ?_⟩
      · injection e with _ e; injection e with _ e; injection e with e _; cases e
      · injection e with _ e
        injection e with e _
        rcases hv with ⟨e1, _⟩ | ⟨_, _, e1⟩ | ⟨_, p, e1, _, e2, e3⟩
        · omega
        · exact absurd hq (e1 q (Nat.zero_le _))
        · have : p = q := by
            rcases Nat.lt_trichotomy p q with g | g | g
            · exact absurd e2 (hnr p g)
            · exact g
            · exact absurd hq (e3 q (Nat.zero_le _) g)
          omega
  · have hci := Sp.cls_in hz.1 hz.2
    obtain ⟨c, hcz⟩ : ∃ c : Nat, Sp.cls z = (c : Int) := ⟨(Sp.cls z).toNat, by omega⟩
    have hc : c < 8 := by omega
    have hini : s.ini z = s.hd0 c := by unfold St.ini; rw [if_neg h8, hcz, Int.toNat_natCast]
    have hneed : Sp.need z = 1 := by unfold Sp.need; rw [if_neg h8]
    rw [hini, hneed] at hv
    have hnone : (∀ a, s.B (c + 1) a = false) → s.hd0 c = -1 := fun he => Bm.next_none fun a _ _ => he a
    rcases h.takeSmall hc hcz hlow with ⟨a, ha, ht⟩ | ⟨he, hf, ht⟩ | ⟨he, hf, hP, ht⟩
    · rw [ht]
      refine ⟨fun t e => ?_, fun t a' e => ?_⟩
      · injection e with _ e; injection e with _ e; injection e with e _; cases e
      · injection e with _ e
        injection e with e _
        rcases hv with ⟨_, e1⟩ | ⟨e1, _⟩ | ⟨e1, _⟩
        · rw [e1, ha, e]
        · omega
        · omega
    · rw [ht]
      rw [hnone he] at hv
      refine ⟨fun t _ => ?_, fun t a e => ?_⟩
      · rcases hv with ⟨e, _⟩ | ⟨_, e, _⟩ | ⟨_, p, _, _, e, _⟩
        · omega
        · exact e
        · have := St.Row.one.1 e
          exact absurd this.2 (hbel p (by omega) this.1)
      · injection e with _ e; injection e with _ e; injection e with e _; cases e
    · rw [ht]
      rw [hnone he] at hv
      refine ⟨fun t e => ?_, fun t a e => ?_⟩
      · injection e with _ e; injection e with _ e; injection e with e _; cases e
      · injection e with _ e
        injection e with e _
        have hq : s.Row 1 s.ff := St.Row.one.2 ⟨hf, by rw [hP]⟩
        rcases hv with ⟨e1, _⟩ | ⟨_, _, e1⟩ | ⟨_, p, e1, _, e2, e3⟩
        · omega
        · exact absurd hq (e1 s.ff (Nat.zero_le _))
        · have : p = s.ff := by
            rcases Nat.lt_trichotomy p s.ff with g | g | g
            · have := St.Row.one.1 e2
              exact absurd this.2 (hbel p g this.1)
            · exact g
            · exact absurd hq (e3 s.ff (Nat.zero_le _) g)
          omega
theorem fits3 {z : Int} (h : 1 ≤ z ∧ z ≤ 1024) : Sp.fits 3 z = true := by
  unfold Sp.fits
  simp [Sp.base, Sp.most]
  omega
/-- The first of a class's free blocks. -/
theorem frs_head (s : St) (c : Nat) : (0 < (frs s c (64 * s.n)).length → s.hd0 c = ((frs s c (64 * s.n)).getD 0 0 : Nat)) ∧ ((frs s c (64 * s.n)).length = 0 → s.hd0 c = -1) := by
  have hup := frs_up s c (64 * s.n)
  have hmem := fun x => mem_frs s c x (64 * s.n)
  generalize frs s c (64 * s.n) = l at *
  unfold St.hd0
  constructor
  · intro h
    obtain ⟨g1, g2⟩ := (hmem (l.getD 0 0)).1 (by simp [h])
    refine Bm.next_eq (by omega) g1 g2 fun j _ hj => ?_
    cases hb : s.B (c + 1) j with
    | false => rfl
    | true =>
      obtain ⟨k, hk, e⟩ := getD_at ((hmem j).2 ⟨by omega, hb⟩)
      rcases Nat.eq_zero_or_pos k with g | g
      · subst g; omega
      · have := up_lt hup hk g; omega
  · intro h
    refine Bm.next_none fun a _ ha => ?_
    cases hb : s.B (c + 1) a with
    | false => rfl
    | true =>
      have := (hmem a).2 ⟨ha, hb⟩
      rw [List.eq_nil_of_length_eq_zero h] at this
      cases this
/-- One more page has been looked at. -/
theorem St.Wnt.step {s : St} {m : Nat} {ini : Int} {q : Nat} {v : Int} (h : s.Wnt m ini (q + 1) v) :
    (0 ≤ ini → s.Wnt m ini q v) ∧ (ini = -1 → s.Row m q → s.Wnt m ini q (64 * (q : Int))) ∧ (¬s.Row m q → s.Wnt m ini q v) := by
  refine ⟨fun hi => ?_, fun hi hr => .inr (.inr ⟨hi, q, rfl, Nat.le_refl _, hr, fun p' h1 h2 => by omega⟩), fun hr => ?_⟩
  · rcases h with h | ⟨e, _⟩ | ⟨e, _⟩
    · exact .inl h
    · omega
    · omega
  · rcases h with h | ⟨e1, e2, e3⟩ | ⟨e1, p, e2, e3, e4, e5⟩
    · exact .inl h
    · refine .inr (.inl ⟨e1, e2, fun p hp => ?_⟩)
      by_cases e : p = q
      · rw [e]; exact hr
      · exact e3 p (by omega)
    · refine .inr (.inr ⟨e1, p, e2, by omega, e4, fun p' h1 h2 => ?_⟩)
      by_cases e : p' = q
      · rw [e]; exact hr
      · exact e5 p' (by omega) h2
end Go.Proofs.YtiniadochjeieaaDoor
