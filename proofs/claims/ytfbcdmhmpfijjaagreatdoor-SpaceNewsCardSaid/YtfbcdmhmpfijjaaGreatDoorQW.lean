/-
  The plain laws that SpaceKept leans on.
-/
import Derived.Test.YtfbcdmhmpfijjaaGreatDoorQV
namespace Go.Proofs.YtfbcdmhmpfijjaaGreatDoor
open Go Go.RowKit

theorem frs_up (s : St) (c : Nat) : ∀ a, (frs s c a).Pairwise (· < ·)
  | 0 => .nil
  | a + 1 => by
    show (if s.B (c + 1) a then _ else _ : List Nat).Pairwise _
    split
    · refine List.pairwise_append.2 ⟨frs_up s c a, by simp, fun x hx y hy => ?_⟩
      rw [List.mem_singleton.1 hy]
      exact ((mem_frs s c x a).1 hx).1
    · exact frs_up s c a
theorem up_lt {l : List Nat} (h : l.Pairwise (· < ·)) {i j : Nat} (hj : j < l.length) (hij : i < j) : l.getD i 0 < l.getD j 0 := by
  have hi : i < l.length := by omega
  have := List.pairwise_iff_getElem.1 h i j hi hj hij
  simpa [hi, hj] using this
theorem getD_at {l : List Nat} {x : Nat} (h : x ∈ l) : ∃ j, j < l.length ∧ l.getD j 0 = x := by
  obtain ⟨j, hj, e⟩ := List.getElem_of_mem h
  exact ⟨j, hj, by simp [hj, e]⟩
/-- A free block's word is the link to the next one of the list. -/
theorem frs_link (s : St) (c i : Nat) (hn : s.n ≤ 4096) (hi : i < (frs s c (64 * s.n)).length) :
    s.link c (((frs s c (64 * s.n)).getD i 0 : Nat) : Int) = if i + 1 < (frs s c (64 * s.n)).length then (((frs s c (64 * s.n)).getD (i + 1) 0 : Nat) : Int) * 8 + 4 else -4 := by
  have hup := frs_up s c (64 * s.n)
  have hmem := fun x => mem_frs s c x (64 * s.n)
  generalize frs s c (64 * s.n) = l at *
  have hget : ∀ j, j < l.length → l.getD j 0 < 64 * s.n ∧ s.B (c + 1) (l.getD j 0) = true := fun j hj => (hmem _).1 (by simp [hj])
  unfold St.link
  by_cases h : i + 1 < l.length
  · rw [if_pos h]
    obtain ⟨g1, g2⟩ := hget (i + 1) h
    rw [Bm.next_eq (i := l.getD (i + 1) 0) (by have := up_lt hup h (Nat.lt_succ_self i); omega) g1 g2 fun j h1 h2 => ?_]
    · unfold Sp.lnk
      rw [if_neg (by omega)]
    · cases hb : s.B (c + 1) j with
      | false => rfl
      | true =>
        obtain ⟨k, hk, e⟩ := getD_at ((hmem j).2 ⟨by omega, hb⟩)
        rcases Nat.lt_trichotomy k i with g | g | g
        · have := up_lt hup hi g; omega
        · subst g; omega
        · rcases Nat.lt_or_ge (i + 1) k with g' | g'
          · have := up_lt hup hk g'; omega
          · obtain rfl : k = i + 1 := by omega
            omega
  · rw [if_neg h]
    rcases Bm.next_spec (s.B (c + 1)) (64 * s.n) (((l.getD i 0 : Nat) : Int) + 1) with ⟨e, _⟩ | ⟨x, _, h2, h3, h4, _⟩
    · rw [e]; rfl
    · obtain ⟨k, hk, e⟩ := getD_at ((hmem x).2 ⟨h3, h4⟩)
      rcases Nat.lt_trichotomy k i with g | g | g
      · have := up_lt hup hi g; omega
      · subst g; omega
      · omega
/-- Links written into words, of the first i of a list. -/
def lkIn (zs : List Int) (W : Nat → Int) : Nat → Nat → Int
  | 0 => W
  | i + 1 => setW (lkIn zs W i) (zs.getD i 0).toNat (if i + 1 < zs.length then zs.getD (i + 1) 0 * 8 + 4 else -4)
/-- And of the first c classes' lists. -/
def lkTo (s : St) (N : Nat) : Nat → Nat → Int
  | 0 => fun _ => 0
  | c + 1 => lkIn (frI s N c) (lkTo s N c) (frI s N c).length
theorem frI_getD (s : St) (N c i : Nat) : (frI s N c).getD i 0 = ((frs s c N).getD i 0 : Nat) := by
  unfold frI
  rw [List.getD_eq_getElem?_getD, List.getD_eq_getElem?_getD, List.getElem?_map]
  cases (frs s c N)[i]? <;> rfl
theorem frI_length (s : St) (N c : Nat) : (frI s N c).length = (frs s c N).length := by unfold frI; rw [List.length_map]
theorem lkIn_at (s : St) (hn : s.n ≤ 4096) (c : Nat) (W : Nat → Int) : ∀ i, i ≤ (frs s c (64 * s.n)).length → ∀ x, ((∃ j, j < i ∧ (frs s c (64 * s.n)).getD j 0 = x) → lkIn (frI s (64 * s.n) c) W i x = s.link c x) ∧ ((∀ j, j < i → (frs s c (64 * s.n)).getD j 0 ≠ x) → lkIn (frI s (64 * s.n) c) W i x = W x)
  | 0, _, x => ⟨fun ⟨j, h, _⟩ => by omega, fun _ => rfl⟩
  | i + 1, hi, x => by
    obtain ⟨h1, h2⟩ := lkIn_at s hn c W i (by omega) x
    have hl := frs_link s c i hn (by omega)
    have e : lkIn (frI s (64 * s.n) c) W (i + 1) x = if x = (frs s c (64 * s.n)).getD i 0 then s.link c ((frs s c (64 * s.n)).getD i 0 : Nat) else lkIn (frI s (64 * s.n) c) W i x := by
      show setW _ _ _ x = _
      unfold setW
      rw [frI_getD, frI_getD, frI_length, Int.toNat_natCast, hl]
    rw [e]
    by_cases hx : x = (frs s c (64 * s.n)).getD i 0
    · rw [if_pos hx]
      exact ⟨fun _ => by rw [← hx], fun h => absurd hx.symm (h i (by omega))⟩
    · rw [if_neg hx]
      refine ⟨fun ⟨j, hj, e2⟩ => h1 ⟨j, ?_, e2⟩, fun h => h2 fun j hj => h j (by omega)⟩
      by_cases ej : j = i
      · subst ej; exact absurd e2.symm hx
      · omega
theorem lkTo_at {s : St} (h : s.Inv) {x : Nat} (hx : x < 64 * s.n) : ∀ c, c ≤ 8 → (∀ c', c' < c → s.B (c' + 1) x = true → lkTo s (64 * s.n) c x = s.link c' x) ∧ ((∀ c', c' < c → s.B (c' + 1) x = false) → lkTo s (64 * s.n) c x = 0)
  | 0, _ => ⟨fun c' h => by omega, fun _ => rfl⟩
  | c + 1, hc => by
    obtain ⟨h1, h2⟩ := lkTo_at h hx c (by omega)
    have hm := mem_frs s c x (64 * s.n)
    obtain ⟨g1, g2⟩ := lkIn_at s h.n2 c (lkTo s (64 * s.n) c) _ (Nat.le_refl _) x
    rw [← frI_length] at g1 g2
    have e : lkTo s (64 * s.n) (c + 1) x = lkIn (frI s (64 * s.n) c) (lkTo s (64 * s.n) c) (frI s (64 * s.n) c).length x := rfl
    rw [e]
    cases hb : s.B (c + 1) x with
    | true =>
      obtain ⟨j, hj, ej⟩ := getD_at (hm.2 ⟨hx, hb⟩)
      rw [g1 ⟨j, by rw [frI_length]; exact hj, ej⟩]
      refine ⟨fun c' hc' hb' => ?_, fun hn => ?_⟩
      · have b1 := ((h.free c (by omega) x).1 hb).1
        have b2 := ((h.free c' (by omega) x).1 hb').1
        rw [St.Blk.same (by omega) (by omega) b1 b2]
      · rw [hn c (by omega)] at hb; cases hb
    | false =>
      rw [g2 fun j hj ej => by
        have : x ∈ frs s c (64 * s.n) := by rw [← ej]; rw [frI_length] at hj; simp [hj]
        rw [(hm.1 this).2] at hb; cases hb]
      refine ⟨fun c' hc' hb' => h1 c' ?_ hb', fun hn => h2 fun c' hc' => hn c' (by omega)⟩
      by_cases ec : c' = c
      · subst ec; rw [hb] at hb'; cases hb'
      · omega
/-- A word is some object's just where it lies in a room. -/
theorem own_room {s : St} {os : List Ob} (ha : Agree s os) (x : Nat) : 0 ≤ ownTo os os.length x ↔ s.InRoom x := by
  constructor
  · intro h
    by_cases hn : ∃ j, j < os.length ∧ (os.getD j ob0).at' ≤ x ∧ x < (os.getD j ob0).at' + (Sp.wide (os.getD j ob0).sh.z).toNat
    · obtain ⟨j, hj, h1, h2⟩ := hn
      obtain ⟨o1, o2⟩ := ha.ob hj
      exact ⟨_, o1, h1, by rw [o2]; exact h2⟩
    · rw [ownTo_none os.length fun j hj hh => hn ⟨j, hj, hh⟩] at h
      omega
  · rintro ⟨a, h1, h2, h3⟩
    obtain ⟨o, ho, e⟩ := ha.all a h1
    obtain ⟨j, hj, ej⟩ := List.getElem_of_mem ho
    obtain ⟨o1, o2⟩ := ha.ob hj
    have hg : os.getD j ob0 = o := by rw [getD_el _ _ hj, ej]
    rw [hg] at o1 o2
    rw [e] at o2
    exact ownTo_some (os := os) (x := x) os.length j hj (by rw [hg]; omega) (by rw [hg, e, ← o2]; omega)
theorem St.Kept.rest {s t : St} {stay : Nat → Bool} (h : s.Kept t stay) {x : Nat} (hx : x < 64 * t.n) (hr : ¬t.InRoom x) : t.W x = lkTo t (64 * t.n) 8 x := by
  obtain ⟨h1, h2⟩ := lkTo_at h.inv hx 8 (Nat.le_refl _)
  by_cases hb : ∃ c, c < 8 ∧ t.B (c + 1) x = true
  · obtain ⟨c, hc, hb⟩ := hb
    rw [h1 c hc hb, h.inv.lnk c hc x hb]
  · have hf : ∀ c, c < 8 → t.B (c + 1) x = false := fun c hc => by
      cases e : t.B (c + 1) x with
      | false => rfl
      | true => exact absurd ⟨c, hc, e⟩ hb
    rw [h2 hf]
    exact h.zero x (by rw [← h.n]; exact hx) hr hf
/-- The pages of the first a words that are somebody's. -/
def usedL (own : Nat → Int) : Nat → List Nat
  | 0 => []
  | a + 1 => if 0 ≤ own a then usedL own a ++ [a / 64] else usedL own a
theorem mem_usedL (own : Nat → Int) (p : Nat) : ∀ a, p ∈ usedL own a ↔ ∃ x, x < a ∧ x / 64 = p ∧ 0 ≤ own x
  | 0 => ⟨fun h => (by cases h), fun ⟨x, h, _⟩ => by omega⟩
  | a + 1 => by
    have ih := mem_usedL own p a
    show p ∈ (if 0 ≤ own a then _ else _) ↔ _
    by_cases hb : 0 ≤ own a
    · rw [if_pos hb, List.mem_append, ih]
      constructor
      · rintro (⟨x, h1, h2⟩ | h1)
        · exact ⟨x, by omega, h2⟩
        · exact ⟨a, by omega, (List.mem_singleton.1 h1).symm, hb⟩
      · rintro ⟨x, h1, h2, h3⟩
        by_cases e : x = a
        · exact .inr (List.mem_singleton.2 (by rw [← h2, e]))
        · exact .inl ⟨x, by omega, h2, h3⟩
    · rw [if_neg hb, ih]
      constructor
      · rintro ⟨x, h1, h2⟩
        exact ⟨x, by omega, h2⟩
      · rintro ⟨x, h1, h2, h3⟩
        refine ⟨x, ?_, h2, h3⟩
        by_cases e : x = a
        · rw [e] at h3; exact absurd h3 hb
        · omega
/-- Behind a keeping a page is taken just where a word of it is somebody's. -/
theorem St.Kept.pages {s t : St} {stay : Nat → Bool} (h : s.Kept t stay) {os : List Ob} (ha : Agree t os) {p : Nat} (hp : p < t.n) :
    decide (p ∈ usedL (ownTo os os.length) (64 * t.n)) = decide ((t.P p).k ≠ 0) := by
  refine decide_eq_decide.2 ?_
  rw [mem_usedL]
  constructor
  · rintro ⟨x, _, hx, ho⟩
    have hr := (own_room ha x).1 ho
    rcases h.inv.mid.roomPage hr with ⟨c, _, _, e, _⟩ | ⟨e, _⟩
    · rw [hx] at e; rw [e]; exact (by decide : (1 : Int) ≠ 0)
    · rw [hx] at e; exact e
  · intro hk
    have hsm : ∀ x, t.B 0 x = true → t.InRoom x := fun x hx => ⟨x, hx, Nat.le_refl _, by
      have hf := (h.inv.obj x hx).1
      have := Sp.wide_pos hf.2.2.2.2.1 hf.2.2.2.2.2
      omega⟩
    rcases h.inv.pages p hp with e | ⟨c, _, e⟩ | ⟨q, r, hr, h1, h2⟩
    · rw [e] at hk; exact absurd rfl hk
    · obtain ⟨x, hx, hb⟩ := h.used p c (by rw [← h.n]; exact hp) e
      exact ⟨x, by omega, hx, (own_room ha x).2 (hsm x hb)⟩
    · have hb := (h.inv.runs q r hr).resolve_right id
      refine ⟨p * 64, by omega, by omega, (own_room ha _).2 ⟨q * 64, hb, by omega, ?_⟩⟩
      rcases (h.inv.obj _ hb).2 with ⟨c, hc, hz, q', i, hq, hi, hai, hP⟩ | ⟨h8, q', hq, hr'⟩
      · have hpg := blk_page hc hi hai
        obtain rfl : q' = q := by omega
        have := hr.2.2.1
        rw [this] at hP
        injection hP with e _ _
        omega
      · obtain rfl : q' = q := by omega
        have := St.Run.same hr hr'
        have hw := (Sp.wide_run h8).1
        rw [hw]
        omega
theorem IsRowI.below {w w' : World} {B : Nat} {a : Option Addr} {len cap : Nat} {zs : Nat → Int} (h : IsRowI w a len cap zs) (hb : Below B w w') (hl : ∀ x, a = some x → 0 < len → x.block < B) : IsRowI w' a len cap zs :=
  ⟨h.1, fun i hi => by
    obtain ⟨x, h1, h2, h3⟩ := h.2 i hi
    refine ⟨x, h1, ?_, h3⟩
    rw [← h2]
    exact World.cell?_of_block (w := w) (hb.block _ (by rw [add_block]; exact hl x h1 (by omega)))⟩
end Go.Proofs.YtfbcdmhmpfijjaaGreatDoor
