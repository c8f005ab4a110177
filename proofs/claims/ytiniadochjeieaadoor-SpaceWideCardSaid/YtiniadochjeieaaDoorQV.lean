/-
  The plain laws that firsts leans on.
-/
import Derived.Test.YtiniadochjeieaaDoorQN12
namespace Go.Proofs.YtiniadochjeieaaDoor
open Go Go.RowKit

/-- The free blocks of class c below a. -/
def frs (s : St) (c : Nat) : Nat → List Nat
  | 0 => []
  | a + 1 => if s.B (c + 1) a then frs s c a ++ [a] else frs s c a
theorem frs_none {s : St} {c a : Nat} : ∀ k, (∀ j, a ≤ j → j < a + k → s.B (c + 1) j = false) → frs s c (a + k) = frs s c a
  | 0, _ => rfl
  | k + 1, h => by
    show (if s.B (c + 1) (a + k) then _ else _) = _
    rw [h (a + k) (by omega) (by omega), if_neg (by decide)]
    exact frs_none k (fun j h1 h2 => h j h1 (by omega))
theorem frs_len (s : St) (c : Nat) : ∀ a, (frs s c a).length ≤ a
  | 0 => Nat.le_refl _
  | a + 1 => by
    have := frs_len s c a
    show (if s.B (c + 1) a then frs s c a ++ [_] else frs s c a).length ≤ _
    split
    · simp; omega
    · omega
theorem mem_frs (s : St) (c x : Nat) : ∀ a, x ∈ frs s c a ↔ x < a ∧ s.B (c + 1) x = true
  | 0 => by
    constructor
    · intro h; cases h
    · intro h; omega
  | a + 1 => by
    have ih := mem_frs s c x a
    show x ∈ (if s.B (c + 1) a then _ else _) ↔ _
    by_cases hb : s.B (c + 1) a = true
    · rw [if_pos hb, List.mem_append, ih]
      constructor
      · rintro (⟨h1, h2⟩ | h1)
        · exact ⟨by omega, h2⟩
        · rw [List.mem_singleton.1 h1]; exact ⟨by omega, hb⟩
      · rintro ⟨h1, h2⟩
        by_cases e : x = a
        · exact .inr (List.mem_singleton.2 e)
        · exact .inl ⟨by omega, h2⟩
    · rw [if_neg hb, ih]
      constructor
      · rintro ⟨h1, h2⟩
        exact ⟨by omega, h2⟩
      · rintro ⟨h1, h2⟩
        refine ⟨?_, h2⟩
        by_cases e : x = a
        · rw [e] at h2; exact absurd h2 hb
        · omega
/-- A page without free blocks of a class. -/
theorem frs_page {s : St} (hi : s.Inv) {c p : Nat} (hc : c < 8) (hP : s.P p ≠ ⟨1, c, 0⟩) : frs s c (64 * p + 64) = frs s c (64 * p) :=
  frs_none 64 fun j h1 h2 => by
    cases hb : s.B (c + 1) j with
    | false => rfl
    | true =>
      obtain ⟨⟨q, i, hq, hi', e, hPq⟩, _⟩ := (hi.free c hc j).1 hb
      have hpg := blk_page hc hi' e
      have : q = p := by omega
      subst this
      exact absurd hPq hP
/-- Between two blocks there is none. -/
theorem frs_step {s : St} (hi : s.Inv) {c p i : Nat} (hc : c < 8) (hP : s.P p = ⟨1, c, 0⟩) (hib : i < Sp.bk c) :
    frs s c (64 * p + (i + 1) * Sp.cw c) = if s.B (c + 1) (64 * p + i * Sp.cw c) then frs s c (64 * p + i * Sp.cw c) ++ [64 * p + i * Sp.cw c] else frs s c (64 * p + i * Sp.cw c) := by
  have hw : 0 < Sp.cw c := by
    have h8 : c = 0 ∨ c = 1 ∨ c = 2 ∨ c = 3 ∨ c = 4 ∨ c = 5 ∨ c = 6 ∨ c = 7 := by omega
    rcases h8 with rfl | rfl | rfl | rfl | rfl | rfl | rfl | rfl <;> decide
  have hm : (i + 1) * Sp.cw c = i * Sp.cw c + Sp.cw c := Nat.succ_mul _ _
  have e : 64 * p + (i + 1) * Sp.cw c = (64 * p + i * Sp.cw c + 1) + (Sp.cw c - 1) := by omega
  rw [e, frs_none (Sp.cw c - 1) fun j h1 h2 => ?_]
  · rfl
  · cases hb : s.B (c + 1) j with
    | false => rfl
    | true =>
      obtain ⟨⟨q, i', hq, hi', e, hPq⟩, _⟩ := (hi.free c hc j).1 hb
      have hpg := blk_page hc hi' e
      have hpg2 := blk_page (p := p) hc hib (by rw [Nat.mul_comm p 64])
      have hqp : q = p := by omega
      subst hqp
      have : i = i' := mul_same (w := Sp.cw c) (by omega) (by omega)
      subst this
      omega
theorem frs_rest {s : St} (hi : s.Inv) {c p : Nat} (hc : c < 8) : frs s c (64 * p + Sp.bk c * Sp.cw c) = frs s c (64 * p + 64) := by
  have hle : Sp.bk c * Sp.cw c ≤ 64 := by
    have h8 : c = 0 ∨ c = 1 ∨ c = 2 ∨ c = 3 ∨ c = 4 ∨ c = 5 ∨ c = 6 ∨ c = 7 := by omega
    rcases h8 with rfl | rfl | rfl | rfl | rfl | rfl | rfl | rfl <;> decide
  have hw : 0 < Sp.cw c := by
    have h8 : c = 0 ∨ c = 1 ∨ c = 2 ∨ c = 3 ∨ c = 4 ∨ c = 5 ∨ c = 6 ∨ c = 7 := by omega
    rcases h8 with rfl | rfl | rfl | rfl | rfl | rfl | rfl | rfl <;> decide
  obtain ⟨T, hT⟩ : ∃ T, Sp.bk c * Sp.cw c = T := ⟨_, rfl⟩
  rw [hT] at hle ⊢
  have e : 64 * p + 64 = (64 * p + T) + (64 - T) := by omega
  rw [e, frs_none (64 - T) fun j h1 h2 => ?_]
  cases hb : s.B (c + 1) j with
  | false => rfl
  | true =>
    obtain ⟨⟨q, i', hq, hi', e, hPq⟩, _⟩ := (hi.free c hc j).1 hb
    have hpg := blk_page hc hi' e
    have hqp : q = p := by omega
    subst hqp
    have h3 : i' * Sp.cw c + Sp.cw c ≤ T := by
      rw [← hT, ← Nat.succ_mul]; exact Nat.mul_le_mul_right _ hi'
    omega
theorem ownTo_none {os : List Ob} {x : Nat} : ∀ k, (∀ j, j < k → ¬((os.getD j ob0).at' ≤ x ∧ x < (os.getD j ob0).at' + (Sp.wide (os.getD j ob0).sh.z).toNat)) → ownTo os k x = -1
  | 0, _ => rfl
  | k + 1, h => by
    show (if _ then _ else _) = _
    rw [if_neg (h k (by omega))]
    exact ownTo_none k fun j hj => h j (by omega)
theorem ownTo_some {os : List Ob} {x : Nat} : ∀ k j, j < k → (os.getD j ob0).at' ≤ x → x < (os.getD j ob0).at' + (Sp.wide (os.getD j ob0).sh.z).toNat → 0 ≤ ownTo os k x
  | 0, j, h, _, _ => by omega
  | k + 1, j, h, h1, h2 => by
    unfold ownTo
    split
    · exact Int.natCast_nonneg _
    · by_cases e : j = k
      · subst e; rename_i hn; exact absurd ⟨h1, h2⟩ hn
      · exact ownTo_some k j (by omega) h1 h2
/-- A block's first word is nobody's just where the block is free. -/
theorem own_free {s : St} {os : List Ob} (hi : s.Inv) (ha : Agree s os) {c p i : Nat} (hc : c < 8) (hp : p < s.n) (hP : s.P p = ⟨1, c, 0⟩) (hib : i < Sp.bk c) :
    decide (ownTo os os.length (64 * p + i * Sp.cw c) < 0) = s.B (c + 1) (64 * p + i * Sp.cw c) := by
  have hblk : s.Blk c (64 * p + i * Sp.cw c) := ⟨p, i, hp, hib, by omega, hP⟩
  generalize 64 * p + i * Sp.cw c = x at *
  cases hb : s.B 0 x with
  | true =>
    obtain ⟨o, ho, e⟩ := ha.all x hb
    obtain ⟨j, hj, ej⟩ := List.getElem_of_mem ho
    have h1 := ha.ob hj
    have hf := (hi.obj _ h1.1).1
    unfold St.FineAt at hf
    rw [h1.2] at hf
    have hg : os.getD j ob0 = o := by rw [getD_el _ _ hj, ej]
    have hw := Sp.wide_pos hf.2.2.2.2.1 hf.2.2.2.2.2
    rw [hg] at hw
    have := ownTo_some (os := os) (x := x) os.length j hj (by rw [hg]; omega) (by rw [hg]; omega)
    rw [decide_eq_false (by omega)]
    cases hb2 : s.B (c + 1) x with
    | false => rfl
    | true => have := ((hi.free c hc x).1 hb2).2.1; rw [hb] at this; cases this
  | false =>
    have h1 : s.B (c + 1) x = true := (hi.free c hc x).2 ⟨hblk, hb, fun h => h⟩
    rw [h1, ownTo_none os.length fun j hj hr => ?_]
    · rfl
    · have h2 := ha.ob hj
      have h3 := (hi.obj _ h2.1).2
      rw [h2.2] at h3
      have hne : x ≠ (os.getD j ob0).at' := fun e => by rw [e] at hb; rw [hb] at h2; cases h2.1
      have := h3.apart (.inl ⟨c, hc, hblk⟩) hne
      omega
end Go.Proofs.YtiniadochjeieaaDoor

namespace Go.Proofs.YtiniadochjeieaaDoor
open Go Go.RowKit

/-- A number more at the end of a list; what else lies there is left. -/
theorem int_append2 (W : World) (base : Nat) (zs : List Int) (v : Value) (hr : W.ownsRow base 3 1 v zs.length (zs.map (Value.int .i64))) (hb : base ≤ W.heap.size) (hl : zs.length ≤ 1000000) (x : Int) (N : Nat) (hN : W.heap.size = N) :
    ∃ v' w', (Builtin.append_ #[41, 41] 41 #[v, .slice (some ⟨N, 0, none⟩) 1 1]).run Tryd.prog (W.alloc (.cells #[.int .i64 x] 3)) = .ok v' w' ∧
      w'.ownsRow base 3 1 v' (zs ++ [x]).length ((zs ++ [x]).map (Value.int .i64)) ∧ Only base W.heap.size W w' ∧ W.heap.size < w'.heap.size ∧ (∀ k, k < W.heap.size → v.ownBlock ≠ some k → w'.heap[k]? = W.heap[k]?) ∧ ∀ k, k < W.heap.size → v.ownBlock ≠ some k → v'.ownBlock ≠ some k := by
  subst hN
  obtain ⟨i0, hi, hz0, hz1, hz2⟩ := info_parts Tryd.infoI5
  have hnews : ∀ j u, ([.int .i64 x] : List Value)[j]? = some u → (W.alloc (.cells #[.int .i64 x] 3)).cell? ((⟨W.heap.size, 0, none⟩ : Addr).add j) = some u := fun j u hu => by
      have e : (⟨W.heap.size, 0, none⟩ : Addr).add j = ⟨W.heap.size, j, none⟩ := by unfold Addr.add; split <;> simp_all
      rw [e]
      simp only [World.cell?, heap_alloc_new]
      have hj : j < 1 := by have := (List.getElem?_eq_some_iff.1 hu).1; exact this
      obtain rfl : j = 0 := by omega
      exact hu
  have hones : ∀ u ∈ ([.int .i64 x] : List Value), u.oneCell' = true := by
      intro u hu
      simp only [List.mem_cons, List.not_mem_nil, or_false] at hu
      subst hu; rfl
  obtain ⟨v', w', h1, h2, h3, _⟩ := run_append_own (P := Tryd.prog) (W.alloc (.cells #[.int .i64 x] 3)) base 41 41 3 i0 _ 1 8 Tryd.underlying41 hi hz0 hz1 hz2 rfl (by decide) v zs.length (zs.map (Value.int .i64)) (hr.alloc _)
    ⟨W.heap.size, 0, none⟩ 1 1 [.int .i64 x] rfl hnews hones (by unfold maxLen; omega) (by omega) (by simp; omega)
  have hblk := append_block (P := Tryd.prog) (W.alloc (.cells #[.int .i64 x] 3)) base 41 41 3 i0 _ 1 8 Tryd.underlying41 hi hz0 hz1 hz2 v zs.length (zs.map (Value.int .i64)) (hr.alloc _)
    ⟨W.heap.size, 0, none⟩ 1 1 [.int .i64 x] rfl hnews hones (by unfold maxLen; omega) (by omega) (by omega) h1
  refine ⟨v', w', h1, ?_, ?_, ?_, fun k hk hne => (h3.block k (by simp; omega) (fun e => hne e.symm)).trans (Below.heap_alloc _ _ _ hk), fun k hk hne e => by
    rcases hblk with h | h
    · rw [h] at e; exact hne e
    · rw [h] at e; injection e with e; simp at e; omega⟩
  · rw [List.length_append, List.map_append]
    exact h2
  · have hst : Only base W.heap.size W (W.alloc (.cells #[.int .i64 x] 3)) := (Only.refl _ _ W).alloc _
    exact hst.grown h3 (fun k hk => .inl (hr.lt k hk))
  · have := h3.size
    simp at this
    omega
abbrev fobj (vs : Nat → Value) : Obj := .cells #[vs 0, vs 1, vs 2, vs 3, vs 4, vs 5, vs 6, vs 7] 50 (0, 0)
def updF {α : Type} (f : Nat → α) (c : Nat) (y : α) : Nat → α := fun j => if j = c then y else f j
/-- Eight lists under way. -/
structure Frs (w4 : World) (ob : Nat) (vs : Nat → Value) (ls : Nat → List Int) (W : World) : Prop where
  on : Only ob (ob + 1) w4 W
  box : W.heap[ob]? = some (fobj vs)
  rows : ∀ c, c < 8 → W.ownsRow w4.heap.size 3 1 (vs c) (ls c).length ((ls c).map (Value.int .i64))
  apart : ∀ c c', c < 8 → c' < 8 → c ≠ c' → ∀ g, (vs c).ownBlock = some g → (vs c').ownBlock ≠ some g
  lt : ob < w4.heap.size
theorem Frs.still {w4 W W' : World} {ob : Nat} {vs : Nat → Value} {ls : Nat → List Int} (h : Frs w4 ob vs ls W) (hs : Still W W') : Frs w4 ob vs ls W' :=
  ⟨h.on.andStill hs, at_only hs h.box (.inl (Array.getElem?_eq_some_iff.1 h.box).1), fun c hc => ownsRow_still (h.rows c hc) hs, h.apart, h.lt⟩
theorem Frs.congr {w4 W : World} {ob : Nat} {vs : Nat → Value} {ls ls' : Nat → List Int} (h : Frs w4 ob vs ls W) (he : ∀ c, c < 8 → ls c = ls' c) : Frs w4 ob vs ls' W :=
  ⟨h.on, h.box, fun c hc => by rw [← he c hc]; exact h.rows c hc, h.apart, h.lt⟩
theorem Frs.cell {w4 W : World} {ob : Nat} {vs : Nat → Value} {ls : Nat → List Int} (h : Frs w4 ob vs ls W) (c : Nat) (hc : c < 8) : W.cell? ⟨ob, c, none⟩ = some (vs c) := by
  simp only [World.cell?, h.box]
  have h8 : c = 0 ∨ c = 1 ∨ c = 2 ∨ c = 3 ∨ c = 4 ∨ c = 5 ∨ c = 6 ∨ c = 7 := by omega
  rcases h8 with rfl | rfl | rfl | rfl | rfl | rfl | rfl | rfl <;> rfl
theorem fcells_set (vs : Nat → Value) (c : Nat) (hc : c < 8) (u : Value) : (#[vs 0, vs 1, vs 2, vs 3, vs 4, vs 5, vs 6, vs 7] : Array Value).setIfInBounds c u = #[updF vs c u 0, updF vs c u 1, updF vs c u 2, updF vs c u 3, updF vs c u 4, updF vs c u 5, updF vs c u 6, updF vs c u 7] := by
  have h8 : c = 0 ∨ c = 1 ∨ c = 2 ∨ c = 3 ∨ c = 4 ∨ c = 5 ∨ c = 6 ∨ c = 7 := by omega
  rcases h8 with rfl | rfl | rfl | rfl | rfl | rfl | rfl | rfl <;> rfl
theorem Frs.step {w4 W : World} {ob : Nat} {vs : Nat → Value} {ls : Nat → List Int} (h : Frs w4 ob vs ls W) {c : Nat} (hc : c < 8) (hl : (ls c).length ≤ 1000000) (x : Int) (N : Nat) (hN : W.heap.size = N) :
    ∃ v' w', (Builtin.append_ #[41, 41] 41 #[vs c, .slice (some ⟨N, 0, none⟩) 1 1]).run Tryd.prog (W.alloc (.cells #[.int .i64 x] 3)) = .ok v' w' ∧
      Frs w4 ob (updF vs c v') (updF ls c (ls c ++ [x])) (w'.setCell ⟨ob, c, none⟩ v') ∧ w'.cell? ⟨ob, c, none⟩ = some (vs c) ∧ w'.frozen? ⟨ob, c, none⟩ = false ∧ ob < w'.heap.size := by
  have hsz := h.on.size
  obtain ⟨v', w', happ, hown, ho5, hs5, hk5, hkv⟩ := int_append2 W w4.heap.size (ls c) (vs c) (h.rows c hc) hsz hl x N hN
  have hlt := h.lt
  have hob : ∀ c, c < 8 → (vs c).ownBlock ≠ some ob := fun c hc e => by
    have := ((h.rows c hc).lt ob e).1
    omega
  have hb : w'.heap[ob]? = some (fobj vs) := (hk5 ob (by omega) (hob c hc)).trans h.box
  have hbs : (w'.setCell ⟨ob, c, none⟩ v').heap[ob]? = some (fobj (updF vs c v')) := by
    simp only [World.setCell, Array.getElem?_modify, hb]
    simp only [if_true, Option.map_some, Option.isSome_none, Bool.false_eq_true, if_false]
    rw [fcells_set vs c hc]
  refine ⟨v', w', happ, ⟨?_, hbs, ?_, ?_, hlt⟩, ?_, frozen_of hb c, by omega⟩
  · exact (h.on.trans' ho5 (.inr (Nat.le_refl _)) (.inr (Nat.le_refl _))).setCell (p := ⟨ob, c, none⟩) (.inl ⟨Nat.le_refl _, Nat.lt_succ_self _⟩) _
  · intro j hj
    by_cases e : j = c
    · subst e
      have e1 : updF vs j v' j = v' := if_pos rfl
      have e2 : updF ls j (ls j ++ [x]) j = ls j ++ [x] := if_pos rfl
      rw [e1, e2]
      exact ownsRow_of_block hown fun g hg => Below.heap_setCell _ _ _ _ (by show g ≠ ob; have := (hown.lt g hg).1; omega)
    · have e1 : updF vs c v' j = vs j := if_neg e
      have e2 : updF ls c (ls c ++ [x]) j = ls j := if_neg e
      rw [e1, e2]
      refine ownsRow_of_block (h.rows j hj) fun g hg => ?_
      have hg2 := (h.rows j hj).lt g hg
      rw [Below.heap_setCell _ _ _ _ (by show g ≠ ob; omega)]
      exact hk5 g hg2.2 (fun e3 => h.apart j c hj hc e g hg e3)
  · intro j k hj hk hjk g hg hg2
    by_cases e : j = c
    · have e1 : updF vs c v' j = v' := if_pos e
      have e2 : updF vs c v' k = vs k := if_neg (by omega)
      rw [e1] at hg
      rw [e2] at hg2
      exact hkv g ((h.rows k hk).lt g hg2).2 (fun e3 => h.apart c k hc hk (by omega) g e3 hg2) hg
    · have e1 : updF vs c v' j = vs j := if_neg e
      rw [e1] at hg
      by_cases e2 : k = c
      · have e3 : updF vs c v' k = v' := if_pos e2
        rw [e3] at hg2
        exact hkv g ((h.rows j hj).lt g hg).2 (fun e3 => h.apart j c hj hc e g hg e3) hg2
      · have e3 : updF vs c v' k = vs k := if_neg e2
        rw [e3] at hg2
        exact h.apart j k hj hk hjk g hg hg2
  · simp only [World.cell?, hb]
    have h8 : c = 0 ∨ c = 1 ∨ c = 2 ∨ c = 3 ∨ c = 4 ∨ c = 5 ∨ c = 6 ∨ c = 7 := by omega
    rcases h8 with rfl | rfl | rfl | rfl | rfl | rfl | rfl | rfl <;> rfl
theorem fobj_box {w : World} {B : Nat} {vs : Nat → Value} (h : w.heap[B]? = some (fobj vs)) (y0 y1 y2 y3 y4 y5 y6 y7 : Value) :
    ((((((((w.setCell ⟨B, 0, none⟩ y0).setCell ⟨B, 1, none⟩ y1).setCell ⟨B, 2, none⟩ y2).setCell ⟨B, 3, none⟩ y3).setCell ⟨B, 4, none⟩ y4).setCell ⟨B, 5, none⟩ y5).setCell ⟨B, 6, none⟩ y6).setCell ⟨B, 7, none⟩ y7).heap[B]? = some (.cells #[y0, y1, y2, y3, y4, y5, y6, y7] 50 (0, 0)) := by
  simp only [World.setCell, Array.getElem?_modify, h]
  simp
/-- Where a list of pages lies. -/
theorem pgs_at {w : World} {base n : Nat} {v : Value} {P : Nat → Pg} (h : w.ownsRow base 53 3 v n (pgCells P n).toList) (h0 : 0 < n) :
    ∃ g cp, v = .slice (some ⟨g, 0, none⟩) n cp ∧ base ≤ g ∧ g < w.heap.size ∧ ∀ p, p < n → w.cell? ⟨g, p * 3, none⟩ = some (.int .i64 (P p).k) ∧ w.cell? ⟨g, p * 3 + 1, none⟩ = some (.int .i64 (P p).c) := by
  rcases h.2 with ⟨_, h1⟩ | ⟨g, cap', cur, hv, hb, hg, hnc, hcm, hs, ht⟩
  · omega
  · refine ⟨g, cap', hv, hb, (Array.getElem?_eq_some_iff.1 hg).1, fun p hp => ?_⟩
    have hc : ∀ j u, (pgCells P n).toList[j]? = some u → w.cell? ⟨g, j, none⟩ = some u := fun j u hu => by
      have := h.cells (g := g) (by rw [hv]; rfl) j u hu
      rwa [add_at] at this
    have hat : ∀ j, j < 3 * n → (pgCells P n).toList[j]? = some (.int .i64 (if j % 3 = 0 then (P (j / 3)).k else if j % 3 = 1 then (P (j / 3)).c else (P (j / 3)).r)) := fun j hj => by
      rw [Array.getElem?_toList]
      unfold pgCells
      rw [Array.getElem?_ofFn]
      simp [hj]
    constructor
    · refine hc _ _ ?_
      rw [hat _ (by omega), if_pos (by omega), show p * 3 / 3 = p by omega]
    · refine hc _ _ ?_
      rw [hat _ (by omega), if_neg (by omega), if_pos (by omega), show (p * 3 + 1) / 3 = p by omega]
/-- The free blocks of class c below a, as numbers. -/
def frI (s : St) (a c : Nat) : List Int := (frs s c a).map fun (x : Nat) => (x : Int)
set_option maxRecDepth 100000 in
set_option maxHeartbeats 3200000 in
theorem firsts_any (w : World) (L : Lay) (s : St) (wb : Nat) (os : List Ob) (v : Value) (hW : Wld w L s wb os v) (hl : os.length ≤ 1000000) (Q : Ending → World → Prop)
    (hQ : ∀ (w' : World) (vs : Nat → Value), Still w w' → (∀ c, c < 8 → w'.ownsRow w.heap.size 3 1 (vs c) (frI s (64 * s.n) c).length ((frI s (64 * s.n) c).map (Value.int .i64))) → Q (.returned (.agg #[vs 0, vs 1, vs 2, vs 3, vs 4, vs 5, vs 6, vs 7])) w') :
    Calls Tryd.prog 23 #[.pointer (some ⟨wb, 0, none⟩)] w Q := by
  have HW := Lib.hid hW
  have HQ := Lib.hid hQ
  obtain ⟨B, hB⟩ : ∃ B, w.heap.size = B := ⟨_, rfl⟩
  have hn1 := hW.sp.n1
  have hn2 := hW.sp.n2
  have hgm : ∀ (a : Addr) (x y : Nat) (w : World), (binOp .neq 41 (.slice (some a) x y) (.slice none 0 0)).run Tryd.prog w = .ok (.bool true) w := fun _ _ _ _ => by kernel_rfl
  clear hW hQ
  go_enter Tryd.func23, Tryd.ntmps23
  go_wp2_with fail
  have hz2 : ((w.alloc (fobj fun _ => .slice none 0 0)).alloc (fobj fun _ => .slice none 0 0)).heap.size = B + 2 := by simp [← hB]
  have hb0 : ((w.alloc (fobj fun _ => .slice none 0 0)).alloc (fobj fun _ => .slice none 0 0)).heap[B]? = some (fobj fun _ => .slice none 0 0) := by
    rw [Below.heap_alloc _ _ _ (by simp [hB]), ← hB]; exact heap_alloc_new w _
  have hb1 : ((w.alloc (fobj fun _ => .slice none 0 0)).alloc (fobj fun _ => .slice none 0 0)).heap[B + 1]? = some (fobj fun _ => .slice none 0 0) := by
    have := heap_alloc_new (w.alloc (fobj fun _ => .slice none 0 0)) (fobj fun _ => .slice none 0 0)
    rwa [World.size_alloc, hB] at this
  have hs2 : Still w ((w.alloc (fobj fun _ => .slice none 0 0)).alloc (fobj fun _ => .slice none 0 0)) := ((Only.refl _ _ w).alloc _).alloc _
  generalize (w.alloc (fobj fun _ => .slice none 0 0)).alloc (fobj fun _ => .slice none 0 0) = w2 at *
  refine owner_any w2 L s wb os v (HW.out.still hs2) hl _ (fun w3 hs3 hl3 hw3 => ?_)
  rw [hz2] at hw3 ⊢
  have hW3 := (HW.out.still hs2).still hs3
  have c1 := hW3.c1
  have cl := hW3.lt
  obtain ⟨N, hN⟩ : ∃ N, 64 * s.n = N := ⟨_, rfl⟩
  have HN := Lib.hid hN
  rw [hN] at hw3 ⊢
  have HB0 := Lib.hid (at_only hs3 hb0 (.inl (by omega)))
  have HB1 := Lib.hid (at_only hs3 hb1 (.inl (by omega)))
  have HS3 := Lib.hid (Still.trans hs2 hs3)
  have HW3 := Lib.hid hW3
  have HWD := Lib.hid hw3
  clear hs2 hs3 hb0 hb1 hW3 hw3 hN
  go_wp2_with fail
  refine dump_any w3 L s HW3.out.sp _ (fun v1 v2 v3 w4 hls hs4 => ?_)
  have HLS := Lib.hid hls
  have HS4 := Lib.hid hs4
  clear hls hs4
  obtain ⟨g, cp, hv2, hg1, hg2, hgc⟩ := pgs_at HLS.out.r2 (by omega)
  subst hv2
  obtain ⟨a1, n1, p1, rfl⟩ := own_slice HLS.out.r1
  obtain ⟨a3, n3, p3, rfl⟩ := own_slice HLS.out.r3
  have HGC := Lib.hid hgc
  clear hgc c1 cl
  go_wp2_with fail
  have hdb := heap_alloc_new w4 (.cells #[.slice a1 n1 p1, .slice (some ⟨g, 0, none⟩) s.n cp, .slice a3 n3 p3, .int .i64 (s.hd0 0), .int .i64 (s.hd0 1), .int .i64 (s.hd0 2), .int .i64 (s.hd0 3), .int .i64 (s.hd0 4), .int .i64 (s.hd0 5), .int .i64 (s.hd0 6), .int .i64 (s.hd0 7), .int .i64 s.ser] 48)
  have hs5 : Still w4 (w4.alloc (.cells #[.slice a1 n1 p1, .slice (some ⟨g, 0, none⟩) s.n cp, .slice a3 n3 p3, .int .i64 (s.hd0 0), .int .i64 (s.hd0 1), .int .i64 (s.hd0 2), .int .i64 (s.hd0 3), .int .i64 (s.hd0 4), .int .i64 (s.hd0 5), .int .i64 (s.hd0 6), .int .i64 (s.hd0 7), .int .i64 s.ser] 48)) := (Only.refl _ _ w4).alloc _
  generalize w4.alloc (.cells #[.slice a1 n1 p1, .slice (some ⟨g, 0, none⟩) s.n cp, .slice a3 n3 p3, .int .i64 (s.hd0 0), .int .i64 (s.hd0 1), .int .i64 (s.hd0 2), .int .i64 (s.hd0 3), .int .i64 (s.hd0 4), .int .i64 (s.hd0 5), .int .i64 (s.hd0 6), .int .i64 (s.hd0 7), .int .i64 s.ser] 48) = w5 at *
  obtain ⟨db, hdbe⟩ : ∃ db, w4.heap.size = db := ⟨_, rfl⟩
  rw [hdbe] at hdb ⊢
  have hs35 := Still.trans HS4.out hs5
  have HS5 := Lib.hid (Still.trans HS3.out hs35)
  have HS35 := Lib.hid hs35
  have hd0 : B + 3 ≤ db := by have := HS4.out.size; omega
  have hg0 : B + 3 ≤ g := by omega
  have hwb : wb < B := by rw [← hB]; exact HW.out.lt
  have HW5 := Lib.hid (HW3.out.still hs35)
  have hw5 := HWD.out.kept hs35 (.inl HWD.out.lt)
  have hz5 := (Array.getElem?_eq_some_iff.1 hdb).1
  have HC : Hid (∀ W, Only (B + 1) (B + 1 + 1) w5 W → (W.cell? ⟨wb, 0, none⟩ = some (.int .i64 (s.n : Int)) ∧ wb < W.heap.size) ∧ (W.cell? ⟨db, 1, none⟩ = some (.slice (some ⟨g, 0, none⟩) s.n cp) ∧ db < W.heap.size) ∧ (∀ p, p < s.n → W.cell? ⟨g, p * 3, none⟩ = some (.int .i64 (s.P p).k) ∧ W.cell? ⟨g, p * 3 + 1, none⟩ = some (.int .i64 (s.P p).c)) ∧ g < W.heap.size ∧ (∀ x, x < N → W.cell? ⟨B + 2, x, none⟩ = some (.int .i64 (ownTo os os.length x))) ∧ B + 2 < W.heap.size) := Lib.hid fun W ho => by
    have hz := ho.size
    have h0 : w5.cell? ⟨wb, 0, none⟩ = _ := HW5.out.c0
    have hl5 : wb < w5.heap.size := HW5.out.lt
    have hg5 : g < w5.heap.size := Nat.lt_of_lt_of_le hg2 hs5.size
    refine ⟨⟨(ho.cell (p := ⟨wb, 0, none⟩) hl5 (.inl (by show wb < B + 1; omega))).trans h0, by omega⟩, ⟨(ho.cell (p := ⟨db, 1, none⟩) hz5 (.inr (by show B + 1 + 1 ≤ db; omega))).trans (cell_of (v := .slice (some ⟨g, 0, none⟩) s.n cp) hdb 1 rfl), by omega⟩, fun p hp => ?_, by omega, fun x hx => ?_, by omega⟩
    · have h2 := HGC.out p hp
      have hq : ∀ j, W.cell? ⟨g, j, none⟩ = w4.cell? ⟨g, j, none⟩ := fun j => (ho.cell (p := ⟨g, j, none⟩) hg5 (.inr (by show B + 1 + 1 ≤ g; omega))).trans (hs5.cell (p := ⟨g, j, none⟩) hg2 (.inl hg2))
      rw [hq, hq]
      exact h2
    · rw [ho.cell (p := ⟨B + 2, x, none⟩) hw5.lt (.inr (by show B + 1 + 1 ≤ B + 2; omega))]
      exact hw5.cell x hx
  have hF : Frs w5 (B + 1) (fun _ => .slice none 0 0) (frI s (64 * 0)) w5 :=
    ⟨Only.refl _ _ _, at_only hs35 HB1.out (.inl (Array.getElem?_eq_some_iff.1 HB1.out).1), fun c _ => World.ownsRow_nil _ _ _ _, fun _ _ _ _ _ g hg => (by cases hg), by omega⟩
  have HF := Lib.hid hF
  have hnI : (s.n : Int) ≤ 4096 := by omega
  clear hF hw5 hs5 hs35 hdb HWD HGC
  go_loopw [6] (fun y W => ∃ (p : Nat) (vs : Nat → Value), y = .int .i64 (p : Int) ∧ p ≤ s.n ∧ Frs w5 (B + 1) vs (frI s (64 * p)) W) (fun y _ => s.n + 1 - (intOf y).toNat)
  case atStart => exact ⟨0, _, rfl, Nat.zero_le _, HF.out⟩
  case round =>
    clear HF
    obtain ⟨p, vs, rfl, hp, hfr⟩ := hrel
    have HFR := Lib.hid hfr
    obtain ⟨⟨c0, cl⟩, ⟨c1, dl⟩, hpg, gl, hown, ol⟩ := HC.out _ hfr.on
    have HOWN := Lib.hid hown
    have hp0 : (0 : Int) ≤ (p : Int) := by omega
    by_cases hpn : p < s.n
    · have hpI : (p : Int) < (s.n : Int) := by omega
      obtain ⟨k0, k1⟩ := hpg p hpn
      have hcases : (∃ c : Nat, c < 8 ∧ s.P p = ⟨1, c, 0⟩) ∨ ((s.P p).k ≠ 1) := by
        rcases HW.out.inv.pages p hpn with h | ⟨c, h1, h2⟩ | ⟨h, r, hr, h1, h2⟩
        · right; rw [h]; decide
        · exact .inl ⟨c, h1, h2⟩
        · right
          by_cases e : p = h
          · subst e; rw [hr.2.2.1]; show (2 : Int) ≠ 1; decide
          · rw [hr.2.2.2 p (by omega) (by omega)]; show (3 : Int) ≠ 1; decide
      clear hpg hown hfr
      rcases hcases with ⟨c, hc, hPc⟩ | hk1
      · rw [hPc] at k0 k1
        dsimp only at k0 k1
        have hw : (2 ≤ Sp.cw c ∧ Sp.cw c ≤ 32 ∧ Sp.bk c ≤ 32) ∧ Sp.bk c * Sp.cw c ≤ 64 ∧ 64 < (Sp.bk c + 1) * Sp.cw c := by
          have h8 : c = 0 ∨ c = 1 ∨ c = 2 ∨ c = 3 ∨ c = 4 ∨ c = 5 ∨ c = 6 ∨ c = 7 := by omega
          rcases h8 with rfl | rfl | rfl | rfl | rfl | rfl | rfl | rfl <;> decide
        have hwt : (wr.alloc (.cells #[.int .i64 2, .int .i64 4, .int .i64 6, .int .i64 8, .int .i64 12, .int .i64 16, .int .i64 20, .int .i64 32] 3)).cell? ⟨wr.heap.size, c, none⟩ = some (.int .i64 (Sp.cw c : Int)) := by
          have hb := heap_alloc_new wr (.cells #[.int .i64 2, .int .i64 4, .int .i64 6, .int .i64 8, .int .i64 12, .int .i64 16, .int .i64 20, .int .i64 32] 3)
          simp only [World.cell?, hb]
          have h8 : c = 0 ∨ c = 1 ∨ c = 2 ∨ c = 3 ∨ c = 4 ∨ c = 5 ∨ c = 6 ∨ c = 7 := by omega
          rcases h8 with rfl | rfl | rfl | rfl | rfl | rfl | rfl | rfl <;> rfl
        have d1 : decide ((c : Int) < 0) = false := decide_eq_false (by omega)
        have d2 : decide ((7 : Int) < (c : Int)) = false := decide_eq_false (by omega)
        have d3 : decide (7 < c) = false := decide_eq_false (by omega)
        have hc0 : (0 : Int) ≤ (c : Int) := by omega
        have hc8 : (c : Int) < 8 := by omega
        have HFS : Hid (∀ i, i < Sp.bk c → decide (ownTo os os.length (64 * p + i * Sp.cw c) < 0) = s.B (c + 1) (64 * p + i * Sp.cw c)) := Lib.hid fun i hi => own_free HW.out.inv HW.out.agree hc hpn hPc hi
        have HST : Hid (∀ i, i < Sp.bk c → frs s c (64 * p + (i + 1) * Sp.cw c) = if s.B (c + 1) (64 * p + i * Sp.cw c) then frs s c (64 * p + i * Sp.cw c) ++ [64 * p + i * Sp.cw c] else frs s c (64 * p + i * Sp.cw c)) := Lib.hid fun i hi => frs_step HW.out.inv hc hPc hi
        have HRS : Hid (frs s c (64 * p + Sp.bk c * Sp.cw c) = frs s c (64 * p + 64)) := Lib.hid (frs_rest HW.out.inv hc)
        have HOT : Hid (∀ c', c' < 8 → c' ≠ c → frs s c' (64 * p + 64) = frs s c' (64 * p)) := Lib.hid fun c' h1 h2 => frs_page HW.out.inv h1 (fun e => by rw [hPc] at e; injection e with _ e2 _; omega)
        generalize Sp.cw c = z at *
        generalize Sp.bk c = b at *
        obtain ⟨⟨hz1, hz2, hb2⟩, hbz, hbz2⟩ := hw
        have HBZ := Lib.hid (And.intro hbz hbz2)
        have hsT : Still wr (wr.alloc (.cells #[.int .i64 2, .int .i64 4, .int .i64 6, .int .i64 8, .int .i64 12, .int .i64 16, .int .i64 20, .int .i64 32] 3)) := (Only.refl _ _ wr).alloc _
        have HF1 := Lib.hid (HFR.out.still hsT)
        clear hsT hbz hbz2 hPc
        go_wp2_with fail
        generalize wr.alloc (.cells #[.int .i64 2, .int .i64 4, .int .i64 6, .int .i64 8, .int .i64 12, .int .i64 16, .int .i64 20, .int .i64 32] 3) = wT at *
        clear hwt k0 k1 c0 cl c1 dl gl ol HOWN HFR
        go_loopw [9] (fun y W => ∃ (i : Nat) (vs : Nat → Value), y = .int .i64 (i : Int) ∧ i ≤ b ∧ Frs w5 (B + 1) vs (fun c' => if c' = c then (frs s c (64 * p + i * z)).map (fun (x : Nat) => (x : Int)) else frI s (64 * p) c') W) (fun y _ => b + 1 - (intOf y).toNat)
        case atStart =>
          refine ⟨0, vs, rfl, Nat.zero_le _, HF1.out.congr fun c' _ => ?_⟩
          by_cases e : c' = c
          · rw [if_pos e, Nat.zero_mul, e]; rfl
          · rw [if_neg e]
        case round =>
          clear HF1
          obtain ⟨i, vs, rfl, hi, hfr⟩ := hrel
          have HFR := Lib.hid hfr
          obtain ⟨⟨c0, cl⟩, ⟨c1, dl⟩, hpg, gl, hown, ol⟩ := HC.out _ hfr.on
          have hi0 : (0 : Int) ≤ (i : Int) := by omega
          by_cases hib : i < b
          · have hiI : (i : Int) < (b : Int) := by omega
            obtain ⟨M, hM⟩ : ∃ M : Nat, (i + 1) * z = M := ⟨_, rfl⟩
            obtain ⟨K, hK⟩ : ∃ K : Nat, i * z = K := ⟨_, rfl⟩
            have hM0 : ((i : Int) + 1) * (z : Int) = (M : Int) := by rw [← hM]; simp
            have hK0 : (i : Int) * (z : Int) = (K : Int) := by rw [← hK]; simp
            have hMK : M = K + z := by rw [← hM, ← hK, Nat.succ_mul]
            have hMz : M ≤ 64 := by have h2 : (i + 1) * z ≤ b * z := Nat.mul_le_mul_right _ hib; have := HBZ.out.1; omega
            obtain ⟨x, hx⟩ : ∃ x : Nat, 64 * p + K = x := ⟨_, rfl⟩
            have hx0 : 64 * (p : Int) + (K : Int) = (x : Int) := by omega
            have hM1 : (M : Int) ≤ 64 := by omega
            have hM2 : (0 : Int) ≤ (M : Int) := by omega
            have hK1 : (K : Int) ≤ 64 := by omega
            have hK2 : (0 : Int) ≤ (K : Int) := by omega
            have hx1 : (0 : Int) ≤ (x : Int) := by omega
            have hx2 : (x : Int) < (N : Int) := by have := HN.out; omega
            have dM : decide ((M : Int) ≤ 64) = true := decide_eq_true (by omega)
            have dM2 : decide (M ≤ 64) = true := decide_eq_true (by omega)
            have ho := hown x (by omega)
            have hfs := HFS.out i hib
            have hst := HST.out i hib
            rw [hK, hx] at hfs hst
            rw [hM] at hst
            clear hpg hown hMK hMz
            have hxs := Lib.hid (And.intro hM (And.intro hK hx))
            clear hM hK hx
            generalize ownTo os os.length x = ow at *
            cases hb : s.B (c + 1) x with
            | true =>
              rw [hb] at hfs hst
              have HST1 := Lib.hid hst
              have hlen : ((fun c' => if c' = c then (frs s c (64 * p + i * z)).map (fun (x : Nat) => (x : Int)) else frI s (64 * p) c') c).length ≤ 1000000 := by
                dsimp only
                rw [if_pos rfl, List.length_map, hxs.out.2.1, hxs.out.2.2]
                have := frs_len s c x
                have := HN.out
                omega
              obtain ⟨v', w6, happ, hfr6, y6, f6, l6⟩ := hfr.step hc hlen (x : Int) wr.heap.size rfl
              obtain ⟨b1, m1, q1, hv1⟩ := own_slice (hfr.rows c hc)
              have hv2 := hfr6.rows c hc
              rw [show updF vs c v' c = v' from if_pos rfl] at hv2
              obtain ⟨b2, m2, q2, rfl⟩ := own_slice hv2
              have y5 := hfr.cell c hc
              rw [hv1] at y5 y6 happ
              have l5 := (Array.getElem?_eq_some_iff.1 hfr.box).1
              have HAPP := Lib.hid happ
              have HF6 := Lib.hid hfr6
              clear hst hb hfr hlen happ hfr6 hv1 hv2
              go_wp2_with (at_builtin; refine wpList_append_eq rfl _ _ 41 rfl _ _ _ _ rfl rfl HAPP.out ?_)
              refine ⟨⟨i + 1, _, by go_num, hib, HF6.out.congr fun c' _ => ?_⟩, by simp [intOf]; omega⟩
              by_cases e : c' = c
              · subst e
                rw [show updF _ c' _ c' = _ from if_pos rfl, if_pos rfl, if_pos rfl, hxs.out.1, HST1.out, if_pos rfl, hxs.out.2.1, hxs.out.2.2, List.map_append]
                rfl
              · rw [show updF _ c _ c' = _ from if_neg e, if_neg e, if_neg e]
            | false =>
              rw [hb] at hfs hst
              have HST1 := Lib.hid hst
              clear hst hb hfr
              go_wp2_with fail
              refine ⟨⟨i + 1, vs, by go_num, hib, HFR.out.congr fun c' _ => ?_⟩, by simp [intOf]; omega⟩
              by_cases e : c' = c
              · subst e
                rw [if_pos rfl, if_pos rfl, hxs.out.1, HST1.out, if_neg (by decide), hxs.out.2.1, hxs.out.2.2]
              · rw [if_neg e, if_neg e]
          · obtain rfl : i = b := by omega
            obtain ⟨M, hM⟩ : ∃ M : Nat, (i + 1) * z = M := ⟨_, rfl⟩
            have hM0 : ((i : Int) + 1) * (z : Int) = (M : Int) := by rw [← hM]; simp
            have hM1 : (M : Int) ≤ 2000 := by have h2 : (i + 1) * z ≤ 33 * 32 := Nat.mul_le_mul (by omega) (by omega); omega
            have hM2 : (0 : Int) ≤ (M : Int) := by omega
            have dM : decide ((M : Int) ≤ 64) = false := decide_eq_false (by have := HBZ.out.2; omega)
            have dM2 : decide (M ≤ 64) = false := decide_eq_false (by have := HBZ.out.2; omega)
            clear hM
            clear hpg hown hfr
            go_wp2_with fail
            refine ⟨⟨p + 1, vs, by go_num, hpn, HFR.out.congr fun c' hc' => ?_⟩, by simp [intOf]; omega⟩
            show _ = (frs s c' (64 * (p + 1))).map (fun (x : Nat) => (x : Int))
            rw [show 64 * (p + 1) = 64 * p + 64 by omega]
            by_cases e : c' = c
            · subst e
              rw [if_pos rfl, HRS.out]
            · rw [if_neg e, HOT.out c' hc' e]
              rfl
      · have e1 : ((s.P p).k != 1) = true := by simpa using hk1
        have e2 : ((s.P p).k == 1) = false := by simpa using hk1
        have HFN : Hid (Frs w5 (B + 1) vs (frI s (64 * (p + 1))) wr) := Lib.hid (HFR.out.congr fun c hc => by
          unfold frI
          rw [show 64 * (p + 1) = 64 * p + 64 by omega, frs_page HW.out.inv hc (fun e => hk1 (by rw [e]))])
        clear hk1
        generalize (s.P p).k = kk at *
        generalize (s.P p).c = cc at *
        go_wp2_with fail
        exact ⟨⟨p + 1, vs, by go_num, hpn, HFN.out⟩, by simp [intOf]; omega⟩
    · obtain rfl : p = s.n := by omega
      have hb0 : wr.heap[B]? = some (fobj fun _ => .slice none 0 0) := at_only hfr.on (at_only (HS35.out) HB0.out (.inl (Array.getElem?_eq_some_iff.1 HB0.out).1)) (.inl (Nat.lt_succ_self _))
      have x0 := cell_of (v := .slice none 0 0) hb0 0 rfl
      have f0 := frozen_of hb0 0
      have x1 := cell_of (v := .slice none 0 0) hb0 1 rfl
      have f1 := frozen_of hb0 1
      have x2 := cell_of (v := .slice none 0 0) hb0 2 rfl
      have f2 := frozen_of hb0 2
      have x3 := cell_of (v := .slice none 0 0) hb0 3 rfl
      have f3 := frozen_of hb0 3
      have x4 := cell_of (v := .slice none 0 0) hb0 4 rfl
      have f4 := frozen_of hb0 4
      have x5 := cell_of (v := .slice none 0 0) hb0 5 rfl
      have f5 := frozen_of hb0 5
      have x6 := cell_of (v := .slice none 0 0) hb0 6 rfl
      have f6 := frozen_of hb0 6
      have x7 := cell_of (v := .slice none 0 0) hb0 7 rfl
      have f7 := frozen_of hb0 7
      have lb0 := (Array.getElem?_eq_some_iff.1 hb0).1
      have lb1 := (Array.getElem?_eq_some_iff.1 hfr.box).1
      obtain ⟨b0, m0, q0, hv0⟩ := own_slice (hfr.rows 0 (by omega))
      have y0 := hfr.cell 0 (by omega)
      rw [hv0] at y0
      obtain ⟨b1, m1, q1, hv1⟩ := own_slice (hfr.rows 1 (by omega))
      have y1 := hfr.cell 1 (by omega)
      rw [hv1] at y1
      obtain ⟨b2, m2, q2, hv2⟩ := own_slice (hfr.rows 2 (by omega))
      have y2 := hfr.cell 2 (by omega)
      rw [hv2] at y2
      obtain ⟨b3, m3, q3, hv3⟩ := own_slice (hfr.rows 3 (by omega))
      have y3 := hfr.cell 3 (by omega)
      rw [hv3] at y3
      obtain ⟨b4, m4, q4, hv4⟩ := own_slice (hfr.rows 4 (by omega))
      have y4 := hfr.cell 4 (by omega)
      rw [hv4] at y4
      obtain ⟨b5, m5, q5, hv5⟩ := own_slice (hfr.rows 5 (by omega))
      have y5 := hfr.cell 5 (by omega)
      rw [hv5] at y5
      obtain ⟨b6, m6, q6, hv6⟩ := own_slice (hfr.rows 6 (by omega))
      have y6 := hfr.cell 6 (by omega)
      rw [hv6] at y6
      obtain ⟨b7, m7, q7, hv7⟩ := own_slice (hfr.rows 7 (by omega))
      have y7 := hfr.cell 7 (by omega)
      rw [hv7] at y7
      have HB := Lib.hid hb0
      have HV := Lib.hid (And.intro hv0 (And.intro hv1 (And.intro hv2 (And.intro hv3 (And.intro hv4 (And.intro hv5 (And.intro hv6 hv7)))))))
      clear hpg hown hfr hb0 hv0 hv1 hv2 hv3 hv4 hv5 hv6 hv7
      go_wp2_with fail
      obtain ⟨g0, g1, g2, g3, g4, g5, g6, g7⟩ := HV.out
      have hbx := fobj_box HB.out (.slice b0 m0 q0) (.slice b1 m1 q1) (.slice b2 m2 q2) (.slice b3 m3 q3) (.slice b4 m4 q4) (.slice b5 m5 q5) (.slice b6 m6 q6) (.slice b7 m7 q7)
      refine bodyPost_ret (results_cell_row rfl _ _ B _ _ _ _ rfl hbx Tryd.underlying50 rfl (by kernel_rfl)) rfl ?_
      have hfin := HQ.out ((((((((wr.setCell ⟨B, 0, none⟩ (.slice b0 m0 q0)).setCell ⟨B, 1, none⟩ (.slice b1 m1 q1)).setCell ⟨B, 2, none⟩ (.slice b2 m2 q2)).setCell ⟨B, 3, none⟩ (.slice b3 m3 q3)).setCell ⟨B, 4, none⟩ (.slice b4 m4 q4)).setCell ⟨B, 5, none⟩ (.slice b5 m5 q5)).setCell ⟨B, 6, none⟩ (.slice b6 m6 q6)).setCell ⟨B, 7, none⟩ (.slice b7 m7 q7)) vs ?_ (fun c hc => ?_)
      · rw [g0, g1, g2, g3, g4, g5, g6, g7] at hfin
        exact hfin
      · have hst : Still w wr := HS5.out.trans' HFR.out.on (.inr (by omega)) (.inr (by omega))
        exact ((((((((hst.setCell (p := ⟨B, 0, none⟩) (.inr (by show w.heap.size ≤ B; omega)) _).setCell (p := ⟨B, 1, none⟩) (.inr (by show w.heap.size ≤ B; omega)) _).setCell (p := ⟨B, 2, none⟩) (.inr (by show w.heap.size ≤ B; omega)) _).setCell (p := ⟨B, 3, none⟩) (.inr (by show w.heap.size ≤ B; omega)) _).setCell (p := ⟨B, 4, none⟩) (.inr (by show w.heap.size ≤ B; omega)) _).setCell (p := ⟨B, 5, none⟩) (.inr (by show w.heap.size ≤ B; omega)) _).setCell (p := ⟨B, 6, none⟩) (.inr (by show w.heap.size ≤ B; omega)) _).setCell (p := ⟨B, 7, none⟩) (.inr (by show w.heap.size ≤ B; omega)) _)
      · have hr := HFR.out.rows c hc
        refine ownsRow_le (ownsRow_of_block (hr) fun g hg => ?_) (by have := HS5.out.size; omega)
        have := (hr.lt g hg).1
        repeat rw [Below.heap_setCell _ _ _ _ (by show g ≠ B; omega)]
end Go.Proofs.YtiniadochjeieaaDoor

namespace Go.Proofs.YtiniadochjeieaaDoor
open Go Go.RowKit

/-- A list of numbers in memory. -/
theorem ints_at {w : World} {base n : Nat} {v : Value} {zs : List Int} (h : w.ownsRow base 3 1 v n (zs.map (Value.int .i64))) :
    ∃ a cp, v = .slice a n cp ∧ ∀ j, j < n → j < zs.length → ∃ g, a = some ⟨g, 0, none⟩ ∧ base ≤ g ∧ g < w.heap.size ∧ w.cell? ⟨g, j, none⟩ = some (.int .i64 (zs.getD j 0)) := by
  rcases h.2 with ⟨h1, h2⟩ | ⟨g, cap', cur, hv, hb, hg, hnc, hcm, hs, ht⟩
  · exact ⟨_, _, by rw [h1, h2], fun j hj => by omega⟩
  · refine ⟨_, _, hv, fun j hj hj2 => ⟨g, rfl, hb, (Array.getElem?_eq_some_iff.1 hg).1, ?_⟩⟩
    have := h.cells (g := g) (by rw [hv]; rfl) j (.int .i64 (zs.getD j 0)) (by simp [hj2])
    rwa [add_at] at this
/-- One of the first k objects begins at a. -/
def toTo (os : List Ob) (a : Nat) : Nat → Bool
  | 0 => false
  | k + 1 => toTo os a k || decide ((os.getD k ob0).at' = a)
theorem toTo_iff (os : List Ob) (a : Nat) : ∀ k, toTo os a k = true ↔ ∃ j, j < k ∧ (os.getD j ob0).at' = a
  | 0 => by
    constructor
    · intro h; cases h
    · rintro ⟨j, hj, _⟩; omega
  | k + 1 => by
    have ih := toTo_iff os a k
    show (_ || _) = true ↔ _
    rw [Bool.or_eq_true, ih, decide_eq_true_eq]
    constructor
    · rintro (⟨j, h1, h2⟩ | h)
      · exact ⟨j, by omega, h2⟩
      · exact ⟨k, by omega, h⟩
    · rintro ⟨j, h1, h2⟩
      by_cases e : j = k
      · subst e; exact .inr h2
      · exact .inl ⟨j, by omega, h2⟩
theorem toTo_all {s : St} {os : List Ob} (ha : Agree s os) (a : Nat) : toTo os a os.length = s.B 0 a := by
  cases hb : s.B 0 a with
  | true =>
    obtain ⟨o, ho, e⟩ := ha.all a hb
    obtain ⟨j, hj, ej⟩ := List.getElem_of_mem ho
    exact (toTo_iff os a _).2 ⟨j, hj, by rw [getD_el _ _ hj, ej, e]⟩
  | false =>
    cases ht : toTo os a os.length with
    | false => rfl
    | true =>
      obtain ⟨j, hj, e⟩ := (toTo_iff os a _).1 ht
      have := (ha.ob hj).1
      rw [e, hb] at this
      cases this
/-- a is one of the first k numbers. -/
def inTo (zs : List Int) (a : Int) : Nat → Bool
  | 0 => false
  | k + 1 => inTo zs a k || decide (zs.getD k 0 = a)
theorem inTo_iff (zs : List Int) (a : Int) : ∀ k, k ≤ zs.length → (inTo zs a k = true ↔ a ∈ zs.take k)
  | 0, _ => by
    constructor
    · intro h; cases h
    · intro h; rw [List.take_zero] at h; cases h
  | k + 1, h => by
    have ih := inTo_iff zs a k (by omega)
    show (_ || _) = true ↔ _
    rw [Bool.or_eq_true, ih, decide_eq_true_eq, List.take_add_one, List.mem_append]
    have e : zs[k]? = some (zs.getD k 0) := by simp [Nat.lt_of_lt_of_le (Nat.lt_succ_self k) h]
    rw [e]
    simp only [Option.toList_some, List.mem_singleton]
    exact ⟨fun h => h.imp id Eq.symm, fun h => h.imp id Eq.symm⟩
theorem inTo_frs (s : St) (c N a : Nat) (ha : a < N) : inTo (frI s N c) (a : Int) (frI s N c).length = s.B (c + 1) a := by
  have h1 := inTo_iff (frI s N c) (a : Int) _ (Nat.le_refl _)
  rw [List.take_length] at h1
  have h2 : (a : Int) ∈ frI s N c ↔ s.B (c + 1) a = true := by
    unfold frI
    rw [List.mem_map]
    constructor
    · rintro ⟨x, hx, e⟩
      have : x = a := by omega
      subst this
      exact ((mem_frs s c x N).1 hx).2
    · intro h
      exact ⟨a, (mem_frs s c a N).2 ⟨ha, h⟩, rfl⟩
  cases hb : s.B (c + 1) a with
  | true => rw [h1, h2]; exact hb
  | false =>
    cases hi : inTo (frI s N c) (a : Int) (frI s N c).length with
    | false => rfl
    | true => have := h2.1 (h1.1 hi); rw [hb] at this; cases this
/-- a is an object's first word, or a free block's of the first c classes. -/
def St.tolTo (s : St) (a : Nat) : Nat → Bool
  | 0 => s.B 0 a
  | c + 1 => s.tolTo a c || s.B (c + 1) a
theorem St.tolTo_iff (s : St) (a : Nat) : ∀ c, s.tolTo a c = true ↔ s.B 0 a = true ∨ ∃ c', c' < c ∧ s.B (c' + 1) a = true
  | 0 => ⟨.inl, fun h => h.resolve_right fun ⟨c', h, _⟩ => by omega⟩
  | c + 1 => by
    show (_ || _) = true ↔ _
    rw [Bool.or_eq_true, s.tolTo_iff a c]
    constructor
    · rintro ((h | ⟨c', h1, h2⟩) | h)
      · exact .inl h
      · exact .inr ⟨c', by omega, h2⟩
      · exact .inr ⟨c, by omega, h⟩
    · rintro (h | ⟨c', h1, h2⟩)
      · exact .inl (.inl h)
      · by_cases e : c' = c
        · subst e; exact .inr h2
        · exact .inl (.inr ⟨c', by omega, h2⟩)
/-- The space with one word turned. -/
def St.turn (s : St) (a : Nat) (x : Int) : St := { s with W := setW s.W a x }
theorem St.turn_back (s : St) (a : Nat) (x : Int) : (s.turn a x).turn a (s.W a) = s := by
  unfold St.turn
  have : setW (setW s.W a x) a (s.W a) = s.W := by
    funext y
    unfold setW
    by_cases h : y = a
    · rw [if_pos h, h]
    · rw [if_neg h, if_neg h]
  dsimp only
  rw [this]
theorem St.turn_fine {s : St} (h : s.Fine) (a : Nat) (x : Int) : (s.turn a x).Fine := h
theorem St.turn_W (s : St) (a : Nat) (x : Int) (y : Nat) : (s.turn a x).W y = if y = a then x else s.W y := rfl
/-- Just the turned word is told. -/
theorem St.InvX.turned {s : St} (h : s.Inv) (a : Nat) (x : Int) (i : Nat) : (s.turn a x).badTo 8 i ↔ i = a ∧ s.tolTo a 8 = true ∧ x ≠ s.W a := by
  have hW := s.turn_W a x i
  constructor
  · rintro (⟨h1, h2⟩ | ⟨c, hc, h1, h2⟩)
    · have h1 : s.B 0 i = true := h1
      have h3 := h.hdr i h1
      have h2 : (s.turn a x).W i ≠ s.hd i := h2
      rw [hW] at h2
      by_cases e : i = a
      · rw [if_pos e] at h2
        refine ⟨e, (s.tolTo_iff a 8).2 (.inl (by rw [← e]; exact h1)), fun e2 => h2 (by rw [e2, ← e, h3])⟩
      · rw [if_neg e] at h2; exact absurd h3 h2
    · have h1 : s.B (c + 1) i = true := h1
      have h3 := h.lnk c hc i h1
      have h2 : (s.turn a x).W i ≠ s.link c i := h2
      rw [hW] at h2
      by_cases e : i = a
      · rw [if_pos e] at h2
        refine ⟨e, (s.tolTo_iff a 8).2 (.inr ⟨c, hc, by rw [← e]; exact h1⟩), fun e2 => h2 (by rw [e2, ← e, h3])⟩
      · rw [if_neg e] at h2; exact absurd h3 h2
  · rintro ⟨rfl, h1, h2⟩
    rw [if_pos rfl] at hW
    rcases (s.tolTo_iff i 8).1 h1 with h3 | ⟨c, hc, h3⟩
    · refine .inl ⟨h3, ?_⟩
      rw [hW]
      show x ≠ s.hd i
      rw [← h.hdr i h3]; exact h2
    · refine .inr ⟨c, hc, h3, ?_⟩
      rw [hW]
      show x ≠ s.link c i
      rw [← h.lnk c hc i h3]; exact h2
theorem St.InvX.turnedLeast {s : St} (h : s.Inv) (a : Nat) (x : Int) {m : Nat} (ha : a < 64 * s.n) (hm : Least ((s.turn a x).badTo 8) (64 * s.n) m) :
    (if m = 64 * s.n then (-1 : Int) else (m : Int)) = if s.tolTo a 8 = true ∧ x ≠ s.W a then (a : Int) else -1 := by
  by_cases hc : s.tolTo a 8 = true ∧ x ≠ s.W a
  · rw [if_pos hc]
    have hb : (s.turn a x).badTo 8 a := (h.turned a x a).2 ⟨rfl, hc⟩
    have : m = a := by
      rcases Nat.lt_trichotomy m a with h1 | h1 | h1
      · exact ((h.turned a x m).1 (hm.2.2 (by omega))).1
      · exact h1
      · exact absurd hb (hm.2.1 a h1)
    rw [this, if_neg (by omega)]
  · rw [if_neg hc]
    have : m = 64 * s.n := by
      rcases Nat.lt_or_ge m (64 * s.n) with h1 | h1
      · exact absurd ((h.turned a x m).1 (hm.2.2 h1)).2 hc
      · have := hm.1; omega
    rw [if_pos this]
theorem St.has_nat (s : St) (a : Nat) : s.has (a : Int) = s.B 0 a := by unfold St.has; rw [decide_eq_true (by omega), Int.toNat_natCast, Bool.true_and]
theorem St.InvX.turnedChk {s : St} (h : s.Inv) (a : Nat) (x : Int) : (s.turn a x).chk (a : Int) = if s.B 0 a = true then (if x = s.W a then (0, 0) else (21, (a : Int))) else (22, 0) := by
  have hh : (s.turn a x).has (a : Int) = s.B 0 a := (s.turn a x).has_nat a
  have hd : s.B 0 a = true → (s.turn a x).hd (a : Int) = s.W a := fun hb => (h.hdr a hb).symm
  have hw : (s.turn a x).W a = x := by rw [s.turn_W, if_pos rfl]
  generalize s.turn a x = t at *
  unfold St.chk
  rw [hh, Int.toNat_natCast, hw]
  cases hb : s.B 0 a with
  | false => rw [if_neg (by decide), if_neg (by decide)]
  | true => rw [if_pos rfl, if_pos rfl, hd hb]
/-- Read of a word, whatever it is. -/
theorem read_any (w : World) (L : Lay) (s : St) (h : SpaceAt w L s) (a i : Nat) (hf : s.Fine) (hi : ∀ a : Nat, s.B 0 a = true → a + (s.sh a).z.toNat ≤ 64 * s.n) (ha : a < 64 * s.n) :
    Calls Tryd.prog 37 #[.pointer (some ⟨L.sb, 0, none⟩), .int .i64 (a : Int), .int .i64 (i : Int)] w fun e w' => (∃ v, e = .returned (.tuple #[.int .i64 v, faultV (s.wrd a i).1 (s.wrd a i).2])) ∧ Still w w' := by
  have hn2 := h.n2
  by_cases hb : (s.wrd a i).1 = 0
  · have hh : s.wrd (a : Int) (i : Int) = (0, 0) ∧ a + i < 64 * s.n := by
      unfold St.wrd at hb ⊢
      by_cases hc : (s.chk (a : Int)).1 = 0
      · rw [if_pos hc] at hb ⊢
        by_cases hz : ((i : Int) < 1 ∨ (s.sh a).z ≤ i)
        · rw [if_pos hz] at hb; cases hb
        · rw [if_neg hz]
          refine ⟨rfl, ?_⟩
          have hB : s.B 0 a = true := by
            unfold St.chk at hc
            rw [s.has_nat] at hc
            cases hb : s.B 0 a with
            | true => rfl
            | false => rw [hb] at hc; cases hc
          have := hi a hB
          omega
      · rw [if_neg hc] at hb; exact absurd hb hc
    refine (read_ok w L s h a i hf hh.1 hh.2).mono ?_
    rintro e w' ⟨rfl, hs⟩
    rw [hh.1]
    exact ⟨⟨_, rfl⟩, hs⟩
  · refine (read_bad w L s h a i (wf_of (by omega)) hf hb).mono ?_
    rintro e w' ⟨rfl, hs⟩
    exact ⟨⟨_, rfl⟩, hs⟩
end Go.Proofs.YtiniadochjeieaaDoor
