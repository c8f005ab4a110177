/-
  What SpaceWide leans on.
-/
import Derived.Test.YtiniadochjeieaaDoorQN34
namespace Go.Proofs.YtiniadochjeieaaDoor
open Go Go.RowKit

/-- The world of SpaceWide: the last serial is not counted there. -/
structure Wdw (w0 w : World) (L : Lay) (s : St) (wb : Nat) (os : List Ob) (v : Value) : Prop where
  pos : 0 < wb
  lo : wb < L.lo
  wlo : w0.heap.size ≤ wb
  head : w.heap[wb]? = some (.cells #[.int .i64 (s.n : Int), .pointer (some ⟨L.sb, 0, none⟩), v, .int .i64 0] 30 (0, 0))
  row : w.ownsRow L.hi 34 5 v os.length (obCells os)
  sp : SpaceAt w L s
  inv : s.Inv
  agree : Agree s os
  ser : s.ser = (os.length : Int)
  sers : ∀ o ∈ os, 0 < o.sh.s
  acts : s.acts ≤ 2 * os.length
  below : Below w0.heap.size w0 w
theorem Wdw.c0 {w0 w : World} {L : Lay} {s : St} {wb : Nat} {os : List Ob} {v : Value} (h : Wdw w0 w L s wb os v) : w.cell? ⟨wb, 0, none⟩ = some (.int .i64 (s.n : Int)) := cell_of h.head 0 rfl
theorem Wdw.c1 {w0 w : World} {L : Lay} {s : St} {wb : Nat} {os : List Ob} {v : Value} (h : Wdw w0 w L s wb os v) : w.cell? ⟨wb, 1, none⟩ = some (.pointer (some ⟨L.sb, 0, none⟩)) := cell_of h.head 1 rfl
theorem Wdw.c2 {w0 w : World} {L : Lay} {s : St} {wb : Nat} {os : List Ob} {v : Value} (h : Wdw w0 w L s wb os v) : w.cell? ⟨wb, 2, none⟩ = some v := cell_of h.head 2 rfl
theorem Wdw.f {w0 w : World} {L : Lay} {s : St} {wb : Nat} {os : List Ob} {v : Value} (h : Wdw w0 w L s wb os v) (j : Nat) : w.frozen? ⟨wb, j, none⟩ = false := frozen_of h.head j
theorem Wdw.lt {w0 w : World} {L : Lay} {s : St} {wb : Nat} {os : List Ob} {v : Value} (h : Wdw w0 w L s wb os v) : wb < w.heap.size := (Array.getElem?_eq_some_iff.1 h.head).1
theorem Wdw.loLe {w0 w : World} {L : Lay} {s : St} {wb : Nat} {os : List Ob} {v : Value} (h : Wdw w0 w L s wb os v) : L.lo ≤ w.heap.size := by
  have := h.sp.top
  have := h.sp.ok.inn 0 (by omega)
  omega
theorem Wdw.still {w0 w w' : World} {L : Lay} {s : St} {wb : Nat} {os : List Ob} {v : Value} (h : Wdw w0 w L s wb os v) (ho : Still w w') : Wdw w0 w' L s wb os v :=
  ⟨h.pos, h.lo, h.wlo, (ho.block _ h.lt (.inl h.lt)).trans h.head, ownsRow_of_block h.row fun g hg => by have := (h.row.lt g hg); exact ho.block g this.2 (.inl this.2), h.sp.still ho, h.inv, h.agree, h.ser, h.sers, h.acts, h.below.trans (below_le ho.below h.below.size)⟩
/-- The space is turned, and no object came. -/
theorem Wdw.turned {w0 w w' : World} {L : Lay} {s t : St} {wb : Nat} {os : List Ob} {v : Value} (h : Wdw w0 w L s wb os v) (ho : Only L.lo L.hi w w') (hs : SpaceAt w' L t) (hn : t.n = s.n) (hse : t.ser = s.ser) (hac : t.acts ≤ s.acts) (hi : t.Inv) (ha : Agree t os) : Wdw w0 w' L t wb os v :=
  ⟨h.pos, h.lo, h.wlo, by rw [hn]; exact (ho.block _ h.lt (.inl h.lo)).trans h.head, ownsRow_of_block h.row fun g hg => by have := (h.row.lt g hg); exact ho.block g this.2 (.inr this.1), hs, hi, ha, hse.trans h.ser, h.sers, Nat.le_trans hac h.acts, h.below.trans (below_le (ho.below h.loLe) (by have := h.wlo; have := h.lo; omega))⟩
/-- An object came, and is not in the list yet. -/
structure Wdh (w0 w : World) (L : Lay) (s : St) (wb : Nat) (os : List Ob) (o : Ob) (v : Value) : Prop where
  pos : 0 < wb
  lo : wb < L.lo
  wlo : w0.heap.size ≤ wb
  head : w.heap[wb]? = some (.cells #[.int .i64 (s.n : Int), .pointer (some ⟨L.sb, 0, none⟩), v, .int .i64 0] 30 (0, 0))
  row : w.ownsRow L.hi 34 5 v os.length (obCells os)
  sp : SpaceAt w L s
  inv : s.Inv
  agree : Agree s (os ++ [o])
  ser : s.ser = ((os ++ [o]).length : Int)
  sers : ∀ p ∈ os ++ [o], 0 < p.sh.s
  acts : s.acts ≤ 2 * (os ++ [o]).length
  below : Below w0.heap.size w0 w
theorem Wdh.lt {w0 w : World} {L : Lay} {s : St} {wb : Nat} {os : List Ob} {o : Ob} {v : Value} (h : Wdh w0 w L s wb os o v) : wb < w.heap.size := (Array.getElem?_eq_some_iff.1 h.head).1
theorem Wdw.put {w0 w w' : World} {L : Lay} {s s1 : St} {wb : Nat} {os : List Ob} {v : Value} (h : Wdw w0 w L s wb os v) {z t : Int} {a : Nat} (ht : s.Took s1 z a) (ho : Only L.lo L.hi w w') (hs : SpaceAt w' L (s1.put a 3 z t)) (hi : (s1.put a 3 z t).Inv) :
    Wdh w0 w' L (s1.put a 3 z t) wb os ⟨a, ⟨3, z, (os.length : Int) + 1, t⟩⟩ v := by
  have hser : s1.ser + 1 = (os.length : Int) + 1 := by rw [ht.ser, h.ser]
  refine ⟨h.pos, h.lo, h.wlo, ?_, ownsRow_of_block h.row fun g hg => by have := (h.row.lt g hg); exact ho.block g this.2 (.inr this.1), hs, hi, ?_, ?_, fun p hp => ?_, ?_, h.below.trans (below_le (ho.below h.loLe) (by have := h.wlo; have := h.lo; omega))⟩
  · rw [show (s1.put a 3 z t).n = s.n from ht.n]; exact (ho.block _ h.lt (.inl h.lo)).trans h.head
  · have := h.agree.put ht 3 t
    rw [show Sp.numbered 3 = true from rfl, if_pos rfl, hser] at this
    exact this
  · show (if Sp.numbered 3 then s1.ser + 1 else s1.ser) = _
    rw [if_pos (by decide), hser, List.length_append]
    rfl
  · rcases List.mem_append.1 hp with hp | hp
    · exact h.sers p hp
    · rw [List.mem_singleton.1 hp]
      show 0 < (os.length : Int) + 1
      omega
  · show s1.acts + 2 ≤ _
    rw [ht.acts, List.length_append]
    have := h.acts
    show s.acts + 2 ≤ 2 * (os.length + 1)
    omega
theorem Wdh.still {w0 w w' : World} {L : Lay} {s : St} {wb : Nat} {os : List Ob} {o : Ob} {v : Value} (h : Wdh w0 w L s wb os o v) (ho : Still w w') : Wdh w0 w' L s wb os o v :=
  ⟨h.pos, h.lo, h.wlo, (ho.block _ h.lt (.inl h.lt)).trans h.head, ownsRow_of_block h.row fun g hg => by have := (h.row.lt g hg); exact ho.block g this.2 (.inl this.2), h.sp.still ho, h.inv, h.agree, h.ser, h.sers, h.acts, h.below.trans (below_le ho.below h.below.size)⟩
/-- The list is brought up. -/
theorem Wdh.up {w0 W w : World} {L : Lay} {s : St} {wb : Nat} {os : List Ob} {o : Ob} {v v' : Value} (h : Wdh w0 W L s wb os o v) (ho : Only L.hi W.heap.size W w) (hr : w.ownsRow L.hi 34 5 v' (os ++ [o]).length (obCells (os ++ [o]))) :
    Wdw w0 (w.setCell ⟨wb, 2, none⟩ v') L s wb (os ++ [o]) v' := by
  have hlh : L.lo ≤ L.hi := by have := h.sp.ok.inn 0 (by omega); omega
  have hb : w.heap[wb]? = _ := (ho.block wb h.lt (.inl (by have := h.lo; omega))).trans h.head
  have hsp : SpaceAt w L s := h.sp.kept ho (.inl (Nat.le_refl _)) (by have := h.sp.ok.lo0; omega)
  refine ⟨h.pos, h.lo, h.wlo, ?_, ownsRow_of_block hr fun g hg => ?_, hsp.kept (only_cell _ _ _ _) (.inr h.lo) h.pos, h.inv, h.agree, h.ser, h.sers, h.acts, ?_⟩
  · simp only [World.setCell, Array.getElem?_modify, hb]
    simp
  · have := (hr.lt g hg).1
    have := h.lo
    exact Below.heap_setCell _ _ _ _ (by show g ≠ wb; omega)
  · have h1 := h.wlo
    have h2 := h.lo
    exact (h.below.trans (below_le (ho.below h.sp.top) (by omega))).trans (below_le ((only_cell w wb 2 v').below (by have := (Array.getElem?_eq_some_iff.1 hb).1; omega)) h1)
/-- Each so manieth number below n. -/
def ksTo (k n : Nat) : List Nat := (List.range n).filter (fun x => x % k == 0)
theorem mem_ksTo (k n x : Nat) : x ∈ ksTo k n ↔ x < n ∧ x % k = 0 := by
  unfold ksTo
  rw [List.mem_filter, List.mem_range]
  simp
theorem ksTo_succ (k n : Nat) : ksTo k (n + 1) = if n % k = 0 then ksTo k n ++ [n] else ksTo k n := by
  unfold ksTo
  rw [List.range_succ, List.filter_append]
  by_cases h : n % k = 0
  · rw [if_pos h]; simp [h]
  · rw [if_neg h]; simp [h]
theorem ksTo_none {k n : Nat} : ∀ d, (∀ x, n ≤ x → x < n + d → x % k ≠ 0) → ksTo k (n + d) = ksTo k n
  | 0, _ => rfl
  | d + 1, h => by
    rw [show n + (d + 1) = (n + d) + 1 by omega, ksTo_succ, if_neg (h _ (by omega) (by omega))]
    exact ksTo_none d fun x h1 h2 => h x h1 (by omega)
theorem mult_next {k i x : Nat} (_hk : 1 ≤ k) (hi : i % k = 0) (h1 : i < x) (h2 : x < i + k) : x % k ≠ 0 := by
  intro e
  have d1 := Nat.div_add_mod i k
  have d2 := Nat.div_add_mod x k
  rw [hi] at d1
  rw [e] at d2
  have h3 : k * (i / k) < k * (x / k) := by omega
  have h4 : i / k < x / k := Nat.lt_of_mul_lt_mul_left h3
  have h5 : k * (i / k + 1) ≤ k * (x / k) := Nat.mul_le_mul_left _ h4
  rw [Nat.mul_add] at h5
  omega
theorem ksTo_step {k n i : Nat} (hk : 1 ≤ k) (hi : i % k = 0) (hin : i < n) : ksTo k (min (i + k) n) = ksTo k i ++ [i] := by
  have e : min (i + k) n = (i + 1) + (min (i + k) n - (i + 1)) := by omega
  rw [e, ksTo_none _ fun x h1 h2 => mult_next hk hi (by omega) (by omega), ksTo_succ, if_pos hi]
theorem leftTo_none (os : List Ob) (ks : List Nat) {i : Nat} : ∀ d, (∀ x, i ≤ x → x < i + d → x ∉ ks) → leftTo os ks (i + d) = leftTo os ks i
  | 0, _ => rfl
  | d + 1, h => by
    show (if i + d ∈ ks then _ else _) = _
    rw [if_neg (h _ (by omega) (by omega))]
    exact leftTo_none os ks d fun x h1 h2 => h x h1 (by omega)
theorem leftTo_step (os : List Ob) {k n i : Nat} (hk : 1 ≤ k) (hi : i % k = 0) (hin : i < n) : leftTo os (ksTo k n) (min (i + k) n) = leftTo os (ksTo k n) i ++ [os.getD i ob0] := by
  have e : min (i + k) n = (i + 1) + (min (i + k) n - (i + 1)) := by omega
  rw [e, leftTo_none _ _ _ fun x h1 h2 hx => mult_next hk hi (by omega) (by omega) ((mem_ksTo k n x).1 hx).2]
  show (if i ∈ ksTo k n then _ else _) = _
  rw [if_pos ((mem_ksTo k n i).2 ⟨hin, hi⟩)]
/-- Rows of two kinds of elements do not share a block. -/
theorem own_apart {w : World} {b1 b2 : Nat} {e1 e2 : TypeId} {s1 s2 : Nat} {v1 v2 : Value} {n1 n2 : Nat} {x1 x2 : List Value} (h1 : w.ownsRow b1 e1 s1 v1 n1 x1) (h2 : w.ownsRow b2 e2 s2 v2 n2 x2) (hne : e1 ≠ e2) : ∀ g, v1.ownBlock = some g → v2.ownBlock ≠ some g := by
  intro g hg
  rcases h2.2 with ⟨rfl, _⟩ | ⟨g', cap, cur, rfl, _, hgg, _⟩
  · intro h; cases h
  · intro h
    obtain rfl : g' = g := by injection h
    exact own_ne h1 hgg (fun e => hne e.symm) g' hg rfl
/-- Objects of one size more, behind the keeping. -/
structure Fl2 (w0 : World) (L : Lay) (n : Nat) (z : Int) (M A C i : Nat) (s : St) (W : World) : Prop where
  sp : SpaceAt W L s
  inv : s.Inv
  nn : s.n = n
  hold : s.hold z + i = M
  cnt : Bm.cnt (s.B 0) 0 (64 * n) = C + i
  acts : s.acts ≤ A + 2 * i
  on : Only L.lo L.hi w0 W
theorem Fl2.still {w0 : World} {L : Lay} {n : Nat} {z : Int} {M A C i : Nat} {s : St} {W W' : World} (h : Fl2 w0 L n z M A C i s W) (hs : Still W W') : Fl2 w0 L n z M A C i s W' :=
  ⟨h.sp.still hs, h.inv, h.nn, h.hold, h.cnt, h.acts, h.on.andStill hs⟩
theorem Fl2.put {w0 : World} {L : Lay} {n : Nat} {z : Int} {M A C i : Nat} {s s1 : St} {W W' : World} {a : Nat} (h : Fl2 w0 L n z M A C i s W) (hz : 1 ≤ z ∧ z ≤ 1024) (e : s.take z = (s1, (a : Int), 0, 0)) (ht : s.Took s1 z a) {t : Int} (hs : SpaceAt W' L (s1.put a 3 z t)) (hi : (s1.put a 3 z t).Inv) (ho : Only L.lo L.hi W W') :
    i < M ∧ Fl2 w0 L n z M A C (i + 1) (s1.put a 3 z t) W' := by
  have h1 := (h.inv.holdTake h.sp.lowle hz).2 _ _ e
  have h2 := h.hold
  have hn : s1.n = n := ht.n.trans h.nn
  refine ⟨by omega, hs, hi, hn, ?_, ?_, ?_, h.on.trans ho⟩
  · rw [St.hold_put]; omega
  · have hb : (s1.put a 3 z t).B 0 = setS (s1.B 0) a true := rfl
    have hlt := ht.fit.lt.2
    rw [hb, ht.b0, cnt_add ht.new (by rw [← hn]; exact hlt), h.cnt]
    omega
  · show s1.acts + 2 ≤ _
    have := h.acts
    rw [ht.acts]
    omega
theorem Fl2.full {w0 : World} {L : Lay} {n : Nat} {z : Int} {M A C i : Nat} {s : St} {W W' : World} (h : Fl2 w0 L n z M A C i s W) (hz : 1 ≤ z ∧ z ≤ 1024) {l : Nat} (e : s.take z = ({ s with low := l }, 0, 20, 0)) (hs : SpaceAt W' L { s with low := l }) (hi : ({ s with low := l } : St).Inv) (ho : Only L.lo L.hi W W') :
    i = M ∧ Fl2 w0 L n z M A C i { s with low := l } W' := by
  have h1 := (h.inv.holdTake h.sp.lowle hz).1 _ e
  have h2 := h.hold
  exact ⟨by omega, hs, hi, h.nn, h.hold, h.cnt, h.acts, h.on.trans ho⟩
theorem row_one2 {W : World} {b : Nat} {z : Int} {T : TypeId} (h : W.heap[b]? = some (.cells #[.int .i64 z] T (0, 0))) (hz : (Lit.int .i64 z).wf = true) : IsRowI W (some ⟨b, 0, none⟩) 1 1 fun _ => z :=
  ⟨by omega, fun i hi => ⟨⟨b, 0, none⟩, rfl, by
    obtain rfl : i = 0 := by omega
    rw [add_at]
    exact cell_of (v := .int .i64 z) h 0 rfl, hz⟩⟩
end Go.Proofs.YtiniadochjeieaaDoor
