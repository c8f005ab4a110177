/-
  The walk of world.takes.
-/
import Derived.Test.YtfbcdmhmpfijjaaGreatDoorQO
import Derived.Shelf.Abstract
namespace Go.Proofs.YtfbcdmhmpfijjaaGreatDoor
open Go Go.RowKit

theorem below_le {B B' : Nat} {w w' : World} (h : Below B w w') (hle : B' ≤ B) : Below B' w w' := ⟨h.os, h.tape, h.output, h.size, fun k hk => h.block k (by omega)⟩
theorem Agree.put {s s1 : St} {os : List Ob} (h : Agree s os) {z : Int} {a : Nat} (ht : s.Took s1 z a) (k t : Int) : Agree (s1.put a k z t) (os ++ [⟨a, ⟨k, z, if Sp.numbered k then s1.ser + 1 else 0, t⟩⟩]) := by
  refine ⟨fun o ho => ?_, fun x hx => ?_, ?_⟩
  · rcases List.mem_append.1 ho with ho | ho
    · obtain ⟨h1, h2⟩ := h.here o ho
      have hne : o.at' ≠ a := fun e => by rw [e, ht.new] at h1; cases h1
      rw [put_has, if_neg hne, ht.b0, put_sh, if_neg (by omega)]
      refine ⟨h1, ?_⟩
      rw [← h2]
      unfold St.sh
      rw [ht.S]
    · obtain rfl := List.mem_singleton.1 ho
      rw [put_has, if_pos rfl, put_sh, if_pos rfl]
      exact ⟨rfl, rfl⟩
  · rw [put_has] at hx
    by_cases e : x = a
    · exact ⟨_, List.mem_append.2 (.inr (List.mem_singleton.2 rfl)), e.symm⟩
    · rw [if_neg e, ht.b0] at hx
      obtain ⟨o, ho, h1⟩ := h.all x hx
      exact ⟨o, List.mem_append.2 (.inl ho), h1⟩
  · rw [List.map_append]
    refine List.nodup_append.2 ⟨h.once, by simp, fun x hx y hy e => ?_⟩
    obtain ⟨o, ho, rfl⟩ := List.mem_map.1 hx
    have hy : y = a := by simpa using hy
    have := (h.here o ho).1
    rw [e, hy, ht.new] at this; cases this

/-- What a step of a law may have turned: the world's block, the space, the list's own block. -/
structure Frm (wb : Nat) (L : Lay) (w : World) (v : Value) (w' : World) (v' : Value) : Prop where
  b : Below wb w w'
  k : ∀ k, k < w.heap.size → k ≠ wb → (k < L.lo ∨ L.hi ≤ k) → v.ownBlock ≠ some k → w'.heap[k]? = w.heap[k]? ∧ v'.ownBlock ≠ some k
theorem Frm.refl (wb : Nat) (L : Lay) (w : World) (v : Value) : Frm wb L w v w v := ⟨Below.refl _ _, fun _ _ _ _ h => ⟨rfl, h⟩⟩
theorem Frm.trans {wb : Nat} {L : Lay} {w w1 w2 : World} {v v1 v2 : Value} (h : Frm wb L w v w1 v1) (g : Frm wb L w1 v1 w2 v2) : Frm wb L w v w2 v2 :=
  ⟨h.b.trans g.b, fun k h1 h2 h3 h4 => by
    obtain ⟨a1, a2⟩ := h.k k h1 h2 h3 h4
    obtain ⟨b1, b2⟩ := g.k k (Nat.lt_of_lt_of_le h1 h.b.size) h2 h3 a2
    exact ⟨b1.trans a1, b2⟩⟩
theorem Frm.still {wb : Nat} {L : Lay} {w w' : World} (v : Value) (h : Still w w') (hb : wb < w.heap.size) : Frm wb L w v w' v :=
  ⟨below_le h.below (Nat.le_of_lt hb), fun k h1 _ _ h4 => ⟨h.block k h1 (.inl h1), h4⟩⟩
theorem Frm.space {wb : Nat} {L : Lay} {w w' : World} (v : Value) (h : Only L.lo L.hi w w') (hb : wb < L.lo) (hl : L.lo ≤ w.heap.size) : Frm wb L w v w' v :=
  ⟨below_le (Only.below h hl) (Nat.le_of_lt hb), fun k h1 _ h3 h4 => ⟨h.block k h1 h3, h4⟩⟩
theorem Frm.own {wb : Nat} {L : Lay} (w : World) (v : Value) (hb : wb < w.heap.size) (o : Nat) (u : Value) : Frm wb L w v (w.setCell ⟨wb, o, none⟩ u) v :=
  ⟨(only_cell w wb o u).below (Nat.le_of_lt hb), fun _k _ h2 _ h4 => ⟨Below.heap_setCell _ _ _ _ h2, h4⟩⟩
theorem Frm.box {wb : Nat} {L : Lay} {w w' : World} {v v' : Value} (h : Frm wb L w v w' v') {b : Nat} (hb : w.heap.size ≤ b) (hw : wb < w.heap.size) (o : Nat) (u : Value) : Frm wb L w v (w'.setCell ⟨b, o, none⟩ u) v' :=
  ⟨h.b.setCell (p := ⟨b, o, none⟩) (by show wb ≤ b; omega) u, fun k e1 e2 e3 e4 => ⟨(Below.heap_setCell _ _ _ _ (by show k ≠ b; omega)).trans (h.k k e1 e2 e3 e4).1, (h.k k e1 e2 e3 e4).2⟩⟩
section
variable {P : Program} (w : World)
/-- Where a list that was appended to lies. -/
theorem append_block (base : Nat) (t ty e : TypeId) (i : TypeInfo) (z : Value) (size bytes : Nat) (ht : P.underlying t = some (.slice e)) (hi : P.info? e = some i) (hz : i.zero = some z)
    (hsize : i.size = size) (hby : i.bytes = bytes) (v : Value) (n : Nat) (xs : List Value) (hown : w.ownsRow base e size v n xs)
    (a : Addr) (m c : Nat) (news : List Value) (hl : news.length = m * size) (hnews : ∀ j u, news[j]? = some u → w.cell? (a.add j) = some u) (h1 : ∀ u ∈ news, u.oneCell' = true)
    (h63 : n + m ≤ maxLen) (hbytes : (n + m) * bytes ≤ 140737488355328) (hm : 0 < m) {v' : Value} {w' : World} (hr : (Builtin.append_ #[t, t] ty #[v, .slice (some a) m c]).run P w = .ok v' w') :
    v'.ownBlock = v.ownBlock ∨ v'.ownBlock = some w.heap.size := by
  subst hsize
  subst hby
  have hsmall : n + m ≤ 9223372036854775807 := by simp only [maxLen] at h63; omega
  rcases hown.2 with ⟨rfl, rfl⟩ | ⟨g, cap, cur, rfl, hbg, hg, hnc, hcm, hcs, htake⟩
  · have h2 := run_append_nil (P := P) w t ty e i z ht hi hz a m c news hl hnews hm (by omega) (by have hb := hbytes; simp only [Nat.zero_add] at hb; omega)
    rw [hr] at h2
    injection h2 with h2 _
    rw [h2]; exact .inr rfl
  · by_cases hroom : n + m ≤ cap
    · have hfit : n * i.size + news.length ≤ cur.size := by rw [hl, hcs, ← Nat.add_mul]; exact Nat.mul_le_mul_right _ hroom
      have h2 := run_append_room (P := P) w t ty e i ht hi g n cap cur hg a m c news hl hnews h1 hroom hfit
      rw [hr] at h2
      injection h2 with h2 _
      rw [h2]; exact .inl rfl
    · have holds : ∀ j u, xs[j]? = some u → w.cell? ((⟨g, 0, none⟩ : Addr).add j) = some u := hown.cells (g := g) rfl
      have h2 := run_append_grow (P := P) w t ty e i z ht hi hz ⟨g, 0, none⟩ n cap xs hown.1 holds a m c news hl hnews (by omega) (by omega) (growslice_fits (by omega) hbytes)
      rw [hr] at h2
      injection h2 with h2 _
      rw [h2]; exact .inr rfl
end
theorem Tryz.infoBlk : (Tryz.prog.info? 95).map (fun i => (i.zero, i.size, i.bytes)) = some (some (.agg #[.int .i64 0, .int .i64 0, .int .i64 0, .int .i64 0, .int .i64 0]), 5, 40) := by kernel_rfl
/-- One object more at the end of a list of the laws' own. -/
theorem ob_append (W : World) (base : Nat) (os : List Ob) (v : Value) (hr : W.ownsRow base 95 5 v os.length (obCells os)) (hb : base ≤ W.heap.size) (hl : os.length ≤ 1000000) (o : Ob) :
    ∃ v' w', (Builtin.append_ #[62, 62] 62 #[v, .slice (some ⟨W.heap.size, 0, none⟩) 1 1]).run Tryz.prog (W.alloc (.cells #[.int .i64 (o.at' : Int), .int .i64 o.sh.k, .int .i64 o.sh.z, .int .i64 o.sh.s, .int .i64 o.sh.t] 95)) = .ok v' w' ∧
      w'.ownsRow base 95 5 v' (os ++ [o]).length (obCells (os ++ [o])) ∧ Only base W.heap.size W w' ∧ W.heap.size < w'.heap.size ∧ (∀ k, k < W.heap.size → v.ownBlock ≠ some k → w'.heap[k]? = W.heap[k]?) ∧ ∀ k, k < W.heap.size → v.ownBlock ≠ some k → v'.ownBlock ≠ some k := by
  obtain ⟨i0, hi, hz0, hz1, hz2⟩ := info_parts Tryz.infoBlk
  have hnews : ∀ j u, o.cells[j]? = some u → (W.alloc (.cells #[.int .i64 (o.at' : Int), .int .i64 o.sh.k, .int .i64 o.sh.z, .int .i64 o.sh.s, .int .i64 o.sh.t] 95)).cell? ((⟨W.heap.size, 0, none⟩ : Addr).add j) = some u := fun j u hu => by
      have e : (⟨W.heap.size, 0, none⟩ : Addr).add j = ⟨W.heap.size, j, none⟩ := by unfold Addr.add; split <;> simp_all
      rw [e]
      simp only [World.cell?, heap_alloc_new]
      have hj : j < 5 := by have := (List.getElem?_eq_some_iff.1 hu).1; exact this
      have : j = 0 ∨ j = 1 ∨ j = 2 ∨ j = 3 ∨ j = 4 := by omega
      rcases this with rfl | rfl | rfl | rfl | rfl <;> exact hu
  have hones : ∀ u ∈ o.cells, u.oneCell' = true := by
      intro u hu
      unfold Ob.cells at hu
      simp only [List.mem_cons, List.not_mem_nil, or_false] at hu
      rcases hu with rfl | rfl | rfl | rfl | rfl <;> rfl
  obtain ⟨v', w', h1, h2, h3, _⟩ := run_append_own (P := Tryz.prog) (W.alloc (.cells #[.int .i64 (o.at' : Int), .int .i64 o.sh.k, .int .i64 o.sh.z, .int .i64 o.sh.s, .int .i64 o.sh.t] 95)) base 62 62 95 i0 _ 5 40 Tryz.underlying62 hi hz0 hz1 hz2 rfl (by decide) v os.length (obCells os) (hr.alloc _)
    ⟨W.heap.size, 0, none⟩ 1 1 o.cells rfl hnews hones (by unfold maxLen; omega) (by omega) (by simp; omega)
  have hblk := append_block (P := Tryz.prog) (W.alloc (.cells #[.int .i64 (o.at' : Int), .int .i64 o.sh.k, .int .i64 o.sh.z, .int .i64 o.sh.s, .int .i64 o.sh.t] 95)) base 62 62 95 i0 _ 5 40 Tryz.underlying62 hi hz0 hz1 hz2 v os.length (obCells os) (hr.alloc _)
    ⟨W.heap.size, 0, none⟩ 1 1 o.cells rfl hnews hones (by unfold maxLen; omega) (by omega) (by omega) h1
  refine ⟨v', w', h1, ?_, ?_, ?_, fun k hk hne => (h3.block k (by simp; omega) (fun e => hne e.symm)).trans (Below.heap_alloc _ _ _ hk), fun k hk hne e => by
    rcases hblk with h | h
    · rw [h] at e; exact hne e
    · rw [h] at e; injection e with e; simp at e; omega⟩
  · rw [List.length_append]
    have e : obCells (os ++ [o]) = obCells os ++ o.cells := by unfold obCells; simp
    rw [e]
    exact h2
  · have hst : Only base W.heap.size W (W.alloc (.cells #[.int .i64 (o.at' : Int), .int .i64 o.sh.k, .int .i64 o.sh.z, .int .i64 o.sh.s, .int .i64 o.sh.t] 95)) := (Only.refl _ _ W).alloc _
    exact hst.grown h3 (fun k hk => .inl (hr.lt k hk))
  · have := h3.size
    simp at this
    omega
end Go.Proofs.YtfbcdmhmpfijjaaGreatDoor
