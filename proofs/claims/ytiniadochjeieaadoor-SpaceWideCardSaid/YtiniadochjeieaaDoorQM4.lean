/-
  The walk of world.takes.
-/
import Derived.Test.YtiniadochjeieaaDoorQO
import Derived.Shelf.Abstract
namespace Go.Proofs.YtiniadochjeieaaDoor
open Go Go.RowKit

theorem Wld.only {w w' : World} {L : Lay} {s t : St} {wb : Nat} {os : List Ob} {v : Value} (h : Wld w L s wb os v) (ho : Only L.lo L.hi w w') (_ : SpaceAt w' L t) : w'.heap[wb]? = w.heap[wb]? ∧ w'.ownsRow L.hi 34 5 v os.length (obCells os) := by
  refine ⟨ho.block _ h.lt (.inl h.lo), ownsRow_of_block h.row fun g hg => ?_⟩
  have := (h.row.lt g hg)
  exact ho.block g this.2 (.inr this.1)
theorem Wld.still {w w' : World} {L : Lay} {s : St} {wb : Nat} {os : List Ob} {v : Value} (h : Wld w L s wb os v) (ho : Still w w') : Wld w' L s wb os v := by
  refine ⟨h.pos, h.lo, (ho.block _ h.lt (.inl h.lt)).trans h.head, ownsRow_of_block h.row fun g hg => ?_, h.sp.still ho, h.inv, h.agree⟩
  have := (h.row.lt g hg)
  exact ho.block g this.2 (.inl this.2)

theorem Wld.loLe {w : World} {L : Lay} {s : St} {wb : Nat} {os : List Ob} {v : Value} (h : Wld w L s wb os v) : L.lo ≤ w.heap.size := by
  have := h.sp.top
  have := h.sp.ok.inn 0 (by omega)
  omega
theorem below_le {B B' : Nat} {w w' : World} (h : Below B w w') (hle : B' ≤ B) : Below B' w w' := ⟨h.os, h.tape, h.output, h.size, fun k hk => h.block k (by omega)⟩
theorem Wld.turned {w w' : World} {L : Lay} {s t : St} {wb : Nat} {os : List Ob} {v : Value} (h : Wld w L s wb os v) (hh : w'.heap[wb]? = w.heap[wb]? ∧ w'.ownsRow L.hi 34 5 v os.length (obCells os)) (hs : SpaceAt w' L t) (hn : t.n = s.n) (hse : t.ser = s.ser) (hi : t.Inv) (ha : Agree t os) : Wld w' L t wb os v :=
  ⟨h.pos, h.lo, by rw [hh.1, hn, hse]; exact h.head, hh.2, hs, hi, ha⟩
theorem Agree.put {s s1 : St} {os : List Ob} (h : Agree s os) {z : Int} {a : Nat} (ht : s.Took s1 z a) (k t : Int) : Agree (s1.put a k z t) (os ++ [⟨a, ⟨k, z, if Sp.numbered k then s1.ser + 1 else 0, t⟩⟩]) := by
  refine ⟨fun o ho => ?_, fun x hx => ?_, ?_⟩
  · rcases List.mem_append.1 ho with ho | ho
    · obtain ⟨h1, h2⟩ := h.here o ho
      have hne : o.at' ≠ a := fun e => by rw [e, ht.new] at h1; cases h1
      rw [put_has, if_neg hne, ht.b0, put_sh, if_neg (by omega)]
      refine ⟨h1, ?_⟩
      rw [← h2]
      unfold St.sh
      rw [ht.S]
    · obtain rfl := List.mem_singleton.1 ho
      rw [put_has, if_pos rfl, put_sh, if_pos rfl]
      exact ⟨rfl, rfl⟩
  · rw [put_has] at hx
    by_cases e : x = a
    · exact ⟨_, List.mem_append.2 (.inr (List.mem_singleton.2 rfl)), e.symm⟩
    · rw [if_neg e, ht.b0] at hx
      obtain ⟨o, ho, h1⟩ := h.all x hx
      exact ⟨o, List.mem_append.2 (.inl ho), h1⟩
  · rw [List.map_append]
    refine List.nodup_append.2 ⟨h.once, by simp, fun x hx y hy e => ?_⟩
    obtain ⟨o, ho, rfl⟩ := List.mem_map.1 hx
    have hy : y = a := by simpa using hy
    have := (h.here o ho).1
    rw [e, hy, ht.new] at this; cases this

/-- What a step of a law may have turned: the world's block, the space, the list's own block. -/
structure Frm (wb : Nat) (L : Lay) (w : World) (v : Value) (w' : World) (v' : Value) : Prop where
  b : Below wb w w'
  k : ∀ k, k < w.heap.size → k ≠ wb → (k < L.lo ∨ L.hi ≤ k) → v.ownBlock ≠ some k → w'.heap[k]? = w.heap[k]? ∧ v'.ownBlock ≠ some k
theorem Frm.refl (wb : Nat) (L : Lay) (w : World) (v : Value) : Frm wb L w v w v := ⟨Below.refl _ _, fun _ _ _ _ h => ⟨rfl, h⟩⟩
theorem Frm.trans {wb : Nat} {L : Lay} {w w1 w2 : World} {v v1 v2 : Value} (h : Frm wb L w v w1 v1) (g : Frm wb L w1 v1 w2 v2) : Frm wb L w v w2 v2 :=
  ⟨h.b.trans g.b, fun k h1 h2 h3 h4 => by
    obtain ⟨a1, a2⟩ := h.k k h1 h2 h3 h4
    obtain ⟨b1, b2⟩ := g.k k (Nat.lt_of_lt_of_le h1 h.b.size) h2 h3 a2
    exact ⟨b1.trans a1, b2⟩⟩
theorem Frm.still {wb : Nat} {L : Lay} {w w' : World} (v : Value) (h : Still w w') (hb : wb < w.heap.size) : Frm wb L w v w' v :=
  ⟨below_le h.below (Nat.le_of_lt hb), fun k h1 _ _ h4 => ⟨h.block k h1 (.inl h1), h4⟩⟩
theorem Frm.space {wb : Nat} {L : Lay} {w w' : World} (v : Value) (h : Only L.lo L.hi w w') (hb : wb < L.lo) (hl : L.lo ≤ w.heap.size) : Frm wb L w v w' v :=
  ⟨below_le (Only.below h hl) (Nat.le_of_lt hb), fun k h1 _ h3 h4 => ⟨h.block k h1 h3, h4⟩⟩
theorem Frm.own {wb : Nat} {L : Lay} (w : World) (v : Value) (hb : wb < w.heap.size) (o : Nat) (u : Value) : Frm wb L w v (w.setCell ⟨wb, o, none⟩ u) v :=
  ⟨(only_cell w wb o u).below (Nat.le_of_lt hb), fun _k _ h2 _ h4 => ⟨Below.heap_setCell _ _ _ _ h2, h4⟩⟩
theorem Frm.swap {wb : Nat} {L : Lay} {w w' : World} {v v' v1 : Value} (h : Frm wb L w v w' v1) (h1 : ∀ k, k < w.heap.size → v'.ownBlock ≠ some k) : Frm wb L w v w' v' :=
  ⟨h.b, fun k e1 e2 e3 e4 => ⟨(h.k k e1 e2 e3 e4).1, h1 k e1⟩⟩
theorem Frm.box {wb : Nat} {L : Lay} {w w' : World} {v v' : Value} (h : Frm wb L w v w' v') {b : Nat} (hb : w.heap.size ≤ b) (hw : wb < w.heap.size) (o : Nat) (u : Value) : Frm wb L w v (w'.setCell ⟨b, o, none⟩ u) v' :=
  ⟨h.b.setCell (p := ⟨b, o, none⟩) (by show wb ≤ b; omega) u, fun k e1 e2 e3 e4 => ⟨(Below.heap_setCell _ _ _ _ (by show k ≠ b; omega)).trans (h.k k e1 e2 e3 e4).1, (h.k k e1 e2 e3 e4).2⟩⟩
theorem Frm.app {wb : Nat} {L : Lay} {w w' : World} {v v' : Value} (h : Only L.hi w.drew.heap.size w.drew w') (hb : wb < L.hi) (hl : L.hi ≤ w.heap.size)
    (h1 : ∀ k, k < w.drew.heap.size → v.ownBlock ≠ some k → w'.heap[k]? = w.drew.heap[k]?) (h2 : ∀ k, k < w.drew.heap.size → v.ownBlock ≠ some k → v'.ownBlock ≠ some k) : Frm wb L w v w' v' :=
  ⟨below_le (Only.below ((show Only L.hi w.drew.heap.size w w.drew from (Only.refl _ _ w).drew).trans h) hl) (Nat.le_of_lt hb), fun k e1 _ _ e4 => ⟨h1 k e1 e4, h2 k e1 e4⟩⟩
section
variable {P : Program} (w : World)
/-- Where a list that was appended to lies. -/
theorem append_block (base : Nat) (t ty e : TypeId) (i : TypeInfo) (z : Value) (size bytes : Nat) (ht : P.underlying t = some (.slice e)) (hi : P.info? e = some i) (hz : i.zero = some z)
    (hsize : i.size = size) (hby : i.bytes = bytes) (v : Value) (n : Nat) (xs : List Value) (hown : w.ownsRow base e size v n xs)
    (a : Addr) (m c : Nat) (news : List Value) (hl : news.length = m * size) (hnews : ∀ j u, news[j]? = some u → w.cell? (a.add j) = some u) (h1 : ∀ u ∈ news, u.oneCell' = true)
    (h63 : n + m ≤ maxLen) (hbytes : (n + m) * bytes ≤ 140737488355328) (hm : 0 < m) {v' : Value} {w' : World} (hr : (Builtin.append_ #[t, t] ty #[v, .slice (some a) m c]).run P w = .ok v' w') :
    v'.ownBlock = v.ownBlock ∨ v'.ownBlock = some w.heap.size := by
  subst hsize
  subst hby
  have hsmall : n + m ≤ 9223372036854775807 := by simp only [maxLen] at h63; omega
  rcases hown.2 with ⟨rfl, rfl⟩ | ⟨g, cap, cur, rfl, hbg, hg, hnc, hcm, hcs, htake⟩
  · have h2 := run_append_nil (P := P) w t ty e i z ht hi hz a m c news hl hnews hm (by omega) (by have hb := hbytes; simp only [Nat.zero_add] at hb; omega)
    rw [hr] at h2
    injection h2 with h2 _
    rw [h2]; exact .inr rfl
  · by_cases hroom : n + m ≤ cap
    · have hfit : n * i.size + news.length ≤ cur.size := by rw [hl, hcs, ← Nat.add_mul]; exact Nat.mul_le_mul_right _ hroom
      have h2 := run_append_room (P := P) w t ty e i ht hi g n cap cur hg a m c news hl hnews h1 hroom hfit
      rw [hr] at h2
      injection h2 with h2 _
      rw [h2]; exact .inl rfl
    · have holds : ∀ j u, xs[j]? = some u → w.cell? ((⟨g, 0, none⟩ : Addr).add j) = some u := hown.cells (g := g) rfl
      have h2 := run_append_grow (P := P) w t ty e i z ht hi hz ⟨g, 0, none⟩ n cap xs hown.1 holds a m c news hl hnews (by omega) (by omega) (growslice_fits (by omega) hbytes)
      rw [hr] at h2
      injection h2 with h2 _
      rw [h2]; exact .inr rfl
end
theorem Tryd.infoBlk : (Tryd.prog.info? 34).map (fun i => (i.zero, i.size, i.bytes)) = some (some (.agg #[.int .i64 0, .int .i64 0, .int .i64 0, .int .i64 0, .int .i64 0]), 5, 40) := by kernel_rfl
/-- One object more at the end of a list of the laws' own. -/
theorem ob_append (W : World) (base : Nat) (os : List Ob) (v : Value) (hr : W.ownsRow base 34 5 v os.length (obCells os)) (hb : base ≤ W.heap.size) (hl : os.length ≤ 1000000) (o : Ob) :
    ∃ v' w', (Builtin.append_ #[28, 28] 28 #[v, .slice (some ⟨W.heap.size, 0, none⟩) 1 1]).run Tryd.prog (W.alloc (.cells #[.int .i64 (o.at' : Int), .int .i64 o.sh.k, .int .i64 o.sh.z, .int .i64 o.sh.s, .int .i64 o.sh.t] 34)) = .ok v' w' ∧
      w'.ownsRow base 34 5 v' (os ++ [o]).length (obCells (os ++ [o])) ∧ Only base W.heap.size W w' ∧ W.heap.size < w'.heap.size ∧ (∀ k, k < W.heap.size → v.ownBlock ≠ some k → w'.heap[k]? = W.heap[k]?) ∧ ∀ k, k < W.heap.size → v.ownBlock ≠ some k → v'.ownBlock ≠ some k := by
  obtain ⟨i0, hi, hz0, hz1, hz2⟩ := info_parts Tryd.infoBlk
  have hnews : ∀ j u, o.cells[j]? = some u → (W.alloc (.cells #[.int .i64 (o.at' : Int), .int .i64 o.sh.k, .int .i64 o.sh.z, .int .i64 o.sh.s, .int .i64 o.sh.t] 34)).cell? ((⟨W.heap.size, 0, none⟩ : Addr).add j) = some u := fun j u hu => by
      have e : (⟨W.heap.size, 0, none⟩ : Addr).add j = ⟨W.heap.size, j, none⟩ := by unfold Addr.add; split <;> simp_all
      rw [e]
      simp only [World.cell?, heap_alloc_new]
      have hj : j < 5 := by have := (List.getElem?_eq_some_iff.1 hu).1; exact this
      have : j = 0 ∨ j = 1 ∨ j = 2 ∨ j = 3 ∨ j = 4 := by omega
      rcases this with rfl | rfl | rfl | rfl | rfl <;> exact hu
  have hones : ∀ u ∈ o.cells, u.oneCell' = true := by
      intro u hu
      unfold Ob.cells at hu
      simp only [List.mem_cons, List.not_mem_nil, or_false] at hu
      rcases hu with rfl | rfl | rfl | rfl | rfl <;> rfl
  obtain ⟨v', w', h1, h2, h3, _⟩ := run_append_own (P := Tryd.prog) (W.alloc (.cells #[.int .i64 (o.at' : Int), .int .i64 o.sh.k, .int .i64 o.sh.z, .int .i64 o.sh.s, .int .i64 o.sh.t] 34)) base 28 28 34 i0 _ 5 40 Tryd.underlying28 hi hz0 hz1 hz2 rfl (by decide) v os.length (obCells os) (hr.alloc _)
    ⟨W.heap.size, 0, none⟩ 1 1 o.cells rfl hnews hones (by unfold maxLen; omega) (by omega) (by simp; omega)
  have hblk := append_block (P := Tryd.prog) (W.alloc (.cells #[.int .i64 (o.at' : Int), .int .i64 o.sh.k, .int .i64 o.sh.z, .int .i64 o.sh.s, .int .i64 o.sh.t] 34)) base 28 28 34 i0 _ 5 40 Tryd.underlying28 hi hz0 hz1 hz2 v os.length (obCells os) (hr.alloc _)
    ⟨W.heap.size, 0, none⟩ 1 1 o.cells rfl hnews hones (by unfold maxLen; omega) (by omega) (by omega) h1
  refine ⟨v', w', h1, ?_, ?_, ?_, fun k hk hne => (h3.block k (by simp; omega) (fun e => hne e.symm)).trans (Below.heap_alloc _ _ _ hk), fun k hk hne e => by
    rcases hblk with h | h
    · rw [h] at e; exact hne e
    · rw [h] at e; injection e with e; simp at e; omega⟩
  · rw [List.length_append]
    have e : obCells (os ++ [o]) = obCells os ++ o.cells := by unfold obCells; simp
    rw [e]
    exact h2
  · have hst : Only base W.heap.size W (W.alloc (.cells #[.int .i64 (o.at' : Int), .int .i64 o.sh.k, .int .i64 o.sh.z, .int .i64 o.sh.s, .int .i64 o.sh.t] 34)) := (Only.refl _ _ W).alloc _
    exact hst.grown h3 (fun k hk => .inl (hr.lt k hk))
  · have := h3.size
    simp at this
    omega
/-- A world of a law whose list has not been brought up. -/
structure Half (w : World) (L : Lay) (s : St) (wb : Nat) (os : List Ob) (v : Value) : Prop where
  pos : 0 < wb
  lo : wb < L.lo
  head : w.heap[wb]? = some (.cells #[.int .i64 (s.n : Int), .pointer (some ⟨L.sb, 0, none⟩), v, .int .i64 s.ser] 30 (0, 0))
  row : w.ownsRow L.hi 34 5 v os.length (obCells os)
  sp : SpaceAt w L s
theorem Half.lt {w : World} {L : Lay} {s : St} {wb : Nat} {os : List Ob} {v : Value} (h : Half w L s wb os v) : wb < w.heap.size := (Array.getElem?_eq_some_iff.1 h.head).1
theorem Half.still {w w' : World} {L : Lay} {s : St} {wb : Nat} {os : List Ob} {v : Value} (h : Half w L s wb os v) (ho : Still w w') : Half w' L s wb os v := by
  refine ⟨h.pos, h.lo, (ho.block _ h.lt (.inl h.lt)).trans h.head, ownsRow_of_block h.row fun g hg => ?_, h.sp.still ho⟩
  have := (h.row.lt g hg)
  exact ho.block g this.2 (.inl this.2)
theorem Half.ser {w : World} {L : Lay} {s t : St} {wb : Nat} {os : List Ob} {v : Value} (hp : 0 < wb) (hlo : wb < L.lo) (hh : w.heap[wb]? = some (.cells #[.int .i64 (s.n : Int), .pointer (some ⟨L.sb, 0, none⟩), v, .int .i64 s.ser] 30 (0, 0)))
    (hr : w.ownsRow L.hi 34 5 v os.length (obCells os)) (hs : SpaceAt w L t) (hn : t.n = s.n) : Half (w.setCell ⟨wb, 3, none⟩ (.int .i64 t.ser)) L t wb os v := by
  refine ⟨hp, hlo, ?_, ownsRow_of_block hr fun g hg => ?_, hs.kept (only_cell _ _ _ _) (.inr (by omega)) hp⟩
  · simp only [World.setCell, Array.getElem?_modify, hh, hn]
    simp
  · have := (hr.lt g hg).1
    have := hs.ok.inn 0 (by omega)
    exact Below.heap_setCell _ _ _ _ (by show g ≠ wb; omega)
/-- The list is brought up. -/
theorem Half.up {W w : World} {L : Lay} {s : St} {wb : Nat} {os os' : List Ob} {v v' : Value} (h : Half W L s wb os v) (ho : Only L.hi W.heap.size W w) (hr : w.ownsRow L.hi 34 5 v' os'.length (obCells os')) (hi : s.Inv) (ha : Agree s os') :
    Wld (w.setCell ⟨wb, 2, none⟩ v') L s wb os' v' := by
  have hlh : L.lo ≤ L.hi := by have := h.sp.ok.inn 0 (by omega); omega
  have hb : w.heap[wb]? = _ := (ho.block wb h.lt (.inl (by have := h.lo; omega))).trans h.head
  have hsp : SpaceAt w L s := h.sp.kept ho (.inl (Nat.le_refl _)) (by have := h.sp.ok.lo0; omega)
  refine ⟨h.pos, h.lo, ?_, ownsRow_of_block hr fun g hg => ?_, hsp.kept (only_cell _ _ _ _) (.inr h.lo) h.pos, hi, ha⟩
  · simp only [World.setCell, Array.getElem?_modify, hb]
    simp
  · have := (hr.lt g hg).1
    have := h.lo
    exact Below.heap_setCell _ _ _ _ (by show g ≠ wb; omega)

set_option maxRecDepth 100000 in
set_option maxHeartbeats 1600000 in
theorem takes_any (w : World) (L : Lay) (s : St) (wb : Nat) (os : List Ob) (v : Value) (hW : Wld w L s wb os v) (k z t : Int) (_hk : (Lit.int .i64 k).wf = true) (hz : (Lit.int .i64 z).wf = true) (ha : s.acts + 2 ≤ 1000000000000) (hl : os.length ≤ 1000000) (Q : Ending → World → Prop)
    (hQ : ∀ w' s' os' v', Wld w' L s' wb os' v' → s'.n = s.n → s'.acts ≤ s.acts + 2 → os'.length ≤ os.length + 1 → Frm wb L w v w' v' → Q (.returned (.bool true)) w') :
    Calls Tryd.prog 46 #[.pointer (some ⟨wb, 0, none⟩), .int .i64 k, .int .i64 z, .int .i64 t] w Q := by
  have HQ := Lib.hid hQ
  have HW := Lib.hid hW
  have c1 := hW.c1
  have hwl := hW.lt
  have HAL := Lib.hid (alloc_inv w L s hW.sp hW.inv k z t hz ha)
  clear hQ hW
  go_enter Tryd.func46, Tryd.ntmps46
  go_wp2_with fail
  refine HAL.out _ (fun hf w1 h1 ho => ?_) (fun l w1 hf e h1 hi ho => ?_) (fun s1 a w1 hf e htk h1 hi ho => ?_)
  · have HH := Lib.hid (HW.out.only ho h1)
    have H1 := Lib.hid h1
    have HO := Lib.hid ho
    clear h1 ho
    go_wp2_with fail
    refine HQ.out _ s os v ((HW.out.turned HH.out H1.out rfl rfl HW.out.inv HW.out.agree).still ((Only.refl _ _ w1).alloc _)) rfl (by omega) (by omega) ?_
    exact Frm.space v (HO.out.alloc _) HW.out.lo HW.out.loLe
  · have HH := Lib.hid (HW.out.only ho h1)
    have H1 := Lib.hid h1
    have HO := Lib.hid ho
    have HI := Lib.hid hi
    clear h1 ho e hi
    go_wp2_with fail
    refine HQ.out _ _ os v ((HW.out.turned HH.out H1.out rfl rfl HI.out ⟨HW.out.agree.here, HW.out.agree.all, HW.out.agree.once⟩).still ((Only.refl _ _ w1).alloc _)) rfl (Nat.le_add_right _ _) (by omega) ?_
    exact Frm.space v (HO.out.alloc _) HW.out.lo HW.out.loLe
  · have HH := Lib.hid (HW.out.only ho h1)
    have H1 := Lib.hid h1
    have HO := Lib.hid ho
    have HI := Lib.hid hi
    have HT := Lib.hid htk
    have HAG := Lib.hid (HW.out.agree.put htk k t)
    have hb1 : w1.heap[wb]? = _ := HH.out.1.trans HW.out.head
    have HB1 := Lib.hid hb1
    have HHAS : Hid ((s1.put a k z t).has (a : Int) = true) := Lib.hid (by unfold St.has; rw [decide_eq_true (by omega), Int.toNat_natCast, put_has, if_pos rfl]; rfl)
    have haI : (a : Int) < 262144 := by have h2 := htk.fit.lt.2; have h3 := h1.n2; have h3 : s1.n ≤ 4096 := h3; omega
    have ha0 : (0 : Int) ≤ (a : Int) := by omega
    have HBLK := Lib.hid (fun w' (hw : SpaceAt w' L (s1.put a k z t)) => block_yes w' L _ hw (a : Int) (wf_of (by omega)) HHAS.out)
    rw [put_sh, if_pos rfl] at HBLK
    have hs0 := HW.out.inv.ser0
    have hs1 := HW.out.inv.ser1
    have hsb : s.ser ≤ 1000000000000 := by omega
    have hfz : ∀ j, w1.frozen? ⟨wb, j, none⟩ = false := fun j => frozen_of hb1 j
    have d1 := cell_of (v := .pointer (some ⟨L.sb, 0, none⟩)) hb1 1 rfl
    have d2 := cell_of (v := v) hb1 2 rfl
    have d3 := cell_of (v := .int .i64 s.ser) hb1 3 rfl
    have f3 := hfz 3
    have hwl1 := (Array.getElem?_eq_some_iff.1 hb1).1
    clear h1 ho e hi htk hb1 hfz
    by_cases hnum : 1 ≤ k ∧ k ≤ 11
    · have n1 : decide (1 ≤ k) = true := decide_eq_true hnum.1
      have n2 : decide (k ≤ 11) = true := decide_eq_true hnum.2
      have hnb : Sp.numbered k = true := by unfold Sp.numbered; rw [n1, n2]; rfl
      have hwr : IntKind.i64.wrap (s.ser + 1) = s.ser + 1 := by rw [IntKind.wrap_i64]; omega
      have HNB := Lib.hid hnb
      rw [hnb, if_pos rfl, HT.out.ser] at HBLK
      rw [hnb, if_pos rfl, HT.out.ser] at HAG
      clear hnum hnb
      go_wp2_with fail
      have HHF : Hid (Half (w1.setCell ⟨wb, 3, none⟩ (.int .i64 (s.ser + 1))) L (s1.put a k z t) wb os v) := Lib.hid (by
        have e : (s1.put a k z t).ser = s.ser + 1 := by show (if Sp.numbered k then s1.ser + 1 else s1.ser) = _; rw [HNB.out, if_pos rfl, HT.out.ser]
        have := Half.ser (t := s1.put a k z t) HW.out.pos HW.out.lo HB1.out HH.out.2 H1.out HT.out.n
        rw [e] at this
        exact this)
      have HBW : Hid (Frm wb L w v (w1.setCell ⟨wb, 3, none⟩ (.int .i64 (s.ser + 1))) v) := Lib.hid ((Frm.space v HO.out HW.out.lo HW.out.loLe).trans (Frm.own w1 v hwl1 3 _))
      have hwb : (w1.setCell ⟨wb, 3, none⟩ (.int .i64 (s.ser + 1))).heap.size = w1.heap.size := by simp [World.setCell]
      generalize hWg : w1.setCell ⟨wb, 3, none⟩ (.int .i64 (s.ser + 1)) = W at *
      have HWS := Lib.hid hwb
      have hb2 : ((W.alloc (.cells #[.int .i64 0, .int .i64 0] 56)).alloc (.cells #[.int .i64 (a : Int), .int .i64 k, .int .i64 z, .int .i64 (s.ser + 1), .int .i64 t] 34)).heap[w1.heap.size + 1]? = some (.cells #[.int .i64 (a : Int), .int .i64 k, .int .i64 z, .int .i64 (s.ser + 1), .int .i64 t] 34) := by
        have := heap_alloc_new (W.alloc (.cells #[.int .i64 0, .int .i64 0] 56)) (.cells #[.int .i64 (a : Int), .int .i64 k, .int .i64 z, .int .i64 (s.ser + 1), .int .i64 t] 34)
        rw [World.size_alloc, hwb] at this
        exact this
      have hst2 : Still W ((W.alloc (.cells #[.int .i64 0, .int .i64 0] 56)).alloc (.cells #[.int .i64 (a : Int), .int .i64 k, .int .i64 z, .int .i64 (s.ser + 1), .int .i64 t] 34)) := ((Only.refl _ _ W).alloc _).alloc _
      generalize (W.alloc (.cells #[.int .i64 0, .int .i64 0] 56)).alloc (.cells #[.int .i64 (a : Int), .int .i64 k, .int .i64 z, .int .i64 (s.ser + 1), .int .i64 t] 34) = w2 at *
      have HST2 := Lib.hid hst2
      have HB2 := Lib.hid hb2
      clear hst2 hb2 hwb hWg
      refine (HBLK.out w2 (HHF.out.still HST2.out).sp).mono ?_
      rintro e w3 ⟨rfl, hs3⟩
      go_wp2_with fail
      have hb3 := heap_alloc_new w3 (.cells #[.int .i64 (a : Int), .int .i64 k, .int .i64 z, .int .i64 (s.ser + 1), .int .i64 t] 34)
      have hl2 := (Array.getElem?_eq_some_iff.1 HB2.out).1
      have hst4 : Still w2 (w3.alloc (.cells #[.int .i64 (a : Int), .int .i64 k, .int .i64 z, .int .i64 (s.ser + 1), .int .i64 t] 34)) := hs3.alloc _
      have HST4 := Lib.hid (Still.trans HST2.out hst4)
      have hb4 := (hst4.block _ hl2 (.inl hl2)).trans HB2.out
      have HSZ : Hid (w3.heap.size < (w3.alloc (.cells #[.int .i64 (a : Int), .int .i64 k, .int .i64 z, .int .i64 (s.ser + 1), .int .i64 t] 34)).heap.size) := Lib.hid (by simp)
      have HS3 : Hid (w1.heap.size + 1 < w3.heap.size) := Lib.hid (Nat.lt_of_lt_of_le hl2 hs3.size)
      generalize w3.alloc (.cells #[.int .i64 (a : Int), .int .i64 k, .int .i64 z, .int .i64 (s.ser + 1), .int .i64 t] 34) = w4 at *
      have HH4 := Lib.hid (HHF.out.still HST4.out)
      obtain ⟨v', w5, happ, hown, ho5, hs5, hk5, hkv⟩ := ob_append w4.drew L.hi os v HH4.out.row.drew HH4.out.sp.top hl ⟨a, ⟨k, z, (s.ser + 1), t⟩⟩
      have hh4 : w4.heap[wb]? = _ := HH4.out.head
      have x2 : w4.cell? ⟨wb, 2, none⟩ = some v := cell_of hh4 2 rfl
      have hwl4 := (Array.getElem?_eq_some_iff.1 hh4).1
      have y0 := cell_of (v := .int .i64 (a : Int)) hb4 0 rfl
      have y1 := cell_of (v := .int .i64 k) hb4 1 rfl
      have y2 := cell_of (v := .int .i64 z) hb4 2 rfl
      have y3 := cell_of (v := .int .i64 (s.ser + 1)) hb4 3 rfl
      have y4 := cell_of (v := .int .i64 t) hb4 4 rfl
      have hlo := HH4.out.lo
      have hlh : L.lo ≤ L.hi := by have := HH4.out.sp.ok.inn 0 (by omega); omega
      have hb5 : w5.heap[wb]? = w4.heap[wb]? := ho5.block wb hwl4 (.inl (by omega))
      have z2 : w5.cell? ⟨wb, 2, none⟩ = some v := cell_of (hb5.trans hh4) 2 rfl
      have zf : w5.frozen? ⟨wb, 2, none⟩ = false := frozen_of (hb5.trans hh4) 2
      have hwl5 : wb < w5.heap.size := Nat.lt_trans hwl4 hs5
      have HAPP := Lib.hid happ
      have HOWN := Lib.hid hown
      have HO5 := Lib.hid ho5
      have hsl : ∃ ao ln cp, v' = .slice ao ln cp := by
        rcases hown.2 with ⟨rfl, _⟩ | ⟨g, cap, cur, rfl, _⟩
        · exact ⟨_, _, _, rfl⟩
        · exact ⟨_, _, _, rfl⟩
      obtain ⟨ao, ln, cp, rfl⟩ := hsl
      have hg : ∀ g, v.ownBlock = some g → g < w.heap.size := fun g hg => (HW.out.row.lt g hg).2
      have hws : w.heap.size ≤ w1.heap.size := HO.out.size
      have HKA : Hid (w5.heap[w1.heap.size + 1]? = some (.cells #[.int .i64 (a : Int), .int .i64 k, .int .i64 z, .int .i64 (s.ser + 1), .int .i64 t] 34) ∧ w5.heap[w3.heap.size]? = some (.cells #[.int .i64 (a : Int), .int .i64 k, .int .i64 z, .int .i64 (s.ser + 1), .int .i64 t] 34)) := Lib.hid
        ⟨(hk5 _ (Array.getElem?_eq_some_iff.1 hb4).1 (fun e => by have := hg _ e; omega)).trans hb4, (hk5 _ HSZ.out (fun e => by have := hg _ e; have := HS3.out; omega)).trans hb3⟩
      have HK5 := Lib.hid hk5
      have HKV := Lib.hid hkv
      clear happ hown ho5 hb5 hk5 hkv
      go_region_law (first | (refine step_append_eq rfl (.tmp 81) (.tmp 83) 28 rfl v (.slice (some ⟨w4.heap.size, 0, none⟩) 1 1) (.slice ao ln cp) w5 rfl rfl HAPP.out ?_))
      all_goals
        have hq2 : (w5.setCell ⟨wb, 2, none⟩ (.slice ao ln cp)).heap[w1.heap.size + 1]? = some (.cells #[.int .i64 (a : Int), .int .i64 k, .int .i64 z, .int .i64 (s.ser + 1), .int .i64 t] 34) := by
          rw [Below.heap_setCell _ _ _ _ (by show w1.heap.size + 1 ≠ wb; omega)]
          exact HKA.out.1
        have hq3 : (w5.setCell ⟨wb, 2, none⟩ (.slice ao ln cp)).heap[w3.heap.size]? = some (.cells #[.int .i64 (a : Int), .int .i64 k, .int .i64 z, .int .i64 (s.ser + 1), .int .i64 t] 34) := by
          rw [Below.heap_setCell _ _ _ _ (by show w3.heap.size ≠ wb; have := HS3.out; omega)]
          exact HKA.out.2
        have hfin : Wld (w5.setCell ⟨wb, 2, none⟩ (.slice ao ln cp)) L (s1.put a k z t) wb (os ++ [⟨a, ⟨k, z, s.ser + 1, t⟩⟩]) (.slice ao ln cp) := (HH4.out.still (Only.refl _ _ w4).drew).up HO5.out HOWN.out HI.out HAG.out
        have hbel : Frm wb L w v (w5.setCell ⟨wb, 2, none⟩ (.slice ao ln cp)) (.slice ao ln cp) :=
          HBW.out.trans ((Frm.still v HST4.out HHF.out.lt).trans ((Frm.app HO5.out (by omega) HH4.out.sp.top HK5.out HKV.out).trans (Frm.own w5 _ hwl5 2 _)))
        generalize w5.setCell ⟨wb, 2, none⟩ (.slice ao ln cp) = w6 at *
        have p0 := cell_of (v := .int .i64 (a : Int)) hq2 0 rfl
        have p1 := cell_of (v := .int .i64 k) hq2 1 rfl
        have p2 := cell_of (v := .int .i64 z) hq2 2 rfl
        have p3 := cell_of (v := .int .i64 (s.ser + 1)) hq2 3 rfl
        have p4 := cell_of (v := .int .i64 t) hq2 4 rfl
        have q0 := cell_of (v := .int .i64 (a : Int)) hq3 0 rfl
        have q1 := cell_of (v := .int .i64 k) hq3 1 rfl
        have q2 := cell_of (v := .int .i64 z) hq3 2 rfl
        have q3 := cell_of (v := .int .i64 (s.ser + 1)) hq3 3 rfl
        have q4 := cell_of (v := .int .i64 t) hq3 4 rfl
        have HFIN := Lib.hid hfin
        have HBEL := Lib.hid hbel
        clear hfin hbel hq2 hq3
        go_wp2_with fail
        exact HQ.out w6 _ _ _ HFIN.out HT.out.n (by show s1.acts + 2 ≤ _; rw [HT.out.acts]; exact Nat.le_refl _) (by simp) HBEL.out
    · have hnb : Sp.numbered k = false := by
        unfold Sp.numbered
        by_cases h1 : 1 ≤ k
        · rw [decide_eq_false (p := k ≤ 11) (by omega), Bool.and_false]
        · rw [decide_eq_false h1]; rfl
      have HNB := Lib.hid hnb
      rw [hnb, if_neg (by decide)] at HBLK HAG
      have hkk : (1 ≤ k ∧ ¬k ≤ 11) ∨ ¬1 ≤ k := by omega
      clear hnum hnb
      rcases hkk with ⟨h1, h2⟩ | h1
      · have n1 : decide (1 ≤ k) = true := decide_eq_true h1
        have n2 : decide (k ≤ 11) = false := decide_eq_false h2
        clear h1 h2
        go_wp2_with fail
        have HHF : Hid (Half w1 L (s1.put a k z t) wb os v) := Lib.hid (by
          have e : (s1.put a k z t).ser = s.ser := by show (if Sp.numbered k then s1.ser + 1 else s1.ser) = _; rw [HNB.out, if_neg (by decide), HT.out.ser]
          refine ⟨HW.out.pos, HW.out.lo, ?_, HH.out.2, H1.out⟩
          rw [e, HB1.out, show (s1.put a k z t).n = s.n from HT.out.n])
        have HBW : Hid (Frm wb L w v w1 v) := Lib.hid (Frm.space v HO.out HW.out.lo HW.out.loLe)
        have hwb : w1.heap.size = w1.heap.size := rfl
        have HWS := Lib.hid hwb
        have hb2 : ((w1.alloc (.cells #[.int .i64 0, .int .i64 0] 56)).alloc (.cells #[.int .i64 (a : Int), .int .i64 k, .int .i64 z, .int .i64 0, .int .i64 t] 34)).heap[w1.heap.size + 1]? = some (.cells #[.int .i64 (a : Int), .int .i64 k, .int .i64 z, .int .i64 0, .int .i64 t] 34) := by
          have := heap_alloc_new (w1.alloc (.cells #[.int .i64 0, .int .i64 0] 56)) (.cells #[.int .i64 (a : Int), .int .i64 k, .int .i64 z, .int .i64 0, .int .i64 t] 34)
          rw [World.size_alloc] at this
          exact this
        have hst2 : Still w1 ((w1.alloc (.cells #[.int .i64 0, .int .i64 0] 56)).alloc (.cells #[.int .i64 (a : Int), .int .i64 k, .int .i64 z, .int .i64 0, .int .i64 t] 34)) := ((Only.refl _ _ w1).alloc _).alloc _
        generalize (w1.alloc (.cells #[.int .i64 0, .int .i64 0] 56)).alloc (.cells #[.int .i64 (a : Int), .int .i64 k, .int .i64 z, .int .i64 0, .int .i64 t] 34) = w2 at *
        have HST2 := Lib.hid hst2
        have HB2 := Lib.hid hb2
        clear hst2 hb2 hwb
        refine (HBLK.out w2 (HHF.out.still HST2.out).sp).mono ?_
        rintro e w3 ⟨rfl, hs3⟩
        go_wp2_with fail
        have hb3 := heap_alloc_new w3 (.cells #[.int .i64 (a : Int), .int .i64 k, .int .i64 z, .int .i64 0, .int .i64 t] 34)
        have hl2 := (Array.getElem?_eq_some_iff.1 HB2.out).1
        have hst4 : Still w2 (w3.alloc (.cells #[.int .i64 (a : Int), .int .i64 k, .int .i64 z, .int .i64 0, .int .i64 t] 34)) := hs3.alloc _
        have HST4 := Lib.hid (Still.trans HST2.out hst4)
        have hb4 := (hst4.block _ hl2 (.inl hl2)).trans HB2.out
        have HSZ : Hid (w3.heap.size < (w3.alloc (.cells #[.int .i64 (a : Int), .int .i64 k, .int .i64 z, .int .i64 0, .int .i64 t] 34)).heap.size) := Lib.hid (by simp)
        have HS3 : Hid (w1.heap.size + 1 < w3.heap.size) := Lib.hid (Nat.lt_of_lt_of_le hl2 hs3.size)
        generalize w3.alloc (.cells #[.int .i64 (a : Int), .int .i64 k, .int .i64 z, .int .i64 0, .int .i64 t] 34) = w4 at *
        have HH4 := Lib.hid (HHF.out.still HST4.out)
        obtain ⟨v', w5, happ, hown, ho5, hs5, hk5, hkv⟩ := ob_append w4.drew L.hi os v HH4.out.row.drew HH4.out.sp.top hl ⟨a, ⟨k, z, 0, t⟩⟩
        have hh4 : w4.heap[wb]? = _ := HH4.out.head
        have x2 : w4.cell? ⟨wb, 2, none⟩ = some v := cell_of hh4 2 rfl
        have hwl4 := (Array.getElem?_eq_some_iff.1 hh4).1
        have y0 := cell_of (v := .int .i64 (a : Int)) hb4 0 rfl
        have y1 := cell_of (v := .int .i64 k) hb4 1 rfl
        have y2 := cell_of (v := .int .i64 z) hb4 2 rfl
        have y3 := cell_of (v := .int .i64 0) hb4 3 rfl
        have y4 := cell_of (v := .int .i64 t) hb4 4 rfl
        have hlo := HH4.out.lo
        have hlh : L.lo ≤ L.hi := by have := HH4.out.sp.ok.inn 0 (by omega); omega
        have hb5 : w5.heap[wb]? = w4.heap[wb]? := ho5.block wb hwl4 (.inl (by omega))
        have z2 : w5.cell? ⟨wb, 2, none⟩ = some v := cell_of (hb5.trans hh4) 2 rfl
        have zf : w5.frozen? ⟨wb, 2, none⟩ = false := frozen_of (hb5.trans hh4) 2
        have hwl5 : wb < w5.heap.size := Nat.lt_trans hwl4 hs5
        have HAPP := Lib.hid happ
        have HOWN := Lib.hid hown
        have HO5 := Lib.hid ho5
        have hsl : ∃ ao ln cp, v' = .slice ao ln cp := by
          rcases hown.2 with ⟨rfl, _⟩ | ⟨g, cap, cur, rfl, _⟩
          · exact ⟨_, _, _, rfl⟩
          · exact ⟨_, _, _, rfl⟩
        obtain ⟨ao, ln, cp, rfl⟩ := hsl
        have hg : ∀ g, v.ownBlock = some g → g < w.heap.size := fun g hg => (HW.out.row.lt g hg).2
        have hws : w.heap.size ≤ w1.heap.size := HO.out.size
        have HKA : Hid (w5.heap[w1.heap.size + 1]? = some (.cells #[.int .i64 (a : Int), .int .i64 k, .int .i64 z, .int .i64 0, .int .i64 t] 34) ∧ w5.heap[w3.heap.size]? = some (.cells #[.int .i64 (a : Int), .int .i64 k, .int .i64 z, .int .i64 0, .int .i64 t] 34)) := Lib.hid
          ⟨(hk5 _ (Array.getElem?_eq_some_iff.1 hb4).1 (fun e => by have := hg _ e; omega)).trans hb4, (hk5 _ HSZ.out (fun e => by have := hg _ e; have := HS3.out; omega)).trans hb3⟩
        have HK5 := Lib.hid hk5
        have HKV := Lib.hid hkv
        clear happ hown ho5 hb5 hk5 hkv
        go_region_law (first | (refine step_append_eq rfl (.tmp 81) (.tmp 83) 28 rfl v (.slice (some ⟨w4.heap.size, 0, none⟩) 1 1) (.slice ao ln cp) w5 rfl rfl HAPP.out ?_))
        all_goals
          have hq2 : (w5.setCell ⟨wb, 2, none⟩ (.slice ao ln cp)).heap[w1.heap.size + 1]? = some (.cells #[.int .i64 (a : Int), .int .i64 k, .int .i64 z, .int .i64 0, .int .i64 t] 34) := by
            rw [Below.heap_setCell _ _ _ _ (by show w1.heap.size + 1 ≠ wb; omega)]
            exact HKA.out.1
          have hq3 : (w5.setCell ⟨wb, 2, none⟩ (.slice ao ln cp)).heap[w3.heap.size]? = some (.cells #[.int .i64 (a : Int), .int .i64 k, .int .i64 z, .int .i64 0, .int .i64 t] 34) := by
            rw [Below.heap_setCell _ _ _ _ (by show w3.heap.size ≠ wb; have := HS3.out; omega)]
            exact HKA.out.2
          have hfin : Wld (w5.setCell ⟨wb, 2, none⟩ (.slice ao ln cp)) L (s1.put a k z t) wb (os ++ [⟨a, ⟨k, z, 0, t⟩⟩]) (.slice ao ln cp) := (HH4.out.still (Only.refl _ _ w4).drew).up HO5.out HOWN.out HI.out HAG.out
          have hbel : Frm wb L w v (w5.setCell ⟨wb, 2, none⟩ (.slice ao ln cp)) (.slice ao ln cp) :=
            HBW.out.trans ((Frm.still v HST4.out HHF.out.lt).trans ((Frm.app HO5.out (by omega) HH4.out.sp.top HK5.out HKV.out).trans (Frm.own w5 _ hwl5 2 _)))
          generalize w5.setCell ⟨wb, 2, none⟩ (.slice ao ln cp) = w6 at *
          have p0 := cell_of (v := .int .i64 (a : Int)) hq2 0 rfl
          have p1 := cell_of (v := .int .i64 k) hq2 1 rfl
          have p2 := cell_of (v := .int .i64 z) hq2 2 rfl
          have p3 := cell_of (v := .int .i64 0) hq2 3 rfl
          have p4 := cell_of (v := .int .i64 t) hq2 4 rfl
          have q0 := cell_of (v := .int .i64 (a : Int)) hq3 0 rfl
          have q1 := cell_of (v := .int .i64 k) hq3 1 rfl
          have q2 := cell_of (v := .int .i64 z) hq3 2 rfl
          have q3 := cell_of (v := .int .i64 0) hq3 3 rfl
          have q4 := cell_of (v := .int .i64 t) hq3 4 rfl
          have HFIN := Lib.hid hfin
          have HBEL := Lib.hid hbel
          clear hfin hbel hq2 hq3
          go_wp2_with fail
          exact HQ.out w6 _ _ _ HFIN.out HT.out.n (by show s1.acts + 2 ≤ _; rw [HT.out.acts]; exact Nat.le_refl _) (by simp) HBEL.out
      · have n1 : decide (1 ≤ k) = false := decide_eq_false h1
        clear h1
        go_wp2_with fail
        have HHF : Hid (Half w1 L (s1.put a k z t) wb os v) := Lib.hid (by
          have e : (s1.put a k z t).ser = s.ser := by show (if Sp.numbered k then s1.ser + 1 else s1.ser) = _; rw [HNB.out, if_neg (by decide), HT.out.ser]
          refine ⟨HW.out.pos, HW.out.lo, ?_, HH.out.2, H1.out⟩
          rw [e, HB1.out, show (s1.put a k z t).n = s.n from HT.out.n])
        have HBW : Hid (Frm wb L w v w1 v) := Lib.hid (Frm.space v HO.out HW.out.lo HW.out.loLe)
        have hwb : w1.heap.size = w1.heap.size := rfl
        have HWS := Lib.hid hwb
        have hb2 : ((w1.alloc (.cells #[.int .i64 0, .int .i64 0] 56)).alloc (.cells #[.int .i64 (a : Int), .int .i64 k, .int .i64 z, .int .i64 0, .int .i64 t] 34)).heap[w1.heap.size + 1]? = some (.cells #[.int .i64 (a : Int), .int .i64 k, .int .i64 z, .int .i64 0, .int .i64 t] 34) := by
          have := heap_alloc_new (w1.alloc (.cells #[.int .i64 0, .int .i64 0] 56)) (.cells #[.int .i64 (a : Int), .int .i64 k, .int .i64 z, .int .i64 0, .int .i64 t] 34)
          rw [World.size_alloc] at this
          exact this
        have hst2 : Still w1 ((w1.alloc (.cells #[.int .i64 0, .int .i64 0] 56)).alloc (.cells #[.int .i64 (a : Int), .int .i64 k, .int .i64 z, .int .i64 0, .int .i64 t] 34)) := ((Only.refl _ _ w1).alloc _).alloc _
        generalize (w1.alloc (.cells #[.int .i64 0, .int .i64 0] 56)).alloc (.cells #[.int .i64 (a : Int), .int .i64 k, .int .i64 z, .int .i64 0, .int .i64 t] 34) = w2 at *
        have HST2 := Lib.hid hst2
        have HB2 := Lib.hid hb2
        clear hst2 hb2 hwb
        refine (HBLK.out w2 (HHF.out.still HST2.out).sp).mono ?_
        rintro e w3 ⟨rfl, hs3⟩
        go_wp2_with fail
        have hb3 := heap_alloc_new w3 (.cells #[.int .i64 (a : Int), .int .i64 k, .int .i64 z, .int .i64 0, .int .i64 t] 34)
        have hl2 := (Array.getElem?_eq_some_iff.1 HB2.out).1
        have hst4 : Still w2 (w3.alloc (.cells #[.int .i64 (a : Int), .int .i64 k, .int .i64 z, .int .i64 0, .int .i64 t] 34)) := hs3.alloc _
        have HST4 := Lib.hid (Still.trans HST2.out hst4)
        have hb4 := (hst4.block _ hl2 (.inl hl2)).trans HB2.out
        have HSZ : Hid (w3.heap.size < (w3.alloc (.cells #[.int .i64 (a : Int), .int .i64 k, .int .i64 z, .int .i64 0, .int .i64 t] 34)).heap.size) := Lib.hid (by simp)
        have HS3 : Hid (w1.heap.size + 1 < w3.heap.size) := Lib.hid (Nat.lt_of_lt_of_le hl2 hs3.size)
        generalize w3.alloc (.cells #[.int .i64 (a : Int), .int .i64 k, .int .i64 z, .int .i64 0, .int .i64 t] 34) = w4 at *
        have HH4 := Lib.hid (HHF.out.still HST4.out)
        obtain ⟨v', w5, happ, hown, ho5, hs5, hk5, hkv⟩ := ob_append w4.drew L.hi os v HH4.out.row.drew HH4.out.sp.top hl ⟨a, ⟨k, z, 0, t⟩⟩
        have hh4 : w4.heap[wb]? = _ := HH4.out.head
        have x2 : w4.cell? ⟨wb, 2, none⟩ = some v := cell_of hh4 2 rfl
        have hwl4 := (Array.getElem?_eq_some_iff.1 hh4).1
        have y0 := cell_of (v := .int .i64 (a : Int)) hb4 0 rfl
        have y1 := cell_of (v := .int .i64 k) hb4 1 rfl
        have y2 := cell_of (v := .int .i64 z) hb4 2 rfl
        have y3 := cell_of (v := .int .i64 0) hb4 3 rfl
        have y4 := cell_of (v := .int .i64 t) hb4 4 rfl
        have hlo := HH4.out.lo
        have hlh : L.lo ≤ L.hi := by have := HH4.out.sp.ok.inn 0 (by omega); omega
        have hb5 : w5.heap[wb]? = w4.heap[wb]? := ho5.block wb hwl4 (.inl (by omega))
        have z2 : w5.cell? ⟨wb, 2, none⟩ = some v := cell_of (hb5.trans hh4) 2 rfl
        have zf : w5.frozen? ⟨wb, 2, none⟩ = false := frozen_of (hb5.trans hh4) 2
        have hwl5 : wb < w5.heap.size := Nat.lt_trans hwl4 hs5
        have HAPP := Lib.hid happ
        have HOWN := Lib.hid hown
        have HO5 := Lib.hid ho5
        have hsl : ∃ ao ln cp, v' = .slice ao ln cp := by
          rcases hown.2 with ⟨rfl, _⟩ | ⟨g, cap, cur, rfl, _⟩
          · exact ⟨_, _, _, rfl⟩
          · exact ⟨_, _, _, rfl⟩
        obtain ⟨ao, ln, cp, rfl⟩ := hsl
        have hg : ∀ g, v.ownBlock = some g → g < w.heap.size := fun g hg => (HW.out.row.lt g hg).2
        have hws : w.heap.size ≤ w1.heap.size := HO.out.size
        have HKA : Hid (w5.heap[w1.heap.size + 1]? = some (.cells #[.int .i64 (a : Int), .int .i64 k, .int .i64 z, .int .i64 0, .int .i64 t] 34) ∧ w5.heap[w3.heap.size]? = some (.cells #[.int .i64 (a : Int), .int .i64 k, .int .i64 z, .int .i64 0, .int .i64 t] 34)) := Lib.hid
          ⟨(hk5 _ (Array.getElem?_eq_some_iff.1 hb4).1 (fun e => by have := hg _ e; omega)).trans hb4, (hk5 _ HSZ.out (fun e => by have := hg _ e; have := HS3.out; omega)).trans hb3⟩
        have HK5 := Lib.hid hk5
        have HKV := Lib.hid hkv
        clear happ hown ho5 hb5 hk5 hkv
        go_region_law (first | (refine step_append_eq rfl (.tmp 81) (.tmp 83) 28 rfl v (.slice (some ⟨w4.heap.size, 0, none⟩) 1 1) (.slice ao ln cp) w5 rfl rfl HAPP.out ?_))
        all_goals
          have hq2 : (w5.setCell ⟨wb, 2, none⟩ (.slice ao ln cp)).heap[w1.heap.size + 1]? = some (.cells #[.int .i64 (a : Int), .int .i64 k, .int .i64 z, .int .i64 0, .int .i64 t] 34) := by
            rw [Below.heap_setCell _ _ _ _ (by show w1.heap.size + 1 ≠ wb; omega)]
            exact HKA.out.1
          have hq3 : (w5.setCell ⟨wb, 2, none⟩ (.slice ao ln cp)).heap[w3.heap.size]? = some (.cells #[.int .i64 (a : Int), .int .i64 k, .int .i64 z, .int .i64 0, .int .i64 t] 34) := by
            rw [Below.heap_setCell _ _ _ _ (by show w3.heap.size ≠ wb; have := HS3.out; omega)]
            exact HKA.out.2
          have hfin : Wld (w5.setCell ⟨wb, 2, none⟩ (.slice ao ln cp)) L (s1.put a k z t) wb (os ++ [⟨a, ⟨k, z, 0, t⟩⟩]) (.slice ao ln cp) := (HH4.out.still (Only.refl _ _ w4).drew).up HO5.out HOWN.out HI.out HAG.out
          have hbel : Frm wb L w v (w5.setCell ⟨wb, 2, none⟩ (.slice ao ln cp)) (.slice ao ln cp) :=
            HBW.out.trans ((Frm.still v HST4.out HHF.out.lt).trans ((Frm.app HO5.out (by omega) HH4.out.sp.top HK5.out HKV.out).trans (Frm.own w5 _ hwl5 2 _)))
          generalize w5.setCell ⟨wb, 2, none⟩ (.slice ao ln cp) = w6 at *
          have p0 := cell_of (v := .int .i64 (a : Int)) hq2 0 rfl
          have p1 := cell_of (v := .int .i64 k) hq2 1 rfl
          have p2 := cell_of (v := .int .i64 z) hq2 2 rfl
          have p3 := cell_of (v := .int .i64 0) hq2 3 rfl
          have p4 := cell_of (v := .int .i64 t) hq2 4 rfl
          have q0 := cell_of (v := .int .i64 (a : Int)) hq3 0 rfl
          have q1 := cell_of (v := .int .i64 k) hq3 1 rfl
          have q2 := cell_of (v := .int .i64 z) hq3 2 rfl
          have q3 := cell_of (v := .int .i64 0) hq3 3 rfl
          have q4 := cell_of (v := .int .i64 t) hq3 4 rfl
          have HFIN := Lib.hid hfin
          have HBEL := Lib.hid hbel
          clear hfin hbel hq2 hq3
          go_wp2_with fail
          exact HQ.out w6 _ _ _ HFIN.out HT.out.n (by show s1.acts + 2 ≤ _; rw [HT.out.acts]; exact Nat.le_refl _) (by simp) HBEL.out
end Go.Proofs.YtiniadochjeieaaDoor
