/-
  What keeping does to the laws' list. Plain, but for an append of ints.
-/
import Derived.Test.YtiniadochjeieaaDoorQM4
namespace Go.Proofs.YtiniadochjeieaaDoor
open Go Go.RowKit

theorem cnt_set {S : Nat → Bool} {x : Nat} (hx : S x = true) : ∀ N, x < N → Bm.cnt S 0 N = Bm.cnt (setS S x false) 0 N + 1
  | 0, h => by omega
  | N + 1, h => by
    show Bm.cnt S 0 N + (S (0 + N)).toNat = Bm.cnt (setS S x false) 0 N + (setS S x false (0 + N)).toNat + 1
    rw [Nat.zero_add]
    by_cases e : x = N
    · subst e
      have h1 : Bm.cnt S 0 x = Bm.cnt (setS S x false) 0 x := Bm.cnt_congr fun i _ hi => by unfold setS; rw [if_neg (by omega)]
      rw [h1, hx]
      unfold setS
      rw [if_pos rfl]
      rfl
    · rw [cnt_set hx N (by omega)]
      have h1 : setS S x false N = S N := by unfold setS; rw [if_neg (fun h => e h.symm)]
      rw [h1]
      omega
theorem cnt_list : ∀ (l : List Nat) (S : Nat → Bool) (N : Nat), l.Nodup → (∀ x ∈ l, x < N) → (∀ x, x < N → (S x = true ↔ x ∈ l)) → Bm.cnt S 0 N = l.length
  | [], S, N, _, _, h => Bm.cnt_zero fun i _ hi => by
    cases e : S i with
    | false => rfl
    | true => have := (h i (by omega)).1 e; cases this
  | x :: l, S, N, hn, hl, h => by
    have hn2 := List.nodup_cons.1 hn
    have hx := hl x (by simp)
    rw [cnt_set ((h x hx).2 (by simp)) N hx, cnt_list l (setS S x false) N hn2.2 (fun y hy => hl y (by simp [hy])) (fun y hy => ?_)]
    · rfl
    · unfold setS
      by_cases e : y = x
      · rw [if_pos e]
        subst e
        exact ⟨fun hh => (by cases hh), fun hh => absurd hh hn2.1⟩
      · rw [if_neg e, h y hy]
        simp [e]
theorem cnt_split (S T : Nat → Bool) : ∀ N, Bm.cnt S 0 N = Bm.cnt (fun x => S x && T x) 0 N + Bm.cnt (fun x => S x && !T x) 0 N
  | 0 => rfl
  | N + 1 => by
    show Bm.cnt S 0 N + (S (0 + N)).toNat = Bm.cnt (fun x => S x && T x) 0 N + (S (0 + N) && T (0 + N)).toNat + (Bm.cnt (fun x => S x && !T x) 0 N + (S (0 + N) && !T (0 + N)).toNat)
    rw [cnt_split S T N]
    cases S (0 + N) <;> cases T (0 + N) <;> simp <;> omega
theorem Agree.count {s : St} {os : List Ob} (h : Agree s os) (hi : s.Inv) : Bm.cnt (s.B 0) 0 (64 * s.n) = os.length := by
  rw [cnt_list (os.map Ob.at') (s.B 0) (64 * s.n) h.once (fun x hx => ?_) (fun x _ => ?_), List.length_map]
  · obtain ⟨o, ho, rfl⟩ := List.mem_map.1 hx
    exact (hi.obj _ (h.here o ho).1).2.lt.2
  · constructor
    · intro hx
      obtain ⟨o, ho, e⟩ := h.all x hx
      exact List.mem_map.2 ⟨o, ho, e⟩
    · intro hx
      obtain ⟨o, ho, rfl⟩ := List.mem_map.1 hx
      exact (h.here o ho).1

/-- Some object. -/
def ob0 : Ob := ⟨0, Sh.zero⟩
/-- Those of the first i objects whose numbers are named. -/
def leftTo (os : List Ob) (ks : List Nat) : Nat → List Ob
  | 0 => []
  | i + 1 => if i ∈ ks then leftTo os ks i ++ [os.getD i ob0] else leftTo os ks i
theorem leftTo_mem (os : List Ob) (ks : List Nat) (o : Ob) : ∀ i, o ∈ leftTo os ks i ↔ ∃ j, j < i ∧ j ∈ ks ∧ o = os.getD j ob0
  | 0 => ⟨fun h => (by cases h), fun ⟨j, hj, _⟩ => by omega⟩
  | i + 1 => by
    unfold leftTo
    by_cases h : i ∈ ks
    · rw [if_pos h, List.mem_append, leftTo_mem os ks o i, List.mem_singleton]
      constructor
      · rintro (⟨j, h1, h2⟩ | h1)
        · exact ⟨j, by omega, h2⟩
        · exact ⟨i, by omega, h, h1⟩
      · rintro ⟨j, h1, h2, h3⟩
        by_cases e : j = i
        · subst e; exact .inr h3
        · exact .inl ⟨j, by omega, h2, h3⟩
    · rw [if_neg h, leftTo_mem os ks o i]
      constructor
      · rintro ⟨j, h1, h2⟩
        exact ⟨j, by omega, h2⟩
      · rintro ⟨j, h1, h2, h3⟩
        by_cases e : j = i
        · subst e; exact absurd h2 h
        · exact ⟨j, by omega, h2, h3⟩
theorem leftTo_sub (os : List Ob) (ks : List Nat) : ∀ i, i ≤ os.length → (leftTo os ks i).Sublist (os.take i)
  | 0, _ => by simp [leftTo]
  | i + 1, h => by
    have ih := leftTo_sub os ks i (by omega)
    have e : os.take (i + 1) = os.take i ++ [os.getD i ob0] := by
      rw [List.take_add_one, List.getD_eq_getElem?_getD, List.getElem?_eq_getElem (by omega)]; rfl
    unfold leftTo
    rw [e]
    split
    · exact ih.append (List.Sublist.refl _)
    · exact ih.trans (List.sublist_append_left _ _)
theorem leftTo_le (os : List Ob) (ks : List Nat) : ∀ i, (leftTo os ks i).length ≤ i
  | 0 => Nat.le_refl _
  | i + 1 => by
    have := leftTo_le os ks i
    unfold leftTo
    split
    · simp; omega
    · omega
theorem stayTo_iff (zs : List Int) (a : Nat) : ∀ k, stayTo zs k a = true ↔ ∃ j, j < k ∧ (zs.getD j 0).toNat = a
  | 0 => ⟨fun h => (by cases h), fun ⟨j, hj, _⟩ => by omega⟩
  | k + 1 => by
    show setS (stayTo zs k) (zs.getD k 0).toNat true a = true ↔ _
    unfold setS
    by_cases e : a = (zs.getD k 0).toNat
    · rw [if_pos e]
      exact ⟨fun _ => ⟨k, by omega, e.symm⟩, fun _ => rfl⟩
    · rw [if_neg e, stayTo_iff zs a k]
      constructor
      · rintro ⟨j, h1, h2⟩; exact ⟨j, by omega, h2⟩
      · rintro ⟨j, h1, h2⟩
        by_cases ej : j = k
        · subst ej; exact absurd h2.symm e
        · exact ⟨j, by omega, h2⟩
/-- The places of the objects with some numbers. -/
def placesOf (os : List Ob) (ks : List Nat) : List Int := ks.map fun k => ((os.getD k ob0).at' : Int)
theorem placesOf_stay (os : List Ob) (ks : List Nat) (a : Nat) : stayTo (placesOf os ks) (placesOf os ks).length a = true ↔ ∃ k ∈ ks, (os.getD k ob0).at' = a := by
  rw [stayTo_iff]
  unfold placesOf
  rw [List.length_map]
  constructor
  · rintro ⟨j, hj, e⟩
    refine ⟨ks[j], List.getElem_mem hj, ?_⟩
    rw [List.getD_eq_getElem?_getD, List.getElem?_map, List.getElem?_eq_getElem hj] at e
    exact e
  · rintro ⟨k, hk, e⟩
    obtain ⟨j, hj, rfl⟩ := List.getElem_of_mem hk
    refine ⟨j, hj, ?_⟩
    rw [List.getD_eq_getElem?_getD, List.getElem?_map, List.getElem?_eq_getElem hj]
    exact e
theorem getD_mem (os : List Ob) (i : Nat) (h : i < os.length) : os.getD i ob0 ∈ os := by
  rw [List.getD_eq_getElem?_getD, List.getElem?_eq_getElem h]
  exact List.getElem_mem h
/-- Keep keeps the laws' list right. -/
theorem Agree.keep {s t : St} {os : List Ob} (h : Agree s os) (hi : s.Inv) {ks : List Nat} (hks : ∀ k ∈ ks, k < os.length) (ht : s.Kept t (stayTo (placesOf os ks) (placesOf os ks).length)) :
    Agree t (leftTo os ks os.length) ∧ Bm.cnt (fun x => s.B 0 x && !stayTo (placesOf os ks) (placesOf os ks).length x) 0 (64 * s.n) + (leftTo os ks os.length).length = os.length := by
  have ha : Agree t (leftTo os ks os.length) := by
    refine ⟨fun o ho => ?_, fun a ha => ?_, ?_⟩
    · obtain ⟨j, hj, hk, rfl⟩ := (leftTo_mem os ks o _).1 ho
      obtain ⟨h1, h2⟩ := h.here _ (getD_mem os j hj)
      have hb : t.B 0 (os.getD j ob0).at' = true := by
        rw [ht.b0, h1, (placesOf_stay os ks _).2 ⟨j, hk, rfl⟩]; rfl
      refine ⟨hb, ?_⟩
      rw [← h2]
      unfold St.sh
      rw [ht.S _ hb]
    · rw [ht.b0, Bool.and_eq_true] at ha
      obtain ⟨k, hk, e⟩ := (placesOf_stay os ks a).1 ha.2
      exact ⟨_, (leftTo_mem os ks _ _).2 ⟨k, hks k hk, hk, rfl⟩, e⟩
    · have := leftTo_sub os ks os.length (Nat.le_refl _)
      rw [List.take_length] at this
      exact h.once.sublist (this.map _)
  refine ⟨ha, ?_⟩
  have h1 := h.count hi
  have h2 := ha.count ht.inv
  rw [ht.n] at h2
  have h3 := cnt_split (s.B 0) (stayTo (placesOf os ks) (placesOf os ks).length) (64 * s.n)
  have h4 : Bm.cnt (t.B 0) 0 (64 * s.n) = Bm.cnt (fun x => s.B 0 x && stayTo (placesOf os ks) (placesOf os ks).length x) 0 (64 * s.n) := Bm.cnt_congr fun i _ _ => ht.b0 i
  omega
end Go.Proofs.YtiniadochjeieaaDoor

namespace Go.Proofs.YtiniadochjeieaaDoor
open Go Go.RowKit

theorem obCells_at (os : List Ob) : ∀ (i c : Nat), i < os.length → c < 5 → (obCells os)[i * 5 + c]? = (os.getD i ob0).cells[c]? := by
  unfold obCells
  induction os with
  | nil => intro i c h; simp at h
  | cons o os ih =>
    intro i c hi hc
    rw [List.flatMap_cons]
    have h5 : o.cells.length = 5 := rfl
    cases i with
    | zero =>
      rw [Nat.zero_mul, Nat.zero_add, List.getElem?_append_left (by omega)]
      rfl
    | succ i =>
      rw [List.getElem?_append_right (by omega), h5, show (i + 1) * 5 + c - 5 = i * 5 + c by omega, ih i c (by simpa using hi) hc]
      rfl
theorem Tryd.infoI5 : (Tryd.prog.info? 3).map (fun i => (i.zero, i.size, i.bytes)) = some (some (.int .i64 0), 1, 8) := by kernel_rfl
theorem Tryd.infoB5 : (Tryd.prog.info? 4).map (fun i => (i.zero, i.size, i.bytes)) = some (some (.bool false), 1, 1) := by kernel_rfl
/-- A number more at the end of a list of a law's own. -/
theorem int_append (W : World) (base : Nat) (zs : List Int) (v : Value) (hr : W.ownsRow base 3 1 v zs.length (zs.map (Value.int .i64))) (hb : base ≤ W.heap.size) (hl : zs.length ≤ 1000000) (x : Int) (N : Nat) (hN : W.heap.size = N) :
    ∃ v' w', (Builtin.append_ #[41, 41] 41 #[v, .slice (some ⟨N, 0, none⟩) 1 1]).run Tryd.prog (W.alloc (.cells #[.int .i64 x] 3)) = .ok v' w' ∧
      w'.ownsRow base 3 1 v' (zs ++ [x]).length ((zs ++ [x]).map (Value.int .i64)) ∧ Only base W.heap.size W w' ∧ W.heap.size < w'.heap.size := by
  subst hN
  obtain ⟨i0, hi, hz0, hz1, hz2⟩ := info_parts Tryd.infoI5
  obtain ⟨v', w', h1, h2, h3, _⟩ := run_append_own (P := Tryd.prog) (W.alloc (.cells #[.int .i64 x] 3)) base 41 41 3 i0 _ 1 8 Tryd.underlying41 hi hz0 hz1 hz2 rfl (by decide) v zs.length (zs.map (Value.int .i64)) (hr.alloc _)
    ⟨W.heap.size, 0, none⟩ 1 1 [.int .i64 x] rfl (fun j u hu => by
      have e : (⟨W.heap.size, 0, none⟩ : Addr).add j = ⟨W.heap.size, j, none⟩ := by unfold Addr.add; split <;> simp_all
      rw [e]
      simp only [World.cell?, heap_alloc_new]
      have hj : j < 1 := by have := (List.getElem?_eq_some_iff.1 hu).1; exact this
      obtain rfl : j = 0 := by omega
      exact hu) (by
      intro u hu
      simp only [List.mem_cons, List.not_mem_nil, or_false] at hu
      subst hu; rfl) (by unfold maxLen; omega) (by omega) (by simp; omega)
  refine ⟨v', w', h1, ?_, ?_, ?_⟩
  · rw [List.length_append, List.map_append]
    exact h2
  · have hst : Only base W.heap.size W (W.alloc (.cells #[.int .i64 x] 3)) := (Only.refl _ _ W).alloc _
    exact hst.grown h3 (fun k hk => .inl (hr.lt k hk))
  · have := h3.size
    simp at this
    omega
/-- The marks. -/
def boolCells (ks : List Nat) (n : Nat) : Array Value := Array.ofFn (n := n) fun j => .bool (decide (j.val ∈ ks))
theorem bool_at (ks : List Nat) (n j : Nat) (h : j < n) : (boolCells ks n)[j]? = some (.bool (decide (j ∈ ks))) := by
  unfold boolCells
  rw [Array.getElem?_ofFn]
  simp [h]
theorem bool_set (ks : List Nat) (n k : Nat) : (boolCells ks n).setIfInBounds k (.bool true) = boolCells (ks ++ [k]) n := by
  apply Array.ext_getElem?
  intro j
  have hs : (boolCells ks n).size = n := by unfold boolCells; simp
  have hs2 : (boolCells (ks ++ [k]) n).size = n := by unfold boolCells; simp
  by_cases hj : j < n
  · rw [bool_at (ks ++ [k]) n j hj, Array.getElem?_setIfInBounds, bool_at ks n j hj, hs]
    by_cases h : k = j
    · subst h; simp [hj]
    · rw [if_neg h]
      have : decide (j ∈ ks ++ [k]) = decide (j ∈ ks) := decide_eq_decide.2 ⟨fun hh => by
        rcases List.mem_append.1 hh with hh | hh
        · exact hh
        · exact absurd (List.mem_singleton.1 hh).symm h, fun hh => List.mem_append.2 (.inl hh)⟩
      rw [this]
  · rw [Array.getElem?_eq_none (by simp [hs]; omega), Array.getElem?_eq_none (by simp [hs2]; omega)]
theorem made_bools (N : Nat) : madeCells #[.bool false] N = boolCells [] N := by
  rw [made_replicate]
  apply Array.ext_getElem?
  intro j
  by_cases hj : j < N
  · rw [bool_at _ N j hj]; simp [hj]
  · rw [Array.getElem?_eq_none (by simpa using Nat.not_lt.1 hj), Array.getElem?_eq_none (by unfold boolCells; simp; omega)]
theorem make_bools (n : Nat) (hn : n ≤ 1000000) (w : World) : (Instr.makeSlice 67 (.int .i64 (n : Int)) (.int .i64 (n : Int))).run Tryd.prog w = .ok (.slice (some ⟨w.heap.size, 0, none⟩) n n) (w.alloc (.cells (boolCells [] n) 4)) := by
  obtain ⟨i0, hi, hz0, hz1, hz2⟩ := info_parts Tryd.infoB5
  have hmk := run_make (P := Tryd.prog) w 67 4 i0 (.bool false) Tryd.underlying67 hi hz0 .i64 .i64 (n : Int) (n : Int) (by omega) (Int.le_refl _) (by rw [hz2]; omega) (by omega)
  rw [hz1, Int.toNat_natCast, show (Value.bool false).cells = #[Value.bool false] from rfl, Nat.mul_one, made_bools] at hmk
  exact hmk
/-- The numbers that a list names. -/
def ksOf (zs : Nat → Int) (n : Nat) (i : Nat) : List Nat := (List.range i).map fun j => (wi (zs j) n).toNat
theorem ksOf_succ (zs : Nat → Int) (n i : Nat) : ksOf zs n (i + 1) = ksOf zs n i ++ [(wi (zs i) n).toNat] := by unfold ksOf; rw [List.range_succ, List.map_append]; rfl
theorem ksOf_length (zs : Nat → Int) (n i : Nat) : (ksOf zs n i).length = i := by unfold ksOf; simp
theorem ints_of_row {w : World} {base : Nat} {v : Value} {zs : List Int} (h : w.ownsRow base 3 1 v zs.length (zs.map (Value.int .i64))) (hl : zs.length ≤ 140737488355328) : IntsAt w v zs := by
  rcases h.2 with ⟨h1, h2⟩ | ⟨g, cap, cur, hv, hb, hg, _⟩
  · exact .inl ⟨h1, List.length_eq_zero_iff.1 h2⟩
  · refine .inr ⟨g, 0, cap, hv, hl, fun j hj => ?_⟩
    have hc := h.cells (g := g) (by rw [hv]; rfl) j (.int .i64 (zs.getD j 0)) (by rw [List.getElem?_map, List.getElem?_eq_getElem hj, List.getD_eq_getElem?_getD, List.getElem?_eq_getElem hj]; rfl)
    have e : (⟨g, 0, none⟩ : Addr).add j = ⟨g, 0 + j, none⟩ := by unfold Addr.add; split <;> simp_all
    rwa [e] at hc
theorem ownsRow_le {w : World} {base base' : Nat} {e : TypeId} {size : Nat} {v : Value} {n : Nat} {xs : List Value} (h : w.ownsRow base e size v n xs) (hb : base' ≤ base) : w.ownsRow base' e size v n xs := by
  refine ⟨h.1, ?_⟩
  rcases h.2 with h1 | ⟨g, cap, cur, hv, h2, h3⟩
  · exact .inl h1
  · exact .inr ⟨g, cap, cur, hv, Nat.le_trans hb h2, h3⟩
theorem add_at (g j : Nat) : (⟨g, 0, none⟩ : Addr).add j = ⟨g, j, none⟩ := by unfold Addr.add; split <;> simp_all
/-- Where the objects of a law lie. -/
theorem Wld.at {w : World} {L : Lay} {s : St} {wb : Nat} {os : List Ob} {ao : Option Addr} {cp : Nat} (h : Wld w L s wb os (.slice ao os.length cp)) (h0 : 0 < os.length) :
    ∃ g, ao = some ⟨g, 0, none⟩ ∧ L.hi ≤ g ∧ g < w.heap.size ∧ ∀ j c, j < os.length → c < 5 → w.cell? ⟨g, j * 5 + c, none⟩ = (os.getD j ob0).cells[c]? := by
  rcases h.row.2 with ⟨_, h1⟩ | ⟨g, cap', cur, hv, hb, hg, hnc, hcm, hs, ht⟩
  · omega
  · injection hv with e1 e2 e3
    refine ⟨g, e1, hb, (Array.getElem?_eq_some_iff.1 hg).1, fun j c hj hc => ?_⟩
    have hcc : c = 0 ∨ c = 1 ∨ c = 2 ∨ c = 3 ∨ c = 4 := by omega
    have hob := obCells_at os j c hj hc
    have hx : ∃ u, (os.getD j ob0).cells[c]? = some u := by rcases hcc with rfl | rfl | rfl | rfl | rfl <;> exact ⟨_, rfl⟩
    obtain ⟨u, hu⟩ := hx
    have hcl := h.row.cells (g := g) (by rw [e1]; rfl) (j * 5 + c) u (by rw [hob]; exact hu)
    rw [add_at] at hcl
    rw [hcl, hu]

set_option maxRecDepth 100000 in
set_option maxHeartbeats 1600000 in
theorem keeps_any (w : World) (L : Lay) (s : St) (wb : Nat) (os : List Ob) (v : Value) (hW : Wld w L s wb os v) (la : Option Addr) (ll lc : Nat) (zs : Nat → Int) (hz : IsRowI w la ll lc zs) (hll : ll ≤ 1000) (hl : os.length ≤ 1000000) (hlt : ∀ x, la = some x → 0 < ll → x.block < wb) (Q : Ending → World → Prop)
    (hQ : ∀ w' s' os' v', Wld w' L s' wb os' v' → s'.n = s.n → s'.acts ≤ s.acts → os'.length ≤ os.length → Frm wb L w v w' v' → (∃ stay, s.Kept s' stay) → Q (.returned (.bool true)) w') :
    Calls Tryd.prog 30 #[.pointer (some ⟨wb, 0, none⟩), .slice la ll lc] w Q := by
  have HQ := Lib.hid hQ
  have HW := Lib.hid hW
  have HZ := Lib.hid hz
  have HLT := Lib.hid hlt
  have c1 := hW.c1
  have c2 := hW.c2
  have hwl := hW.lt
  obtain ⟨ao, cp, hv⟩ : ∃ ao cp, v = .slice ao os.length cp := by
    rcases hW.row.2 with ⟨h1, h2⟩ | ⟨g, cap, cur, h1, _⟩
    · rw [h2]; exact ⟨_, _, h1⟩
    · exact ⟨_, _, h1⟩
  subst hv
  obtain ⟨n, hn⟩ : ∃ n, os.length = n := ⟨_, rfl⟩
  have HN := Lib.hid hn
  rw [hn] at c2
  have hnI : (n : Int) ≤ 1000000 := by omega
  have hn0 : (0 : Int) ≤ (n : Int) := by omega
  have hlI : (ll : Int) ≤ 1000 := by omega
  clear hQ hW hz hlt hn
  go_enter Tryd.func30, Tryd.ntmps30
  have HMK := Lib.hid (make_bools n (by omega))
  have hmk := HMK.out w
  go_wp2_with fail
  have hB0 := heap_alloc_new w (.cells (boolCells [] n) 4)
  have hs1 : Still w (w.alloc (.cells (boolCells [] n) 4)) := (Only.refl _ _ w).alloc _
  have HL1 : Hid (w.heap.size < (w.alloc (.cells (boolCells [] n) 4)).heap.size) := Lib.hid (by simp)
  generalize w.alloc (.cells (boolCells [] n) 4) = w1 at *
  have HS1 := Lib.hid hs1
  have HB0 := Lib.hid hB0
  clear hs1 hB0 hmk HMK
  go_loopw [6, 7] (fun x y wr => ∃ (i : Nat), y = .int .i64 (i : Int) ∧ i ≤ ll ∧ (n = 0 → i = 0) ∧ Still w wr ∧ w.heap.size < wr.heap.size ∧ wr.heap[w.heap.size]? = some (.cells (boolCells (ksOf zs n i) n) 4 (0, 0)) ∧ wr.ownsRow (w.heap.size + 1) 3 1 x i ((placesOf os (ksOf zs n i)).map (Value.int .i64))) (fun _ y _ => ll + 1 - (intOf y).toNat)
  case atStart => exact ⟨0, rfl, by omega, fun _ => rfl, HS1.out, HL1.out, HB0.out, World.ownsRow_nil _ _ _ _⟩
  case round =>
    obtain ⟨i, rfl, hi, hi0n, hst, hsz, hb, hpl⟩ := hrel
    have HST := Lib.hid hst
    have HSZ := Lib.hid hsz
    have HB := Lib.hid hb
    have HPL := Lib.hid hpl
    have HI0 := Lib.hid hi0n
    have hi0 : (0 : Int) ≤ (i : Int) := by omega
    have hW2 := HW.out.still hst
    have d1 := hW2.c1
    have d2 := hW2.c2
    have dl := hW2.lt
    rw [HN.out] at d2
    clear hst hsz hb hpl hi0n hW2
    by_cases hlt : i < ll
    · have hltI : (i : Int) < (ll : Int) := by omega
      by_cases hnz : n = 0
      · have g1 : decide ((i : Int) < (ll : Int)) = true := decide_eq_true hltI
        have g2 : decide ((0 : Int) < (n : Int)) = false := decide_eq_false (by omega)
        have g3 : decide (0 < n) = false := decide_eq_false (by omega)
        clear hnz
        obtain ⟨ks, hks⟩ : ∃ ks, ksOf zs n i = ks := ⟨_, rfl⟩
        have hkl : ∀ k ∈ ks, k < os.length := by
          rw [← hks]
          intro k hk
          unfold ksOf at hk
          obtain ⟨j, hj, rfl⟩ := List.mem_map.1 hk
          have hj := List.mem_range.1 hj
          rw [HN.out]
          have hnp : 0 < n := by
            rcases Nat.eq_zero_or_pos n with e | e
            · have := HI0.out e; omega
            · exact e
          have := wi_range (zs j) n (by omega)
          omega
        have hpn : (placesOf os ks).length = i := by rw [← hks]; unfold placesOf; rw [List.length_map, ksOf_length]
        rw [hks] at HB HPL
        have HKL := Lib.hid hkl
        have HPN := Lib.hid hpn
        clear hks hkl hpn
        clear d1 dl
        generalize wr = wq at *
        go_wp2_with fail
        go_loopw [9, 10] (fun x y wz => ∃ j : Nat, y = .int .i64 (j : Int) ∧ j ≤ n ∧ Still wq wz ∧ wz.ownsRow wq.heap.size 34 5 x (leftTo os ks j).length (obCells (leftTo os ks j))) (fun _ y _ => n + 1 - (intOf y).toNat)
        case atStart => exact ⟨0, rfl, Nat.zero_le _, Only.refl _ _ _, World.ownsRow_nil _ _ _ _⟩
        case round =>
          obtain ⟨j, rfl, hj, hst2, hrow⟩ := hrel
          have HST2 := Lib.hid hst2
          have HROW := Lib.hid hrow
          have HSTA := Lib.hid (Still.trans HST.out hst2)
          have hj0 : (0 : Int) ≤ (j : Int) := by omega
          have hW3 := HW.out.still HSTA.out
          have d1 := hW3.c1
          have d3 := hW3.c2
          have dl := hW3.lt
          have df := hW3.f 2
          rw [HN.out] at d3
          have hb3 : wr.heap[w.heap.size]? = _ := (hst2.block _ HSZ.out (.inl HSZ.out)).trans HB.out
          have hbl : w.heap.size < wr.heap.size := (Array.getElem?_eq_some_iff.1 hb3).1
          by_cases hjn : j < n
          · have hjI : (j : Int) < (n : Int) := by omega
            have e1 : wr.cell? ⟨w.heap.size, j, none⟩ = some (.bool (decide (j ∈ ks))) := by
              simp only [World.cell?, hb3]
              exact bool_at _ _ _ hjn
            clear hst2 hrow hW3 hb3
            by_cases hm : j ∈ ks
            · rw [decide_eq_true hm] at e1
              obtain ⟨g, rfl, hgh, hgl, hgc⟩ := HW.out.at (by rw [HN.out]; omega)
              have hcell : ∀ c, c < 5 → wr.cell? ⟨g, j * 5 + c, none⟩ = (os.getD j ob0).cells[c]? := fun c hc => by
                rw [HSTA.out.cell (p := ⟨g, j * 5 + c, none⟩) hgl (.inl hgl)]
                exact hgc j c (by rw [HN.out]; exact hjn) hc
              obtain ⟨o, ho⟩ : ∃ o, os.getD j ob0 = o := ⟨_, rfl⟩
              rw [ho] at hcell
              have HO := Lib.hid ho
              have a0 : wr.cell? ⟨g, j * 5, none⟩ = some (.int .i64 (o.at' : Int)) := hcell 0 (by omega)
              have a1 : wr.cell? ⟨g, j * 5 + 1, none⟩ = some (.int .i64 o.sh.k) := hcell 1 (by omega)
              have a2 : wr.cell? ⟨g, j * 5 + 2, none⟩ = some (.int .i64 o.sh.z) := hcell 2 (by omega)
              have a3 : wr.cell? ⟨g, j * 5 + 3, none⟩ = some (.int .i64 o.sh.s) := hcell 3 (by omega)
              have a4 : wr.cell? ⟨g, j * 5 + 4, none⟩ = some (.int .i64 o.sh.t) := hcell 4 (by omega)
              have hlj := leftTo_le os ks j
              obtain ⟨v', w5, happ, hown, ho5, hs5, _, _⟩ := ob_append wr wq.heap.size (leftTo os ks j) u9 HROW.out HST2.out.size (by omega) o
              have HAPP := Lib.hid happ
              have HOWN := Lib.hid hown
              have HO5 := Lib.hid ho5
              clear happ hown ho5 hcell hgc ho hlj
              go_wp2_with (at_builtin; refine wpList_append_eq rfl _ _ 28 rfl _ _ _ _ rfl rfl HAPP.out ?_)
              have hle : leftTo os ks (j + 1) = leftTo os ks j ++ [o] := by
                rw [← HO.out]
                show (if j ∈ ks then _ else _) = _
                rw [if_pos hm]
              refine ⟨⟨j + 1, by go_num, hjn, ?_, ?_⟩, ?_⟩
              · exact HST2.out.trans' HO5.out (.inr (Nat.le_refl _)) (.inr (Nat.le_refl _))
              · rw [hle]; exact HOWN.out
              · simp [intOf]; omega
            · rw [decide_eq_false hm] at e1
              have HM := Lib.hid hm
              clear hm
              go_wp2_with fail
              have hle : leftTo os ks (j + 1) = leftTo os ks j := by
                show (if j ∈ ks then _ else _) = _
                rw [if_neg HM.out]
              refine ⟨⟨j + 1, by go_num, hjn, HST2.out, ?_⟩, ?_⟩
              · rw [hle]; exact HROW.out
              · simp [intOf]; omega
          · obtain rfl : j = n := by omega
            obtain ⟨ao9, cp9, hv9⟩ : ∃ ao9 cp9, u9 = .slice ao9 (leftTo os ks j).length cp9 := by
              rcases hrow.2 with ⟨h1, h2⟩ | ⟨g, cap, cur, h1, _⟩
              · rw [h2]; exact ⟨_, _, h1⟩
              · exact ⟨_, _, h1⟩
            subst hv9
            have hlen := leftTo_le os ks j
            obtain ⟨m, hm⟩ : ∃ m, (leftTo os ks j).length = m := ⟨_, rfl⟩
            have hints : IntsAt wr u6 (placesOf os ks) := by
              have hp : wr.ownsRow (w.heap.size + 1) 3 1 u6 (placesOf os ks).length ((placesOf os ks).map (Value.int .i64)) := by
                rw [HPN.out]
                refine ownsRow_of_block HPL.out fun g hg => ?_
                have := (HPL.out.lt g hg).2
                exact hst2.block g this (.inl this)
              exact ints_of_row hp (by rw [HPN.out]; omega)
            have hhas : ∀ q, q < (placesOf os ks).length → s.has ((placesOf os ks).getD q 0) = true := fun q hq => by
              have hq2 : q < ks.length := by unfold placesOf at hq; rwa [List.length_map] at hq
              have he : (placesOf os ks).getD q 0 = ((os.getD ks[q] ob0).at' : Int) := by
                unfold placesOf
                rw [List.getD_eq_getElem?_getD, List.getElem?_map, List.getElem?_eq_getElem hq2]; rfl
              rw [he]
              unfold St.has
              rw [decide_eq_true (by omega), Int.toNat_natCast]
              exact (HW.out.agree.here _ (getD_mem os _ (HKL.out _ (List.getElem_mem hq2)))).1
            have HKP := Lib.hid (keep_inv wr L s hW3.sp HW.out.inv u6 (placesOf os ks) hints hhas)
            have HM := Lib.hid hm
            rw [hm]
            clear hst2 hrow hW3 hb3 hints hhas hm
            go_wp2_with fail
            refine HKP.out _ (fun w7 t7 hk hsp ho => ?_)
            have hag := HW.out.agree.keep HW.out.inv HKL.out hk
            rw [HN.out] at hag
            obtain ⟨cN, hcN⟩ : ∃ cN, Bm.cnt (fun x => s.B 0 x && !stayTo (placesOf os ks) (placesOf os ks).length x) 0 (64 * s.n) = cN := ⟨_, rfl⟩
            rw [hcN, HM.out] at hag
            rw [hcN]
            have hsum := hag.2
            have hsub : IntKind.i64.wrap ((j : Int) - (m : Int)) = (cN : Int) := by rw [IntKind.wrap_i64]; omega
            have hsubz : (j : Int) - (m : Int) = (cN : Int) := by omega
            have hW3 := HW.out.still HSTA.out
            have hb7 : w7.heap[wb]? = _ := (ho.block wb dl (.inl HW.out.lo)).trans hW3.head
            have q2 := cell_of (v := .slice ao os.length cp) hb7 2 rfl
            rw [HN.out] at q2
            have qf := frozen_of hb7 2
            have ql := (Array.getElem?_eq_some_iff.1 hb7).1
            have hlh : L.hi ≤ w.heap.size := HW.out.sp.top
            have hrow7 : w7.ownsRow L.hi 34 5 (.slice ao9 m cp9) (leftTo os ks j).length (obCells (leftTo os ks j)) := by
              have h0 := HROW.out
              rw [HM.out] at h0 ⊢
              refine ownsRow_le (ownsRow_of_block h0 fun g hg => ?_) (Nat.le_trans hlh HST.out.size)
              obtain ⟨g1, g2⟩ := h0.lt g hg
              exact ho.block g g2 (.inr (by have := HST.out.size; omega))
            have hhalf : Half w7 L t7 wb os (.slice ao os.length cp) := by
              refine ⟨HW.out.pos, HW.out.lo, ?_, ownsRow_of_block hW3.row fun g hg => ?_, hsp⟩
              · rw [hb7, hk.n, hk.ser]
              · obtain ⟨g1, g2⟩ := hW3.row.lt g hg
                exact ho.block g g2 (.inr g1)
            have HFIN := Lib.hid (hhalf.up (Only.refl _ _ w7) hrow7 hk.inv (by exact hag.1))
            have HBEL : Hid (Frm wb L w (.slice ao os.length cp) (w7.setCell ⟨wb, 2, none⟩ (.slice ao9 m cp9)) (.slice ao9 m cp9)) := Lib.hid
              (((Frm.still _ HSTA.out hwl).trans ((Frm.space _ ho hW3.lo hW3.loLe).trans (Frm.own w7 _ ql 2 _))).swap (fun k hk e => by have h0 := HROW.out; rw [HM.out] at h0; have := (h0.lt k e).1; have := HST.out.size; omega))
            have HKN := Lib.hid (And.intro hk.n (And.intro hk.acts hk))
            clear hk hsp ho hag hsum hb7 hrow7 hhalf hW3
            go_wp2_with fail
            show Q (.returned (.bool true)) _
            exact HQ.out _ t7 (leftTo os ks j) _ HFIN.out HKN.out.1 (Nat.le_of_eq HKN.out.2.1) (by have := leftTo_le os ks j; rw [HN.out]; exact this) HBEL.out ⟨_, HKN.out.2.2⟩
      · have hnp : (0 : Int) < (n : Int) := by omega
        obtain ⟨x, rfl, hxc, hxw⟩ := HZ.out.2 i hlt
        have hxb : (x.add i).block = x.block := by unfold Addr.add; split <;> rfl
        have hxc2 : wr.cell? (x.add i) = some (.int .i64 (zs i)) := by
          rw [HST.out.cell (p := x.add i) (by rw [hxb]; exact Nat.lt_trans (HLT.out x rfl (by omega)) hwl) (.inl (by rw [hxb]; exact Nat.lt_trans (HLT.out x rfl (by omega)) hwl))]
          exact hxc
        have g1 : decide ((i : Int) < (ll : Int)) = true := decide_eq_true hltI
        have g2 : decide ((0 : Int) < (n : Int)) = true := decide_eq_true hnp
        obtain ⟨hw1, hw2⟩ := wf_i64 hxw
        obtain ⟨y, hy⟩ : ∃ y, zs i = y := ⟨_, rfl⟩
        rw [hy] at hxc2 hw1 hw2
        have HY := Lib.hid hy
        obtain ⟨kx, hkx⟩ : ∃ kx : Nat, wi y n = (kx : Int) := ⟨(wi y n).toNat, by have := wi_range y n hnp; omega⟩
        have hkr := wi_range y n hnp
        rw [hkx] at hkr
        have hkn : kx < n := by omega
        have hkI : (kx : Int) < (n : Int) := hkr.2
        have hk0 : (0 : Int) ≤ (kx : Int) := hkr.1
        have HWN := Lib.hid (fun w => within_any y n w hw1 hw2 hnp (by omega))
        rw [hkx] at HWN
        have HKX := Lib.hid hkx
        obtain ⟨g, rfl, hgh, hgl, hgc⟩ := HW.out.at (by rw [HN.out]; omega)
        have hgc0 := hgc kx 0 (by rw [HN.out]; exact hkn) (by omega)
        have hgc1 : wr.cell? ⟨g, kx * 5, none⟩ = some (.int .i64 ((os.getD kx ob0).at' : Int)) := by
          rw [HST.out.cell (p := ⟨g, kx * 5, none⟩) hgl (.inl hgl)]
          exact hgc0
        have hgne : g ≠ w.heap.size := by omega
        have hgc2 : ∀ m, ((wr.drewN m).setCell ⟨w.heap.size, kx, none⟩ (.bool true)).cell? ⟨g, kx * 5, none⟩ = some (.int .i64 ((os.getD kx ob0).at' : Int)) := fun m => set_cell (show (wr.drewN m).cell? ⟨g, kx * 5, none⟩ = _ from hgc1) hgne
        obtain ⟨pl, hpl⟩ : ∃ pl, (os.getD kx ob0).at' = pl := ⟨_, rfl⟩
        rw [hpl] at hgc2
        have HPL2 := Lib.hid hpl
        clear hgc0 hgc1 hgc hpl
        clear hxc hxw hy hkx hkr hnz hw1 hw2 hxb
        go_wp2_with fail
        go_quiet (((go_at_call 17; exact quiet_eq (HWN.out _))))
        have e1 : (wr.drewN nq).cell? ⟨w.heap.size, kx, none⟩ = some (.bool (decide (kx ∈ ksOf zs n i))) := by
          have := HB.out
          show wr.cell? _ = _
          simp only [World.cell?, this]
          exact bool_at _ _ _ hkn
        have f1 : (wr.drewN nq).frozen? ⟨w.heap.size, kx, none⟩ = false := by
          have := HB.out
          show wr.frozen? _ = _
          simp [World.frozen?, this]
        have hgc3 := hgc2 nq
        have hbW : ((wr.drewN nq).setCell ⟨w.heap.size, kx, none⟩ (.bool true)).heap[w.heap.size]? = some (.cells (boolCells (ksOf zs n (i + 1)) n) 4 (0, 0)) := by
          have hb0 : (wr.drewN nq).heap[w.heap.size]? = _ := HB.out
          simp only [World.setCell, Array.getElem?_modify, hb0]
          have hkk : (wi (zs i) n).toNat = kx := by rw [HY.out, HKX.out]; rfl
          rw [ksOf_succ, hkk, ← bool_set]
          simp
        have HBW := Lib.hid hbW
        have HSW : Hid (Still w ((wr.drewN nq).setCell ⟨w.heap.size, kx, none⟩ (.bool true))) := Lib.hid ((HST.out.drewN nq).setCell (.inr (Nat.le_refl _)) _)
        have hpw : ((wr.drewN nq).setCell ⟨w.heap.size, kx, none⟩ (.bool true)).ownsRow (w.heap.size + 1) 3 1 u6 (placesOf os (ksOf zs n i)).length ((placesOf os (ksOf zs n i)).map (Value.int .i64)) := by
          have hln : (placesOf os (ksOf zs n i)).length = i := by unfold placesOf; rw [List.length_map, ksOf_length]
          rw [hln]
          refine ownsRow_of_block HPL.out fun g hg => ?_
          have := (HPL.out.lt g hg).1
          rw [Below.heap_setCell _ _ _ _ (by show g ≠ w.heap.size; omega)]
          rfl
        have hsW : w.heap.size + 1 ≤ ((wr.drewN nq).setCell ⟨w.heap.size, kx, none⟩ (.bool true)).heap.size := (Array.getElem?_eq_some_iff.1 hbW).1
        have hlW : wb < ((wr.drewN nq).setCell ⟨w.heap.size, kx, none⟩ (.bool true)).heap.size := Nat.lt_trans hwl (by omega)
        have dW2 : ((wr.drewN nq).setCell ⟨w.heap.size, kx, none⟩ (.bool true)).cell? ⟨wb, 2, none⟩ = some (.slice (some ⟨g, 0, none⟩) n cp) := set_cell (show (wr.drewN nq).cell? ⟨wb, 2, none⟩ = _ from d2) (by show wb ≠ w.heap.size; omega)
        obtain ⟨v', w5, happ, hown, ho5, hs5⟩ := int_append _ (w.heap.size + 1) (placesOf os (ksOf zs n i)) u6 hpw hsW (by unfold placesOf; rw [List.length_map, ksOf_length]; omega) (pl : Int) wr.heap.size (by simp [World.setCell])
        have HAPP := Lib.hid happ
        have HOWN := Lib.hid hown
        have HO5 := Lib.hid ho5
        have HS5 := Lib.hid hs5
        clear happ hown ho5 hs5 hpw hbW hgc2
        go_wp2_with (at_builtin; refine wpList_append_eq rfl _ _ 41 rfl _ _ _ _ rfl rfl HAPP.out ?_)
        have hpe : placesOf os (ksOf zs n (i + 1)) = placesOf os (ksOf zs n i) ++ [(pl : Int)] := by
          have hkk : (wi (zs i) n).toNat = kx := by rw [HY.out, HKX.out]; rfl
          rw [ksOf_succ, hkk, ← HPL2.out]
          unfold placesOf
          rw [List.map_append]; rfl
        have hln : (placesOf os (ksOf zs n i) ++ [(pl : Int)]).length = i + 1 := by
          rw [List.length_append]; unfold placesOf; rw [List.length_map, ksOf_length]; rfl
        refine ⟨⟨i + 1, by go_num, hlt, fun h => by omega, ?_, ?_, ?_, ?_⟩, ?_⟩
        · exact HSW.out.trans' HO5.out (.inr (by omega)) (.inr (by omega))
        · exact Nat.lt_trans hsW HS5.out
        · exact (HO5.out.block _ hsW (.inl (by omega))).trans HBW.out
        · have := HOWN.out
          rw [hln] at this
          rw [hpe]
          exact this
        · simp [intOf]; omega
    · have g1 : decide ((i : Int) < (ll : Int)) = false := decide_eq_false (by omega)
      obtain ⟨ks, hks⟩ : ∃ ks, ksOf zs n i = ks := ⟨_, rfl⟩
      have hkl : ∀ k ∈ ks, k < os.length := by
        rw [← hks]
        intro k hk
        unfold ksOf at hk
        obtain ⟨j, hj, rfl⟩ := List.mem_map.1 hk
        have hj := List.mem_range.1 hj
        rw [HN.out]
        have hnp : 0 < n := by
          rcases Nat.eq_zero_or_pos n with e | e
          · have := HI0.out e; omega
          · exact e
        have := wi_range (zs j) n (by omega)
        omega
      have hpn : (placesOf os ks).length = i := by rw [← hks]; unfold placesOf; rw [List.length_map, ksOf_length]
      rw [hks] at HB HPL
      have HKL := Lib.hid hkl
      have HPN := Lib.hid hpn
      clear hks hkl hpn
      clear d1 dl
      generalize wr = wq at *
      go_wp2_with fail
      go_loopw [9, 10] (fun x y wz => ∃ j : Nat, y = .int .i64 (j : Int) ∧ j ≤ n ∧ Still wq wz ∧ wz.ownsRow wq.heap.size 34 5 x (leftTo os ks j).length (obCells (leftTo os ks j))) (fun _ y _ => n + 1 - (intOf y).toNat)
      case atStart => exact ⟨0, rfl, Nat.zero_le _, Only.refl _ _ _, World.ownsRow_nil _ _ _ _⟩
      case round =>
        obtain ⟨j, rfl, hj, hst2, hrow⟩ := hrel
        have HST2 := Lib.hid hst2
        have HROW := Lib.hid hrow
        have HSTA := Lib.hid (Still.trans HST.out hst2)
        have hj0 : (0 : Int) ≤ (j : Int) := by omega
        have hW3 := HW.out.still HSTA.out
        have d1 := hW3.c1
        have d3 := hW3.c2
        have dl := hW3.lt
        have df := hW3.f 2
        rw [HN.out] at d3
        have hb3 : wr.heap[w.heap.size]? = _ := (hst2.block _ HSZ.out (.inl HSZ.out)).trans HB.out
        have hbl : w.heap.size < wr.heap.size := (Array.getElem?_eq_some_iff.1 hb3).1
        by_cases hjn : j < n
        · have hjI : (j : Int) < (n : Int) := by omega
          have e1 : wr.cell? ⟨w.heap.size, j, none⟩ = some (.bool (decide (j ∈ ks))) := by
            simp only [World.cell?, hb3]
            exact bool_at _ _ _ hjn
          clear hst2 hrow hW3 hb3
          by_cases hm : j ∈ ks
          · rw [decide_eq_true hm] at e1
            obtain ⟨g, rfl, hgh, hgl, hgc⟩ := HW.out.at (by rw [HN.out]; omega)
            have hcell : ∀ c, c < 5 → wr.cell? ⟨g, j * 5 + c, none⟩ = (os.getD j ob0).cells[c]? := fun c hc => by
              rw [HSTA.out.cell (p := ⟨g, j * 5 + c, none⟩) hgl (.inl hgl)]
              exact hgc j c (by rw [HN.out]; exact hjn) hc
            obtain ⟨o, ho⟩ : ∃ o, os.getD j ob0 = o := ⟨_, rfl⟩
            rw [ho] at hcell
            have HO := Lib.hid ho
            have a0 : wr.cell? ⟨g, j * 5, none⟩ = some (.int .i64 (o.at' : Int)) := hcell 0 (by omega)
            have a1 : wr.cell? ⟨g, j * 5 + 1, none⟩ = some (.int .i64 o.sh.k) := hcell 1 (by omega)
            have a2 : wr.cell? ⟨g, j * 5 + 2, none⟩ = some (.int .i64 o.sh.z) := hcell 2 (by omega)
            have a3 : wr.cell? ⟨g, j * 5 + 3, none⟩ = some (.int .i64 o.sh.s) := hcell 3 (by omega)
            have a4 : wr.cell? ⟨g, j * 5 + 4, none⟩ = some (.int .i64 o.sh.t) := hcell 4 (by omega)
            have hlj := leftTo_le os ks j
            obtain ⟨v', w5, happ, hown, ho5, hs5, _, _⟩ := ob_append wr wq.heap.size (leftTo os ks j) u9 HROW.out HST2.out.size (by omega) o
            have HAPP := Lib.hid happ
            have HOWN := Lib.hid hown
            have HO5 := Lib.hid ho5
            clear happ hown ho5 hcell hgc ho hlj
            go_wp2_with (at_builtin; refine wpList_append_eq rfl _ _ 28 rfl _ _ _ _ rfl rfl HAPP.out ?_)
            have hle : leftTo os ks (j + 1) = leftTo os ks j ++ [o] := by
              rw [← HO.out]
              show (if j ∈ ks then _ else _) = _
              rw [if_pos hm]
            refine ⟨⟨j + 1, by go_num, hjn, ?_, ?_⟩, ?_⟩
            · exact HST2.out.trans' HO5.out (.inr (Nat.le_refl _)) (.inr (Nat.le_refl _))
            · rw [hle]; exact HOWN.out
            · simp [intOf]; omega
          · rw [decide_eq_false hm] at e1
            have HM := Lib.hid hm
            clear hm
            go_wp2_with fail
            have hle : leftTo os ks (j + 1) = leftTo os ks j := by
              show (if j ∈ ks then _ else _) = _
              rw [if_neg HM.out]
            refine ⟨⟨j + 1, by go_num, hjn, HST2.out, ?_⟩, ?_⟩
            · rw [hle]; exact HROW.out
            · simp [intOf]; omega
        · obtain rfl : j = n := by omega
          obtain ⟨ao9, cp9, hv9⟩ : ∃ ao9 cp9, u9 = .slice ao9 (leftTo os ks j).length cp9 := by
            rcases hrow.2 with ⟨h1, h2⟩ | ⟨g, cap, cur, h1, _⟩
            · rw [h2]; exact ⟨_, _, h1⟩
            · exact ⟨_, _, h1⟩
          subst hv9
          have hlen := leftTo_le os ks j
          obtain ⟨m, hm⟩ : ∃ m, (leftTo os ks j).length = m := ⟨_, rfl⟩
          have hints : IntsAt wr u6 (placesOf os ks) := by
            have hp : wr.ownsRow (w.heap.size + 1) 3 1 u6 (placesOf os ks).length ((placesOf os ks).map (Value.int .i64)) := by
              rw [HPN.out]
              refine ownsRow_of_block HPL.out fun g hg => ?_
              have := (HPL.out.lt g hg).2
              exact hst2.block g this (.inl this)
            exact ints_of_row hp (by rw [HPN.out]; omega)
          have hhas : ∀ q, q < (placesOf os ks).length → s.has ((placesOf os ks).getD q 0) = true := fun q hq => by
            have hq2 : q < ks.length := by unfold placesOf at hq; rwa [List.length_map] at hq
            have he : (placesOf os ks).getD q 0 = ((os.getD ks[q] ob0).at' : Int) := by
              unfold placesOf
              rw [List.getD_eq_getElem?_getD, List.getElem?_map, List.getElem?_eq_getElem hq2]; rfl
            rw [he]
            unfold St.has
            rw [decide_eq_true (by omega), Int.toNat_natCast]
            exact (HW.out.agree.here _ (getD_mem os _ (HKL.out _ (List.getElem_mem hq2)))).1
          have HKP := Lib.hid (keep_inv wr L s hW3.sp HW.out.inv u6 (placesOf os ks) hints hhas)
          have HM := Lib.hid hm
          rw [hm]
          clear hst2 hrow hW3 hb3 hints hhas hm
          go_wp2_with fail
          refine HKP.out _ (fun w7 t7 hk hsp ho => ?_)
          have hag := HW.out.agree.keep HW.out.inv HKL.out hk
          rw [HN.out] at hag
          obtain ⟨cN, hcN⟩ : ∃ cN, Bm.cnt (fun x => s.B 0 x && !stayTo (placesOf os ks) (placesOf os ks).length x) 0 (64 * s.n) = cN := ⟨_, rfl⟩
          rw [hcN, HM.out] at hag
          rw [hcN]
          have hsum := hag.2
          have hsub : IntKind.i64.wrap ((j : Int) - (m : Int)) = (cN : Int) := by rw [IntKind.wrap_i64]; omega
          have hsubz : (j : Int) - (m : Int) = (cN : Int) := by omega
          have hW3 := HW.out.still HSTA.out
          have hb7 : w7.heap[wb]? = _ := (ho.block wb dl (.inl HW.out.lo)).trans hW3.head
          have q2 := cell_of (v := .slice ao os.length cp) hb7 2 rfl
          rw [HN.out] at q2
          have qf := frozen_of hb7 2
          have ql := (Array.getElem?_eq_some_iff.1 hb7).1
          have hlh : L.hi ≤ w.heap.size := HW.out.sp.top
          have hrow7 : w7.ownsRow L.hi 34 5 (.slice ao9 m cp9) (leftTo os ks j).length (obCells (leftTo os ks j)) := by
            have h0 := HROW.out
            rw [HM.out] at h0 ⊢
            refine ownsRow_le (ownsRow_of_block h0 fun g hg => ?_) (Nat.le_trans hlh HST.out.size)
            obtain ⟨g1, g2⟩ := h0.lt g hg
            exact ho.block g g2 (.inr (by have := HST.out.size; omega))
          have hhalf : Half w7 L t7 wb os (.slice ao os.length cp) := by
            refine ⟨HW.out.pos, HW.out.lo, ?_, ownsRow_of_block hW3.row fun g hg => ?_, hsp⟩
            · rw [hb7, hk.n, hk.ser]
            · obtain ⟨g1, g2⟩ := hW3.row.lt g hg
              exact ho.block g g2 (.inr g1)
          have HFIN := Lib.hid (hhalf.up (Only.refl _ _ w7) hrow7 hk.inv (by exact hag.1))
          have HBEL : Hid (Frm wb L w (.slice ao os.length cp) (w7.setCell ⟨wb, 2, none⟩ (.slice ao9 m cp9)) (.slice ao9 m cp9)) := Lib.hid
              (((Frm.still _ HSTA.out hwl).trans ((Frm.space _ ho hW3.lo hW3.loLe).trans (Frm.own w7 _ ql 2 _))).swap (fun k hk e => by have h0 := HROW.out; rw [HM.out] at h0; have := (h0.lt k e).1; have := HST.out.size; omega))
          have HKN := Lib.hid (And.intro hk.n (And.intro hk.acts hk))
          clear hk hsp ho hag hsum hb7 hrow7 hhalf hW3
          go_wp2_with fail
          show Q (.returned (.bool true)) _
          exact HQ.out _ t7 (leftTo os ks j) _ HFIN.out HKN.out.1 (Nat.le_of_eq HKN.out.2.1) (by have := leftTo_le os ks j; rw [HN.out]; exact this) HBEL.out ⟨_, HKN.out.2.2⟩
end Go.Proofs.YtiniadochjeieaaDoor
