/-
  What keeping does to the laws' list. Plain, but for an append of ints.
-/
import Derived.Test.YtfbcdmhmpfijjaaGreatDoorQM4
namespace Go.Proofs.YtfbcdmhmpfijjaaGreatDoor
open Go Go.RowKit

theorem cnt_set {S : Nat → Bool} {x : Nat} (hx : S x = true) : ∀ N, x < N → Bm.cnt S 0 N = Bm.cnt (setS S x false) 0 N + 1
  | 0, h => by omega
  | N + 1, h => by
    show Bm.cnt S 0 N + (S (0 + N)).toNat = Bm.cnt (setS S x false) 0 N + (setS S x false (0 + N)).toNat + 1
    rw [Nat.zero_add]
    by_cases e : x = N
    · subst e
      have h1 : Bm.cnt S 0 x = Bm.cnt (setS S x false) 0 x := Bm.cnt_congr fun i _ hi => by unfold setS; rw [if_neg (by omega)]
      rw [h1, hx]
      unfold setS
      rw [if_pos rfl]
      rfl
    · rw [cnt_set hx N (by omega)]
      have h1 : setS S x false N = S N := by unfold setS; rw [if_neg (fun h => e h.symm)]
      rw [h1]
      omega
theorem cnt_list : ∀ (l : List Nat) (S : Nat → Bool) (N : Nat), l.Nodup → (∀ x ∈ l, x < N) → (∀ x, x < N → (S x = true ↔ x ∈ l)) → Bm.cnt S 0 N = l.length
  | [], S, N, _, _, h => Bm.cnt_zero fun i _ hi => by
    cases e : S i with
    | false => rfl
    | true => have := (h i (by omega)).1 e; cases this
  | x :: l, S, N, hn, hl, h => by
    have hn2 := List.nodup_cons.1 hn
    have hx := hl x (by simp)
    rw [cnt_set ((h x hx).2 (by simp)) N hx, cnt_list l (setS S x false) N hn2.2 (fun y hy => hl y (by simp [hy])) (fun y hy => ?_)]
    · rfl
    · unfold setS
      by_cases e : y = x
      · rw [if_pos e]
        subst e
        exact ⟨fun hh => (by cases hh), fun hh => absurd hh hn2.1⟩
      · rw [if_neg e, h y hy]
        simp [e]
theorem cnt_split (S T : Nat → Bool) : ∀ N, Bm.cnt S 0 N = Bm.cnt (fun x => S x && T x) 0 N + Bm.cnt (fun x => S x && !T x) 0 N
  | 0 => rfl
  | N + 1 => by
    show Bm.cnt S 0 N + (S (0 + N)).toNat = Bm.cnt (fun x => S x && T x) 0 N + (S (0 + N) && T (0 + N)).toNat + (Bm.cnt (fun x => S x && !T x) 0 N + (S (0 + N) && !T (0 + N)).toNat)
    rw [cnt_split S T N]
    cases S (0 + N) <;> cases T (0 + N) <;> simp <;> omega
theorem Agree.count {s : St} {os : List Ob} (h : Agree s os) (hi : s.Inv) : Bm.cnt (s.B 0) 0 (64 * s.n) = os.length := by
  rw [cnt_list (os.map Ob.at') (s.B 0) (64 * s.n) h.once (fun x hx => ?_) (fun x _ => ?_), List.length_map]
  · obtain ⟨o, ho, rfl⟩ := List.mem_map.1 hx
    exact (hi.obj _ (h.here o ho).1).2.lt.2
  · constructor
    · intro hx
      obtain ⟨o, ho, e⟩ := h.all x hx
      exact List.mem_map.2 ⟨o, ho, e⟩
    · intro hx
      obtain ⟨o, ho, rfl⟩ := List.mem_map.1 hx
      exact (h.here o ho).1

/-- Some object. -/
def ob0 : Ob := ⟨0, Sh.zero⟩
/-- Those of the first i objects whose numbers are named. -/
def leftTo (os : List Ob) (ks : List Nat) : Nat → List Ob
  | 0 => []
  | i + 1 => if i ∈ ks then leftTo os ks i ++ [os.getD i ob0] else leftTo os ks i
theorem leftTo_mem (os : List Ob) (ks : List Nat) (o : Ob) : ∀ i, o ∈ leftTo os ks i ↔ ∃ j, j < i ∧ j ∈ ks ∧ o = os.getD j ob0
  | 0 => ⟨fun h => (by cases h), fun ⟨j, hj, _⟩ => by omega⟩
  | i + 1 => by
    unfold leftTo
    by_cases h : i ∈ ks
    · rw [if_pos h, List.mem_append, leftTo_mem os ks o i, List.mem_singleton]
      constructor
      · rintro (⟨j, h1, h2⟩ | h1)
        · exact ⟨j, by omega, h2⟩
        · exact ⟨i, by omega, h, h1⟩
      · rintro ⟨j, h1, h2, h3⟩
        by_cases e : j = i
        · subst e; exact .inr h3
        · exact .inl ⟨j, by omega, h2, h3⟩
    · rw [if_neg h, leftTo_mem os ks o i]
      constructor
      · rintro ⟨j, h1, h2⟩
        exact ⟨j, by omega, h2⟩
      · rintro ⟨j, h1, h2, h3⟩
        by_cases e : j = i
        · subst e; exact absurd h2 h
        · exact ⟨j, by omega, h2, h3⟩
theorem leftTo_sub (os : List Ob) (ks : List Nat) : ∀ i, i ≤ os.length → (leftTo os ks i).Sublist (os.take i)
  | 0, _ => by simp [leftTo]
  | i + 1, h => by
    have ih := leftTo_sub os ks i (by omega)
    have e : os.take (i + 1) = os.take i ++ [os.getD i ob0] := by
      rw [List.take_add_one, List.getD_eq_getElem?_getD, List.getElem?_eq_getElem (by omega)]; rfl
    unfold leftTo
    rw [e]
    split
    · exact ih.append (List.Sublist.refl _)
    · exact ih.trans (List.sublist_append_left _ _)
theorem stayTo_iff (zs : List Int) (a : Nat) : ∀ k, stayTo zs k a = true ↔ ∃ j, j < k ∧ (zs.getD j 0).toNat = a
  | 0 => ⟨fun h => (by cases h), fun ⟨j, hj, _⟩ => by omega⟩
  | k + 1 => by
    show setS (stayTo zs k) (zs.getD k 0).toNat true a = true ↔ _
    unfold setS
    by_cases e : a = (zs.getD k 0).toNat
    · rw [if_pos e]
      exact ⟨fun _ => ⟨k, by omega, e.symm⟩, fun _ => rfl⟩
    · rw [if_neg e, stayTo_iff zs a k]
      constructor
      · rintro ⟨j, h1, h2⟩; exact ⟨j, by omega, h2⟩
      · rintro ⟨j, h1, h2⟩
        by_cases ej : j = k
        · subst ej; exact absurd h2.symm e
        · exact ⟨j, by omega, h2⟩
/-- The places of the objects with some numbers. -/
def placesOf (os : List Ob) (ks : List Nat) : List Int := ks.map fun k => ((os.getD k ob0).at' : Int)
theorem placesOf_stay (os : List Ob) (ks : List Nat) (a : Nat) : stayTo (placesOf os ks) (placesOf os ks).length a = true ↔ ∃ k ∈ ks, (os.getD k ob0).at' = a := by
  rw [stayTo_iff]
  unfold placesOf
  rw [List.length_map]
  constructor
  · rintro ⟨j, hj, e⟩
    refine ⟨ks[j], List.getElem_mem hj, ?_⟩
    rw [List.getD_eq_getElem?_getD, List.getElem?_map, List.getElem?_eq_getElem hj] at e
    exact e
  · rintro ⟨k, hk, e⟩
    obtain ⟨j, hj, rfl⟩ := List.getElem_of_mem hk
    refine ⟨j, hj, ?_⟩
    rw [List.getD_eq_getElem?_getD, List.getElem?_map, List.getElem?_eq_getElem hj]
    exact e
theorem getD_mem (os : List Ob) (i : Nat) (h : i < os.length) : os.getD i ob0 ∈ os := by
  rw [List.getD_eq_getElem?_getD, List.getElem?_eq_getElem h]
  exact List.getElem_mem h
/-- Keep keeps the laws' list right. -/
theorem Agree.keep {s t : St} {os : List Ob} (h : Agree s os) (hi : s.Inv) {ks : List Nat} (hks : ∀ k ∈ ks, k < os.length) (ht : s.Kept t (stayTo (placesOf os ks) (placesOf os ks).length)) :
    Agree t (leftTo os ks os.length) ∧ Bm.cnt (fun x => s.B 0 x && !stayTo (placesOf os ks) (placesOf os ks).length x) 0 (64 * s.n) + (leftTo os ks os.length).length = os.length := by
  have ha : Agree t (leftTo os ks os.length) := by
    refine ⟨fun o ho => ?_, fun a ha => ?_, ?_⟩
    · obtain ⟨j, hj, hk, rfl⟩ := (leftTo_mem os ks o _).1 ho
      obtain ⟨h1, h2⟩ := h.here _ (getD_mem os j hj)
      have hb : t.B 0 (os.getD j ob0).at' = true := by
        rw [ht.b0, h1, (placesOf_stay os ks _).2 ⟨j, hk, rfl⟩]; rfl
      refine ⟨hb, ?_⟩
      rw [← h2]
      unfold St.sh
      rw [ht.S _ hb]
    · rw [ht.b0, Bool.and_eq_true] at ha
      obtain ⟨k, hk, e⟩ := (placesOf_stay os ks a).1 ha.2
      exact ⟨_, (leftTo_mem os ks _ _).2 ⟨k, hks k hk, hk, rfl⟩, e⟩
    · have := leftTo_sub os ks os.length (Nat.le_refl _)
      rw [List.take_length] at this
      exact h.once.sublist (this.map _)
  refine ⟨ha, ?_⟩
  have h1 := h.count hi
  have h2 := ha.count ht.inv
  rw [ht.n] at h2
  have h3 := cnt_split (s.B 0) (stayTo (placesOf os ks) (placesOf os ks).length) (64 * s.n)
  have h4 : Bm.cnt (t.B 0) 0 (64 * s.n) = Bm.cnt (fun x => s.B 0 x && stayTo (placesOf os ks) (placesOf os ks).length x) 0 (64 * s.n) := Bm.cnt_congr fun i _ _ => ht.b0 i
  omega
end Go.Proofs.YtfbcdmhmpfijjaaGreatDoor

namespace Go.Proofs.YtfbcdmhmpfijjaaGreatDoor
open Go Go.RowKit

theorem obCells_at (os : List Ob) : ∀ (i c : Nat), i < os.length → c < 5 → (obCells os)[i * 5 + c]? = (os.getD i ob0).cells[c]? := by
  unfold obCells
  induction os with
  | nil => intro i c h; simp at h
  | cons o os ih =>
    intro i c hi hc
    rw [List.flatMap_cons]
    have h5 : o.cells.length = 5 := rfl
    cases i with
    | zero =>
      rw [Nat.zero_mul, Nat.zero_add, List.getElem?_append_left (by omega)]
      rfl
    | succ i =>
      rw [List.getElem?_append_right (by omega), h5, show (i + 1) * 5 + c - 5 = i * 5 + c by omega, ih i c (by simpa using hi) hc]
      rfl
theorem Tryz.infoI5 : (Tryz.prog.info? 3).map (fun i => (i.zero, i.size, i.bytes)) = some (some (.int .i64 0), 1, 8) := by kernel_rfl
theorem ownsRow_le {w : World} {base base' : Nat} {e : TypeId} {size : Nat} {v : Value} {n : Nat} {xs : List Value} (h : w.ownsRow base e size v n xs) (hb : base' ≤ base) : w.ownsRow base' e size v n xs := by
  refine ⟨h.1, ?_⟩
  rcases h.2 with h1 | ⟨g, cap, cur, hv, h2, h3⟩
  · exact .inl h1
  · exact .inr ⟨g, cap, cur, hv, Nat.le_trans hb h2, h3⟩
theorem add_at (g j : Nat) : (⟨g, 0, none⟩ : Addr).add j = ⟨g, j, none⟩ := by unfold Addr.add; split <;> simp_all
end Go.Proofs.YtfbcdmhmpfijjaaGreatDoor
