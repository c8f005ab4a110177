/-
  The pairs of a play.
-/
import Derived.Test.YtppeiljecgeifaaDoorL15
namespace Go.Proofs.YtppeiljecgeifaaDoor
open Go Go.RowKit
theorem turned_pair (lo hi n : Nat) (q : Addr) (S : Nat → Bool) (who k A B C : Int) (w : World) (hp : IsPair w lo hi q n S) (hA : A ≤ 9223372036854775807) :
    Calls Tryd.prog 40 #[.pointer (some q), opv who k A B C] w fun e w' => e = .returned (.bool true) ∧ (∃ S', IsPair w' lo hi q n S') ∧ Only lo hi w w' := by
  obtain ⟨qb, bx, pm, pr, a, b, c, d, rfl, hp⟩ := hp
  refine (turned_any lo hi qb bx pm pr a b c d n S who k A B C w hp hA).mono ?_
  rintro e w' ⟨rfl, ⟨S', h⟩, ho⟩
  exact ⟨rfl, ⟨S', qb, bx, pm, pr, a, b, c, d, rfl, h⟩, ho⟩
theorem looked_pair (lo hi n : Nat) (q : Addr) (S : Nat → Bool) (who k A B C : Int) (w : World) (hp : IsPair w lo hi q n S) (hlo : 0 < lo) (hT : Tab w) (hA : A ≤ 9223372036854775807) (hB : B ≤ 9223372036854775807 ∧ -9223372036854775808 ≤ B) :
    Calls Tryd.prog 42 #[.pointer (some q), opv who k A B C] w fun e w' => e = .returned (.bool true) ∧ (∃ S', IsPair w' lo hi q n S') ∧ Only lo hi w w' := by
  obtain ⟨qb, bx, pm, pr, a, b, c, d, rfl, hp⟩ := hp
  refine (looked_any lo hi qb bx pm pr a b c d n S who k A B C w hp hlo hT hA hB).mono ?_
  rintro e w' ⟨rfl, ⟨S', h⟩, ho⟩
  exact ⟨rfl, ⟨S', qb, bx, pm, pr, a, b, c, d, rfl, h⟩, ho⟩

/-- Where a pair lies; how long its maps are. -/
structure Pr where
  lo : Nat
  hi : Nat
  q : Addr
  n : Nat
def Far (x y : Pr) : Prop := x.hi ≤ y.lo ∨ y.hi ≤ x.lo
def Herd (w : World) (base : Nat) (L : List Pr) : Prop := (∀ x ∈ L, base ≤ x.lo ∧ ∃ S, IsPair w x.lo x.hi x.q x.n S) ∧ L.Pairwise Far
theorem pairwise_far {L : List Pr} (h : L.Pairwise Far) {x y : Pr} (hx : x ∈ L) (hy : y ∈ L) : x = y ∨ Far x y := by
  induction h with
  | nil => cases hx
  | cons ha _ ih =>
    rcases List.mem_cons.1 hx with rfl | hx1
    · rcases List.mem_cons.1 hy with rfl | hy1
      · exact .inl rfl
      · exact .inr (ha _ hy1)
    · rcases List.mem_cons.1 hy with rfl | hy1
      · exact .inr ((ha _ hx1).symm)
      · exact ih hx1 hy1
theorem Herd.kept {w w' : World} {base lo hi : Nat} {L : List Pr} (h : Herd w base L) (ho : Only lo hi w w') (hd : ∀ x ∈ L, x.hi ≤ lo ∨ hi ≤ x.lo) : Herd w' base L :=
  ⟨fun x hx => ⟨(h.1 x hx).1, by obtain ⟨S, hS⟩ := (h.1 x hx).2; exact ⟨S, hS.kept ho (hd x hx)⟩⟩, h.2⟩
theorem Herd.top {w : World} {base : Nat} {L : List Pr} (h : Herd w base L) {x : Pr} (hx : x ∈ L) : x.hi ≤ w.heap.size := by
  obtain ⟨S, hS⟩ := (h.1 x hx).2
  exact hS.top
theorem Herd.still {w w' : World} {base : Nat} {L : List Pr} (h : Herd w base L) (ho : Still w w') : Herd w' base L :=
  h.kept ho fun _ hx => .inl (h.top hx)
theorem Herd.turn {w w' : World} {base : Nat} {L : List Pr} (h : Herd w base L) {x : Pr} (hx : x ∈ L) (ho : Only x.lo x.hi w w') (hS : ∃ S', IsPair w' x.lo x.hi x.q x.n S') : Herd w' base L := by
  refine ⟨fun y hy => ⟨(h.1 y hy).1, ?_⟩, h.2⟩
  rcases pairwise_far h.2 hy hx with rfl | hf
  · exact hS
  · obtain ⟨S, hS⟩ := (h.1 y hy).2
    exact ⟨S, hS.kept ho hf⟩
theorem Herd.more {w : World} {base : Nat} {L : List Pr} (h : Herd w base L) {x : Pr} (hb : base ≤ x.lo) (hS : ∃ S, IsPair w x.lo x.hi x.q x.n S) (hf : ∀ y ∈ L, y.hi ≤ x.lo) : Herd w base (x :: L) := by
  refine ⟨fun y hy => ?_, List.pairwise_cons.2 ⟨fun y hy => .inr (hf y hy), h.2⟩⟩
  rcases List.mem_cons.1 hy with rfl | hy
  · exact ⟨hb, hS⟩
  · exact h.1 y hy

/-- What stands at the head of each round. -/
structure PlayAt (w0 w : World) (lb : Nat) (qa qb : Addr) (L : List Pr) (x y : Pr) : Prop where
  herd : Herd w w0.heap.size L
  ina : ∃ z ∈ L, z.q = qa
  inb : ∃ z ∈ L, z.q = qb
  inx : x ∈ L
  iny : y ∈ L
  head : w.heap[lb]? = some (.cells #[.pointer (some x.q), .pointer (some y.q)] 23 (0, 0))
  far : ∀ z ∈ L, lb < z.lo ∨ z.hi ≤ lb
  llo : w0.heap.size ≤ lb
  old : Still w0 w
def Play (w0 w : World) (lb : Nat) (qa qb : Addr) : Prop := ∃ L x y, PlayAt w0 w lb qa qb L x y
theorem PlayAt.c0 {w0 w : World} {lb : Nat} {qa qb : Addr} {L : List Pr} {x y : Pr} (h : PlayAt w0 w lb qa qb L x y) : w.cell? ⟨lb, 0, none⟩ = some (.pointer (some x.q)) := by simp [World.cell?, h.head]
theorem PlayAt.c1 {w0 w : World} {lb : Nat} {qa qb : Addr} {L : List Pr} {x y : Pr} (h : PlayAt w0 w lb qa qb L x y) : w.cell? ⟨lb, 1, none⟩ = some (.pointer (some y.q)) := by simp [World.cell?, h.head]
theorem PlayAt.lt {w0 w : World} {lb : Nat} {qa qb : Addr} {L : List Pr} {x y : Pr} (h : PlayAt w0 w lb qa qb L x y) : lb < w.heap.size := (Array.getElem?_eq_some_iff.1 h.head).1
theorem PlayAt.still {w0 w w' : World} {lb : Nat} {qa qb : Addr} {L : List Pr} {x y : Pr} (h : PlayAt w0 w lb qa qb L x y) (ho : Still w w') : PlayAt w0 w' lb qa qb L x y :=
  ⟨h.herd.still ho, h.ina, h.inb, h.inx, h.iny, by rw [ho.block lb h.lt (.inl h.lt)]; exact h.head, h.far, h.llo, h.old.trans (ho.any _ _)⟩
theorem PlayAt.turn {w0 w w' : World} {lb : Nat} {qa qb : Addr} {L : List Pr} {x y z : Pr} (h : PlayAt w0 w lb qa qb L x y) (hz : z ∈ L) (ho : Only z.lo z.hi w w') (hS : ∃ S', IsPair w' z.lo z.hi z.q z.n S') : PlayAt w0 w' lb qa qb L x y :=
  ⟨h.herd.turn hz ho hS, h.ina, h.inb, h.inx, h.iny, by rw [ho.block lb h.lt (h.far z hz)]; exact h.head, h.far, h.llo, h.old.trans' ho (.inr (h.herd.1 z hz).1) (.inr (h.herd.1 z hz).1)⟩

theorem box_cell {w : World} {p : Addr} {v : Value} {o : Obj} (h : w.cell? p = some v) : (w.alloc o).cell? p = some v :=
  ((Only.refl w.heap.size w.heap.size w).alloc o |>.cell (World.block_lt_of_cell? w _ h) (.inl (World.block_lt_of_cell? w _ h))).trans h
theorem head_frozen {w : World} {b : Nat} {cs : Array Value} {t : TypeId} (h : w.heap[b]? = some (.cells cs t (0, 0))) (j : Nat) : w.frozen? ⟨b, j, none⟩ = false := by simp [World.frozen?, h]
theorem box_frozen {w : World} {o : Obj} {q : Addr} (hb : q.block < w.heap.size) (h : w.frozen? q = false) : (w.alloc o).frozen? q = false :=
  ((Only.refl w.heap.size w.heap.size w).alloc o |>.frozen hb (.inl hb)).trans h
theorem set_cell {w : World} {p q : Addr} {v u : Value} (h : w.cell? p = some v) (hne : p.block ≠ q.block) : (w.setCell q u).cell? p = some v :=
  ((Only.refl q.block (q.block + 1) w).setCell (.inl ⟨Nat.le_refl _, Nat.lt_succ_self _⟩) u |>.cell (World.block_lt_of_cell? w _ h) (by omega)).trans h

theorem play_start {w w3 : World} {qa qb : Addr} {n k m1 m2 : Nat} (ha : IsPair w3 m1 m2 qa n fun _ => false) (hb : IsPair w3 m2 w3.heap.size qb k fun _ => false) (h1 : w.heap.size ≤ m1) (h2 : m1 ≤ m2) (hs : Still w w3) :
    Play w (w3.alloc (.cells #[.pointer (some qa), .pointer (some qb)] 23)) w3.heap.size qa qb := by
  have hs4 : Still w3 (w3.alloc (.cells #[.pointer (some qa), .pointer (some qb)] 23)) := (Only.refl _ _ w3).alloc _
  have hat := hb.top
  refine ⟨[⟨m1, m2, qa, n⟩, ⟨m2, w3.heap.size, qb, k⟩], ⟨m1, m2, qa, n⟩, ⟨m2, w3.heap.size, qb, k⟩, ⟨⟨?_, ?_⟩, ⟨⟨m1, m2, qa, n⟩, by simp, rfl⟩, ⟨⟨m2, w3.heap.size, qb, k⟩, by simp, rfl⟩, by simp, by simp, ?_, ?_, ?_, ?_⟩⟩
  · intro x hx
    simp only [List.mem_cons, List.not_mem_nil, or_false] at hx
    rcases hx with rfl | rfl
    · exact ⟨h1, _, ha.still hs4⟩
    · exact ⟨by show w.heap.size ≤ m2; omega, _, hb.still hs4⟩
  · simp [Far]
  · exact heap_alloc_eq _ _
  · intro x hx
    have := ha.top
    simp only [List.mem_cons, List.not_mem_nil, or_false] at hx
    rcases hx with rfl | rfl
    · exact .inr this
    · exact .inr (Nat.le_refl _)
  · exact hs.size
  · exact hs.trans (hs4.any _ _)
theorem play_op {w wr : World} {lb : Nat} {qa qb x : Addr} {who k A B C : Int} (h : Play w wr lb qa qb) (ho : OpAt w x who k A B C) : OpAt wr x who k A B C := by
  obtain ⟨_, _, _, h⟩ := h
  have hs := h.old
  obtain ⟨h0, h1, h2, h3, h4, h5⟩ := ho
  have old {p : Addr} {v : Value} (hp : w.cell? p = some v) : wr.cell? p = some v := (hs.below.cell (World.block_lt_of_cell? w _ hp)).trans hp
  exact ⟨old h0, old h1, old h2, old h3, old h4, h5⟩


theorem size_setCell (w : World) (p : Addr) (u : Value) : (w.setCell p u).heap.size = w.heap.size := by simp [World.setCell]
theorem head_set {w : World} {b j : Nat} {cs : Array Value} {t : TypeId} (h : w.heap[b]? = some (.cells cs t (0, 0))) (u : Value) : (w.setCell ⟨b, j, none⟩ u).heap[b]? = some (.cells (cs.set! j u) t (0, 0)) := by
  simp only [World.setCell, Array.getElem?_modify, h]
  simp
theorem set_frozen {w : World} {p q : Addr} {u : Value} {cs : Array Value} {t : TypeId} (h : w.heap[p.block]? = some (.cells cs t (0, 0))) (hne : p.block ≠ q.block) : (w.setCell q u).frozen? p = false := by
  have h1 := Below.heap_setCell w q u p.block hne
  simp only [World.frozen?, h1, h]
  simp
theorem copied_pair {w5 w6 w7 : World} {p' r' : Addr} {n lb j1 : Nat} {Z : Nat → Bool} (hl : lb < w5.heap.size) (h56 : w5.heap.size ≤ w6.heap.size) (h67 : w6.heap.size ≤ w7.heap.size)
    (hm : IsMap w7 w5.heap.size w6.heap.size p' n Z) (hr : IsRef w7 w6.heap.size w7.heap.size r' n Z) (v : Value) (w8 w9 w10 : World)
    (h8 : w8 = (w7.alloc (.cells #[.pointer (some p'), .pointer (some r'), .nilFunc] 52)).setCell ⟨lb, j1, none⟩ v)
    (h9 : w9 = (w8.drewN 1).alloc (.cells #[.pointer (some p')] 29)) (h10 : w10 = w9.setCell ⟨w7.heap.size, 2, none⟩ (itv w8.heap.size)) :
    IsPair w10 w5.heap.size w10.heap.size ⟨w7.heap.size, 0, none⟩ n Z ∧ Only lb (lb + 1) w7 w8 ∧ Still w8 w9 ∧ Only w7.heap.size (w7.heap.size + 1) w9 w10 ∧ w7.heap.size < w8.heap.size := by
  have o8 : Only lb (lb + 1) w7 w8 := by rw [h8]; exact ((Only.refl lb (lb + 1) w7).alloc _).setCell (.inl ⟨Nat.le_refl _, Nat.lt_succ_self _⟩) _
  have z8 : w8.heap.size = w7.heap.size + 1 := by rw [h8, size_setCell]; simp
  have o9 : Still w8 w9 := by rw [h9]; exact ((Only.refl _ _ w8).drewN 1).alloc _
  have z9 : w9.heap.size = w7.heap.size + 2 := by rw [h9]; show ((w8.drewN 1).heap.push _).size = _; rw [Array.size_push]; show w8.heap.size + 1 = _; omega
  have o10 : Only w7.heap.size (w7.heap.size + 1) w9 w10 := by rw [h10]; exact (Only.refl w7.heap.size (w7.heap.size + 1) w9).setCell (.inl ⟨Nat.le_refl _, Nat.lt_succ_self _⟩) _
  have z10 : w10.heap.size = w7.heap.size + 2 := by rw [h10, size_setCell]; exact z9
  have b8 : w8.heap[w7.heap.size]? = some (.cells #[.pointer (some p'), .pointer (some r'), .nilFunc] 52 (0, 0)) := by
    rw [h8, Below.heap_setCell _ _ _ _ (by show w7.heap.size ≠ lb; omega)]
    exact heap_alloc_eq _ _
  have b9 : w9.heap[w7.heap.size]? = some (.cells #[.pointer (some p'), .pointer (some r'), .nilFunc] 52 (0, 0)) := by
    rw [h9]; exact heap_alloc_lt b8
  have x9 : w9.heap[w8.heap.size]? = some (.cells #[.pointer (some p')] 29 (0, 0)) := by
    rw [h9]; exact heap_alloc_eq (w8.drewN 1) _
  refine ⟨⟨w7.heap.size, w8.heap.size, p', r', w5.heap.size, w6.heap.size, w6.heap.size, w7.heap.size, rfl, Nat.le_refl _, by omega, by omega, by omega, by omega, ?_, ?_, ?_, ?_, Nat.le_refl _, by omega, h56, by omega, .inl (Nat.le_refl _), .inr h67, .inr (Nat.le_refl _), .inr (by omega), .inr (by omega)⟩, o8, o9, o10, by omega⟩
  · rw [h10, head_set b9]; rfl
  · rw [h10, Below.heap_setCell _ _ _ _ (by show w8.heap.size ≠ w7.heap.size; omega)]; exact x9
  · exact ((hm.kept o8 (.inr (by omega))).kept o9 (.inl (by omega))).kept o10 (.inl (by omega))
  · exact ((hr.kept o8 (.inr (by omega))).kept o9 (.inl (by omega))).kept o10 (.inl (by omega))

theorem PlayAt.more0 {w0 w5 w6 w7 : World} {lb : Nat} {qa qb : Addr} {L : List Pr} {x y : Pr} (h : PlayAt w0 w5 lb qa qb L x y) {p' r' : Addr} {n : Nat} {Z : Nat → Bool} (h56 : w5.heap.size ≤ w6.heap.size) (h67 : w6.heap.size ≤ w7.heap.size) (hs : Still w5 w7)
    (hm : IsMap w7 w5.heap.size w6.heap.size p' n Z) (hr : IsRef w7 w6.heap.size w7.heap.size r' n Z) (w8 w9 w10 : World)
    (j1 : Nat) (h8 : w8 = (w7.alloc (.cells #[.pointer (some p'), .pointer (some r'), .nilFunc] 52)).setCell ⟨lb, j1, none⟩ (.pointer (some ⟨w7.heap.size, 0, none⟩)))
    (h9 : w9 = (w8.drewN 1).alloc (.cells #[.pointer (some p')] 29)) (h10 : w10 = w9.setCell ⟨w7.heap.size, 2, none⟩ (itv w8.heap.size)) (hj : j1 < 2) : Play w0 w10 lb qa qb := by
  obtain ⟨hp, o8, o9, o10, hz⟩ := copied_pair h.lt h56 h67 hm hr _ w8 w9 w10 h8 h9 h10
  have p7 := h.still hs
  have d8 := p7.herd.kept o8 (fun z hz => by have := p7.far z hz; omega)
  have d9 := d8.still o9
  have d10 := d9.kept o10 (fun z hz => .inl (p7.herd.top hz))
  have s8 : Still w0 w8 := p7.old.trans' o8 (.inr h.llo) (.inr h.llo)
  have s9 : Still w0 w9 := s8.trans (o9.any _ _)
  have hl7 : w0.heap.size ≤ w7.heap.size := p7.old.size
  have s10 : Still w0 w10 := s9.trans' o10 (.inr hl7) (.inr hl7)
  have hlt := p7.lt
  have b8 : w8.heap[lb]? = some (.cells ((#[.pointer (some x.q), .pointer (some y.q)] : Array Value).set! j1 (.pointer (some ⟨w7.heap.size, 0, none⟩))) 23 (0, 0)) := by
    rw [h8]; exact head_set (heap_alloc_lt p7.head) _
  have b10 : w10.heap[lb]? = some (.cells ((#[.pointer (some x.q), .pointer (some y.q)] : Array Value).set! j1 (.pointer (some ⟨w7.heap.size, 0, none⟩))) 23 (0, 0)) := by
    rw [o10.block lb (by have := o9.size; omega) (.inl hlt), o9.block lb (by omega) (.inl (by omega))]; exact b8
  have hmore : Herd w10 w0.heap.size (⟨w5.heap.size, w10.heap.size, ⟨w7.heap.size, 0, none⟩, n⟩ :: L) := d10.more (x := ⟨w5.heap.size, w10.heap.size, ⟨w7.heap.size, 0, none⟩, n⟩) h.old.size ⟨Z, hp⟩ (fun z hz => h.herd.top hz)
  have hfar : ∀ z ∈ (⟨w5.heap.size, w10.heap.size, ⟨w7.heap.size, 0, none⟩, n⟩ :: L : List Pr), lb < z.lo ∨ z.hi ≤ lb := by
    intro z hz
    rcases List.mem_cons.1 hz with rfl | hz
    · exact .inl h.lt
    · exact h.far z hz
  obtain ⟨za, hza, hza'⟩ := h.ina
  obtain ⟨zb, hzb, hzb'⟩ := h.inb
  have hj2 : j1 = 0 ∨ j1 = 1 := by omega
  rcases hj2 with rfl | rfl
  · exact ⟨_, ⟨w5.heap.size, w10.heap.size, ⟨w7.heap.size, 0, none⟩, n⟩, y, hmore, ⟨za, List.mem_cons_of_mem _ hza, hza'⟩, ⟨zb, List.mem_cons_of_mem _ hzb, hzb'⟩, List.mem_cons_self, List.mem_cons_of_mem _ h.iny, b10, hfar, h.llo, s10⟩
  · exact ⟨_, x, ⟨w5.heap.size, w10.heap.size, ⟨w7.heap.size, 0, none⟩, n⟩, hmore, ⟨za, List.mem_cons_of_mem _ hza, hza'⟩, ⟨zb, List.mem_cons_of_mem _ hzb, hzb'⟩, List.mem_cons_of_mem _ h.inx, List.mem_cons_self, b10, hfar, h.llo, s10⟩
end Go.Proofs.YtppeiljecgeifaaDoor
