/-
  Go maps with keys of the type int as they lie in memory.
-/
import Derived.Test.YtfbcdmhmpfijjaaGreatDoorQE
import Derived.Maps.OwnSet
namespace Go.Proofs.YtfbcdmhmpfijjaaGreatDoor
open Go Go.RowKit Go.Maps

/-- An element of a map, as it is. -/
def Rv (v : Value) : Option (DataW Value × List MemPlace) := some (.held v, [])
theorem intKeyed : Keyed Tryz.prog 3 := int_keyed Tryz.underlying3
/-- A Go map in block b, of at most n entries: what stands at each key. -/
def MapIs (w : World) (b n : Nat) (f : Int → Option Value) : Prop :=
  ∃ D : DataW Value, w.ownsMap Tryz.prog 3 Rv b n D ∧ ∀ x : Int, (Lit.int .i64 x).wf = true → Maps.has D (.int .i64 x) = (f x).isSome ∧ ∀ z, D.atKey (.int .i64 x) (.held z) = .held ((f x).getD z)
/-- One key is turned. -/
def updM {α : Type} (f : Int → Option α) (x : Int) (v : Option α) : Int → Option α := fun y => if y = x then v else f y
theorem updM_map {α β : Type} (g : α → β) (f : Int → Option α) (x : Int) (v : Option α) : updM (fun y => (f y).map g) x (v.map g) = fun y => (updM f x v y).map g := by
  funext y; unfold updM; split <;> rfl

theorem MapIs.lt {w : World} {b n : Nat} {f : Int → Option Value} (h : MapIs w b n f) : b < w.heap.size := by obtain ⟨D, h, _⟩ := h; exact h.lt
theorem MapIs.kept {w w' : World} {b n : Nat} {f : Int → Option Value} (h : MapIs w b n f) {lo hi : Nat} (ho : Only lo hi w w') (hb : b < lo ∨ hi ≤ b) : MapIs w' b n f := by
  have hlt := h.lt
  obtain ⟨D, ⟨es, clock, h1, h2, h3, h4⟩, hD⟩ := h
  exact ⟨D, ⟨es, clock, (ho.block b hlt hb).trans h1, h2, h3, h4⟩, hD⟩
theorem MapIs.made (w : World) : MapIs (w.alloc (.map #[] 0)) w.heap.size 0 (fun _ => none) :=
  ⟨.map [], World.ownsMap_made w _ _ _, fun _x _ => ⟨rfl, fun _z => rfl⟩⟩
theorem wf_of {x : Int} (h : -9223372036854775808 ≤ x ∧ x ≤ 9223372036854775807) : (Lit.int .i64 x).wf = true := WalkArith.wf_i64 h

theorem held_inj {a b : Value} (h : (DataW.held a : DataW Value) = .held b) : a = b := by injection h
theorem Rv_inj {v u : Value} {ps : List MemPlace} (h : Rv v = some (.held u, ps)) : v = u := by
  have h2 := Option.some.inj h
  exact held_inj (congrArg Prod.fst h2)
theorem MapIs.look {w : World} {b n : Nat} {f : Int → Option Value} (h : MapIs w b n f) {t e : TypeId} (ht : Tryz.prog.underlying t = some (.map 3 e)) {z : Value} (hz : (zeroValue e).run Tryz.prog w = .ok z w) {x : Int} (hx : (Lit.int .i64 x).wf = true) :
    (Instr.lookup t (.map (some b)) (.int .i64 x) false).run Tryz.prog w = .ok ((f x).getD z) w := by
  obtain ⟨D, hown, hD⟩ := h
  obtain ⟨v, ps, hrun, hv⟩ := hown.lookup intKeyed ht hz (zd := .held z) (zp := []) rfl (keyOf_int_mk Tryz.underlying3 hx)
  rw [(hD x hx).2 z] at hv
  have : v = (f x).getD z := Rv_inj hv
  rw [hrun, this]
theorem isKey_int {x : Int} (_hx : (Lit.int .i64 x).wf = true) : WideAt.IsKeyLit (.int .i64 x) := by
  trivial
theorem MapIs.put {w : World} {b n : Nat} {f : Int → Option Value} (h : MapIs w b n f) (hn : n < maxLen) {t e : TypeId} (ht : Tryz.prog.underlying t = some (.map 3 e)) {x : Int} (hx : (Lit.int .i64 x).wf = true) (v : Value) :
    ∃ w', (Instr.mapUpdate t (.map (some b)) (.int .i64 x) v).run Tryz.prog w = .ok () w' ∧ MapIs w' b (n + 1) (updM f x (some v)) ∧ Only b (b + 1) w w' := by
  obtain ⟨D, hown, hD⟩ := h
  obtain ⟨w', hrun, h1, h2⟩ := hown.update intKeyed ht hn (d := .held v) (ps := []) (keyOf_int_mk Tryz.underlying3 hx) rfl
  refine ⟨w', hrun, ⟨_, h1, fun y hy => ?_⟩, ⟨h2.os, h2.tape, h2.output, h2.size, fun k hk hk2 => h2.block k hk (fun e => by injection e with e; omega)⟩⟩
  unfold updM
  by_cases hxy : y = x
  · subst hxy
    rw [if_pos rfl]
    exact ⟨has_put_same hown.isMap (isKey_int hx) _, fun z => atKey_put_same hown.isMap (isKey_int hx) _ _⟩
  · rw [if_neg hxy]
    have hne : (Lit.int .i64 y) ≠ .int .i64 x := fun e => hxy (by injection e)
    rw [has_put_other hne]
    refine ⟨(hD y hy).1, fun z => ?_⟩
    rw [atKey_put_other hne]
    exact (hD y hy).2 z
end Go.Proofs.YtfbcdmhmpfijjaaGreatDoor

namespace Go.Proofs.YtfbcdmhmpfijjaaGreatDoor
open Go Go.RowKit Go.Maps

/-- What the side table has of an object: kind, size, serial, tag. -/
structure Sh where
  k : Int
  z : Int
  s : Int
  t : Int
def Sh.v (x : Sh) : Value := .agg #[.int .i64 x.k, .int .i64 x.z, .int .i64 x.s, .int .i64 x.t]
abbrev Sh.zero : Sh := ⟨0, 0, 0, 0⟩
/-- A space: n pages, W the words, P the pages, B 0 the places of objects, B (c + 1) the free blocks of class c. -/
structure St where
  n : Nat
  W : Nat → Int
  P : Nat → Pg
  low : Nat
  B : Nat → Nat → Bool
  S : Int → Option Sh
  Q : Int → Option Int
  ser : Int
  room : Int
  acts : Nat
/-- Where a space's parts lie. -/
structure Lay where
  lo : Nat
  hi : Nat
  sb : Nat
  wb : Nat
  tlo : Nat
  thi : Nat
  tb : Nat
  pg : Nat
  cap : Nat
  sm : Nat
  qm : Nat
  ma : Nat → Nat
  mb : Nat → Nat
  m : Nat → Addr
def Lay.a (L : Lay) : Nat → Nat
  | 0 => L.sb | 1 => L.wb | 2 => L.tlo | 3 => L.sm | 4 => L.qm | j + 5 => L.ma j
def Lay.b (L : Lay) : Nat → Nat
  | 0 => L.sb + 1 | 1 => L.wb + 1 | 2 => L.thi | 3 => L.sm + 1 | 4 => L.qm + 1 | j + 5 => L.mb j
structure Lay.Ok (L : Lay) : Prop where
  lo0 : 0 < L.lo
  inn : ∀ i, i < 14 → L.lo ≤ L.a i ∧ L.a i < L.b i ∧ L.b i ≤ L.hi
  out : ∀ i j, i < 14 → j < 14 → i ≠ j → L.b i ≤ L.a j ∨ L.b j ≤ L.a i

/-- The cells of N words. -/
def wdCells (W : Nat → Int) (N : Nat) : Array Value := Array.ofFn (n := N) fun j => .int .i64 (W j.val)
theorem wd_size (W : Nat → Int) (N : Nat) : (wdCells W N).size = N := Array.size_ofFn
theorem wd_at (W : Nat → Int) (N j : Nat) (h : j < N) : (wdCells W N)[j]? = some (.int .i64 (W j)) := by
  unfold wdCells
  rw [Array.getElem?_ofFn]
  simp [h]
/-- One word is turned. -/
def setW (W : Nat → Int) (i : Nat) (v : Int) : Nat → Int := fun j => if j = i then v else W j
/-- k words from i on are 0. -/
def clrW (W : Nat → Int) (i k : Nat) : Nat → Int := fun j => if i ≤ j ∧ j < i + k then 0 else W j
theorem wd_set (W : Nat → Int) (N i : Nat) (v : Int) : (wdCells W N).setIfInBounds i (.int .i64 v) = wdCells (setW W i v) N := by
  apply Array.ext_getElem?
  intro j
  by_cases hj : j < N
  · rw [wd_at _ N j hj, Array.getElem?_setIfInBounds, wd_at W N j hj, wd_size]
    unfold setW
    by_cases h : i = j
    · subst h; simp [hj]
    · rw [if_neg h, if_neg (fun e => h e.symm)]
  · rw [Array.getElem?_eq_none (by simp [wd_size]; omega), Array.getElem?_eq_none (by simp [wd_size]; omega)]
theorem clrW_zero (W : Nat → Int) (i : Nat) : clrW W i 0 = W := by funext j; unfold clrW; rw [if_neg (by omega)]
theorem clrW_succ (W : Nat → Int) (i k : Nat) : clrW (setW W i 0) (i + 1) k = clrW W i (k + 1) := by
  funext j
  unfold clrW setW
  by_cases hj : j = i
  · rw [if_neg (by omega), if_pos hj, if_pos (by omega)]
  · by_cases h : i + 1 ≤ j ∧ j < i + 1 + k
    · rw [if_pos h, if_pos (by omega)]
    · rw [if_neg h, if_neg hj, if_neg (by omega)]

def WordsAt (w : World) (wb N : Nat) (W : Nat → Int) : Prop := w.heap[wb]? = some (.cells (wdCells W N) 3 (0, 0))
theorem WordsAt.cell {w : World} {wb N : Nat} {W : Nat → Int} (h : WordsAt w wb N W) (j : Nat) (hj : j < N) : w.cell? ⟨wb, j, none⟩ = some (.int .i64 (W j)) := by
  unfold WordsAt at h
  simp only [World.cell?, h]
  simp [wd_at W N j hj]
theorem WordsAt.frozen {w : World} {wb N : Nat} {W : Nat → Int} (h : WordsAt w wb N W) (j : Nat) : w.frozen? ⟨wb, j, none⟩ = false := by
  unfold WordsAt at h
  simp [World.frozen?, h]
theorem WordsAt.lt {w : World} {wb N : Nat} {W : Nat → Int} (h : WordsAt w wb N W) : wb < w.heap.size := (Array.getElem?_eq_some_iff.1 h).1
theorem WordsAt.set {w : World} {wb N : Nat} {W : Nat → Int} (h : WordsAt w wb N W) (j : Nat) (v : Int) : WordsAt (w.setCell ⟨wb, j, none⟩ (.int .i64 v)) wb N (setW W j v) := by
  unfold WordsAt at h ⊢
  simp only [World.setCell, Array.getElem?_modify, h, if_pos, Option.map_some, Option.isSome_none, Bool.false_eq_true, if_false]
  rw [wd_set]
theorem WordsAt.clear {wb N : Nat} : ∀ (k i : Nat) {w : World} {W : Nat → Int}, WordsAt w wb N W → WordsAt (w.setCells wb i (List.replicate k z64)) wb N (clrW W i k)
  | 0, i, w, W, h => by rw [clrW_zero]; exact h
  | k + 1, i, w, W, h => by
    rw [List.replicate_succ]
    simp only [World.setCells]
    have := WordsAt.clear k (i + 1) (h.set i 0)
    rw [clrW_succ] at this
    exact this
theorem WordsAt.kept {w w' : World} {wb N : Nat} {W : Nat → Int} (h : WordsAt w wb N W) {lo hi : Nat} (ho : Only lo hi w w') (hb : wb < lo ∨ hi ≤ wb) : WordsAt w' wb N W := by
  unfold WordsAt at h ⊢
  rw [ho.block wb (Array.getElem?_eq_some_iff.1 h).1 hb]; exact h
theorem Tryz.zeroI (w : World) : (zeroValue 3).run Tryz.prog w = .ok (.int .i64 0) w := by kernel_rfl
/-- clear of a part of the words. -/
theorem WordsAt.run_clear {w : World} {wb N : Nat} {W : Nat → Int} (h : WordsAt w wb N W) (i k c : Nat) (hk : 0 < k) (hN : i + k ≤ N) :
    (Builtin.clear_ #[27] 0 #[.slice (some ⟨wb, i, none⟩) k c]).run Tryz.prog w = .ok (.tuple #[]) (w.setCells wb i (List.replicate k z64)) :=
  Lib.run_clear_slice (P := Tryz.prog) w 27 3 0 (.int .i64 0) Tryz.underlying27 Tryz.zeroI rfl rfl wb i k c hk
    (fun j hj => by rw [h.cell _ (by omega)]; rfl) (fun j _ => h.frozen _)

theorem only_cell (w : World) (b o : Nat) (u : Value) : Only b (b + 1) w (w.setCell ⟨b, o, none⟩ u) := (Only.refl b (b + 1) w).setCell (p := ⟨b, o, none⟩) (.inl ⟨Nat.le_refl _, Nat.lt_succ_self _⟩) u
def headCells (L : Lay) (s : St) : Array Value :=
  #[.slice (some ⟨L.wb, 0, none⟩) (64 * s.n) (64 * s.n), .pointer (some ⟨L.tb, 0, none⟩), .pointer (some (L.m 0)), .pointer (some (L.m 1)), .pointer (some (L.m 2)), .pointer (some (L.m 3)), .pointer (some (L.m 4)), .pointer (some (L.m 5)), .pointer (some (L.m 6)), .pointer (some (L.m 7)), .pointer (some (L.m 8)), .map (some L.sm), .map (some L.qm), .int .i64 s.ser, .int .i64 s.room]
structure SpaceAt (w : World) (L : Lay) (s : St) : Prop where
  ok : L.Ok
  top : L.hi ≤ w.heap.size
  n1 : 1 ≤ s.n
  n2 : s.n ≤ 4096
  lowle : s.low ≤ s.n
  actsle : s.acts ≤ 1000000000000
  head : w.heap[L.sb]? = some (.cells (headCells L s) 84 (0, 0))
  words : WordsAt w L.wb (64 * s.n) s.W
  table : ∃ free, TableAt w L.tlo L.thi L.tb L.pg L.cap s.n s.P (s.low : Int) free
  shapes : MapIs w L.sm s.acts (fun x => (s.S x).map Sh.v)
  places : MapIs w L.qm s.acts (fun x => (s.Q x).map (.int .i64))
  maps : ∀ j, j < 9 → IsMap w (L.ma j) (L.mb j) (L.m j) (64 * s.n) (s.B j)
  tab : Tab w

section
variable {w w' : World} {L : Lay} {s : St} (h : SpaceAt w L s)
include h
theorem SpaceAt.c0 : w.cell? ⟨L.sb, 0, none⟩ = some (.slice (some ⟨L.wb, 0, none⟩) (64 * s.n) (64 * s.n)) := by simp [World.cell?, h.head, headCells]
theorem SpaceAt.c1 : w.cell? ⟨L.sb, 1, none⟩ = some (.pointer (some ⟨L.tb, 0, none⟩)) := by simp [World.cell?, h.head, headCells]
theorem SpaceAt.c2 : w.cell? ⟨L.sb, 2, none⟩ = some (.pointer (some (L.m 0))) := by simp [World.cell?, h.head, headCells]
theorem SpaceAt.c3 (c : Nat) (hc : c < 8) : w.cell? ⟨L.sb, 3 + c, none⟩ = some (.pointer (some (L.m (c + 1)))) := by
  have hc' : c = 0 ∨ c = 1 ∨ c = 2 ∨ c = 3 ∨ c = 4 ∨ c = 5 ∨ c = 6 ∨ c = 7 := by omega
  rcases hc' with rfl | rfl | rfl | rfl | rfl | rfl | rfl | rfl <;> simp [World.cell?, h.head, headCells]
theorem SpaceAt.c11 : w.cell? ⟨L.sb, 11, none⟩ = some (.map (some L.sm)) := by simp [World.cell?, h.head, headCells]
theorem SpaceAt.c12 : w.cell? ⟨L.sb, 12, none⟩ = some (.map (some L.qm)) := by simp [World.cell?, h.head, headCells]
theorem SpaceAt.c13 : w.cell? ⟨L.sb, 13, none⟩ = some (.int .i64 s.ser) := by simp [World.cell?, h.head, headCells]
theorem SpaceAt.c14 : w.cell? ⟨L.sb, 14, none⟩ = some (.int .i64 s.room) := by simp [World.cell?, h.head, headCells]
theorem SpaceAt.f (j : Nat) : w.frozen? ⟨L.sb, j, none⟩ = false := by simp [World.frozen?, h.head]
theorem SpaceAt.lt (i : Nat) (hi : i < 14) : L.a i < w.heap.size := by
  have := h.ok.inn i hi; have := h.top; omega
theorem SpaceAt.sblt : L.sb < w.heap.size := h.lt 0 (by omega)
theorem SpaceAt.lo0 : 0 < w.heap.size := by have := h.sblt; omega
/-- What does not touch a space's part leaves it. -/
theorem SpaceAt.part {lo hi : Nat} (ho : Only lo hi w w') (hd : ∀ i, i < 14 → L.b i ≤ lo ∨ hi ≤ L.a i) (hl : 0 < lo) : SpaceAt w' L s := by
  have hlt := fun i hi => h.lt i hi
  have inn := h.ok.inn
  refine ⟨h.ok, Nat.le_trans h.top ho.size, h.n1, h.n2, h.lowle, h.actsle, ?_, ?_, ?_, ?_, ?_, ?_, h.tab.only ho hl⟩
  · have a := hd 0 (by omega); have b := inn 0 (by omega)
    rw [ho.block L.sb h.sblt (by simp only [Lay.a, Lay.b] at a b; omega)]; exact h.head
  · have a := hd 1 (by omega); have b := inn 1 (by omega)
    exact h.words.kept ho (by simp only [Lay.a, Lay.b] at a b; omega)
  · obtain ⟨free, ht⟩ := h.table
    exact ⟨free, ht.kept ho (hd 2 (by omega))⟩
  · have a := hd 3 (by omega); have b := inn 3 (by omega)
    exact h.shapes.kept ho (by simp only [Lay.a, Lay.b] at a b; omega)
  · have a := hd 4 (by omega); have b := inn 4 (by omega)
    exact h.places.kept ho (by simp only [Lay.a, Lay.b] at a b; omega)
  · exact fun j hj => (h.maps j hj).kept ho (hd (j + 5) (by omega))
theorem SpaceAt.kept {lo hi : Nat} (ho : Only lo hi w w') (hd : L.hi ≤ lo ∨ hi ≤ L.lo) (hl : 0 < lo) : SpaceAt w' L s :=
  h.part ho (fun i hi' => by have := h.ok.inn i hi'; omega) hl
theorem SpaceAt.still (ho : Still w w') : SpaceAt w' L s := h.kept ho (.inl h.top) h.lo0
theorem SpaceAt.drewN (n : Nat) : SpaceAt (w.drewN n) L s := h.still ((Only.refl _ _ w).drewN n)
theorem SpaceAt.alloc (o : Obj) : SpaceAt (w.alloc o) L s := h.still ((Only.refl _ _ w).alloc o)

/-- One of the bit maps is turned. -/
theorem SpaceAt.updB (j : Nat) (hj : j < 9) {S : Nat → Bool} (ho : Only (L.ma j) (L.mb j) w w') (hm : IsMap w' (L.ma j) (L.mb j) (L.m j) (64 * s.n) S) :
    SpaceAt w' L { s with B := fun k => if k = j then S else s.B k } := by
  have inn := h.ok.inn
  have hd := fun i (hi : i < 14) (hne : i ≠ j + 5) => h.ok.out i (j + 5) hi (by omega) hne
  have hl : 0 < L.ma j := by have := inn (j + 5) (by omega); have := h.ok.lo0; simp only [Lay.a] at *; omega
  simp only [show L.a (j + 5) = L.ma j from rfl, show L.b (j + 5) = L.mb j from rfl] at hd
  refine ⟨h.ok, Nat.le_trans h.top ho.size, h.n1, h.n2, h.lowle, h.actsle, ?_, ?_, ?_, ?_, ?_, ?_, h.tab.only ho hl⟩
  · have a := hd 0 (by omega) (by omega); have b := inn 0 (by omega)
    rw [ho.block L.sb h.sblt (by simp only [Lay.a, Lay.b] at a b; omega)]; exact h.head
  · have a := hd 1 (by omega) (by omega); have b := inn 1 (by omega)
    exact h.words.kept ho (by simp only [Lay.a, Lay.b] at a b; omega)
  · obtain ⟨free, ht⟩ := h.table
    exact ⟨free, ht.kept ho (hd 2 (by omega) (by omega))⟩
  · have a := hd 3 (by omega) (by omega); have b := inn 3 (by omega)
    exact h.shapes.kept ho (by simp only [Lay.a, Lay.b] at a b; omega)
  · have a := hd 4 (by omega) (by omega); have b := inn 4 (by omega)
    exact h.places.kept ho (by simp only [Lay.a, Lay.b] at a b; omega)
  · intro k hk
    by_cases hkj : k = j
    · subst hkj; simpa using hm
    · simp only [if_neg hkj]
      exact (h.maps k hk).kept ho (hd (k + 5) (by omega) (by omega))
theorem SpaceAt.updT {P : Nat → Pg} {low : Nat} {free : Int} (ho : Only L.tlo L.thi w w') (ht : TableAt w' L.tlo L.thi L.tb L.pg L.cap s.n P (low : Int) free) (hlow : low ≤ s.n) :
    SpaceAt w' L { s with P := P, low := low } := by
  have inn := h.ok.inn
  have hd := fun i (hi : i < 14) (hne : i ≠ 2) => h.ok.out i 2 hi (by omega) hne
  have hl : 0 < L.tlo := by have := inn 2 (by omega); have := h.ok.lo0; simp only [Lay.a] at *; omega
  simp only [show L.a 2 = L.tlo from rfl, show L.b 2 = L.thi from rfl] at hd
  refine ⟨h.ok, Nat.le_trans h.top ho.size, h.n1, h.n2, hlow, h.actsle, ?_, ?_, ⟨free, ht⟩, ?_, ?_, ?_, h.tab.only ho hl⟩
  · have a := hd 0 (by omega) (by omega); have b := inn 0 (by omega)
    rw [ho.block L.sb h.sblt (by simp only [Lay.a, Lay.b] at a b; omega)]; exact h.head
  · have a := hd 1 (by omega) (by omega); have b := inn 1 (by omega)
    exact h.words.kept ho (by simp only [Lay.a, Lay.b] at a b; omega)
  · have a := hd 3 (by omega) (by omega); have b := inn 3 (by omega)
    exact h.shapes.kept ho (by simp only [Lay.a, Lay.b] at a b; omega)
  · have a := hd 4 (by omega) (by omega); have b := inn 4 (by omega)
    exact h.places.kept ho (by simp only [Lay.a, Lay.b] at a b; omega)
  · exact fun k hk => (h.maps k hk).kept ho (hd (k + 5) (by omega) (by omega))
theorem SpaceAt.updW {W : Nat → Int} (ho : Only L.wb (L.wb + 1) w w') (hw : WordsAt w' L.wb (64 * s.n) W) : SpaceAt w' L { s with W := W } := by
  have inn := h.ok.inn
  have hd := fun i (hi : i < 14) (hne : i ≠ 1) => h.ok.out i 1 hi (by omega) hne
  have hl : 0 < L.wb := by have := inn 1 (by omega); have := h.ok.lo0; simp only [Lay.a] at *; omega
  simp only [show L.a 1 = L.wb from rfl, show L.b 1 = L.wb + 1 from rfl] at hd
  refine ⟨h.ok, Nat.le_trans h.top ho.size, h.n1, h.n2, h.lowle, h.actsle, ?_, hw, ?_, ?_, ?_, ?_, h.tab.only ho hl⟩
  · have a := hd 0 (by omega) (by omega); have b := inn 0 (by omega)
    rw [ho.block L.sb h.sblt (by simp only [Lay.a, Lay.b] at a b; omega)]; exact h.head
  · obtain ⟨free, ht⟩ := h.table
    exact ⟨free, ht.kept ho (hd 2 (by omega) (by omega))⟩
  · have a := hd 3 (by omega) (by omega); have b := inn 3 (by omega)
    exact h.shapes.kept ho (by simp only [Lay.a, Lay.b] at a b; omega)
  · have a := hd 4 (by omega) (by omega); have b := inn 4 (by omega)
    exact h.places.kept ho (by simp only [Lay.a, Lay.b] at a b; omega)
  · exact fun k hk => (h.maps k hk).kept ho (hd (k + 5) (by omega) (by omega))
theorem SpaceAt.updS {S : Int → Option Sh} {m : Nat} (ho : Only L.sm (L.sm + 1) w w') (hs : MapIs w' L.sm m (fun x => (S x).map Sh.v)) (hm : m ≤ s.acts) : SpaceAt w' L { s with S := S } := by
  have inn := h.ok.inn
  have hd := fun i (hi : i < 14) (hne : i ≠ 3) => h.ok.out i 3 hi (by omega) hne
  have hl : 0 < L.sm := by have := inn 3 (by omega); have := h.ok.lo0; simp only [Lay.a] at *; omega
  simp only [show L.a 3 = L.sm from rfl, show L.b 3 = L.sm + 1 from rfl] at hd
  refine ⟨h.ok, Nat.le_trans h.top ho.size, h.n1, h.n2, h.lowle, h.actsle, ?_, ?_, ?_, ?_, ?_, ?_, h.tab.only ho hl⟩
  · have a := hd 0 (by omega) (by omega); have b := inn 0 (by omega)
    rw [ho.block L.sb h.sblt (by simp only [Lay.a, Lay.b] at a b; omega)]; exact h.head
  · have a := hd 1 (by omega) (by omega); have b := inn 1 (by omega)
    exact h.words.kept ho (by simp only [Lay.a, Lay.b] at a b; omega)
  · obtain ⟨free, ht⟩ := h.table
    exact ⟨free, ht.kept ho (hd 2 (by omega) (by omega))⟩
  · obtain ⟨D, hD, hf⟩ := hs
    exact ⟨D, hD.mono hm, hf⟩
  · have a := hd 4 (by omega) (by omega); have b := inn 4 (by omega)
    exact h.places.kept ho (by simp only [Lay.a, Lay.b] at a b; omega)
  · exact fun k hk => (h.maps k hk).kept ho (hd (k + 5) (by omega) (by omega))
theorem SpaceAt.updQ {Q : Int → Option Int} {m : Nat} (ho : Only L.qm (L.qm + 1) w w') (hs : MapIs w' L.qm m (fun x => (Q x).map (.int .i64))) (hm : m ≤ s.acts) : SpaceAt w' L { s with Q := Q } := by
  have inn := h.ok.inn
  have hd := fun i (hi : i < 14) (hne : i ≠ 4) => h.ok.out i 4 hi (by omega) hne
  have hl : 0 < L.qm := by have := inn 4 (by omega); have := h.ok.lo0; simp only [Lay.a] at *; omega
  simp only [show L.a 4 = L.qm from rfl, show L.b 4 = L.qm + 1 from rfl] at hd
  refine ⟨h.ok, Nat.le_trans h.top ho.size, h.n1, h.n2, h.lowle, h.actsle, ?_, ?_, ?_, ?_, ?_, ?_, h.tab.only ho hl⟩
  · have a := hd 0 (by omega) (by omega); have b := inn 0 (by omega)
    rw [ho.block L.sb h.sblt (by simp only [Lay.a, Lay.b] at a b; omega)]; exact h.head
  · have a := hd 1 (by omega) (by omega); have b := inn 1 (by omega)
    exact h.words.kept ho (by simp only [Lay.a, Lay.b] at a b; omega)
  · obtain ⟨free, ht⟩ := h.table
    exact ⟨free, ht.kept ho (hd 2 (by omega) (by omega))⟩
  · have a := hd 3 (by omega) (by omega); have b := inn 3 (by omega)
    exact h.shapes.kept ho (by simp only [Lay.a, Lay.b] at a b; omega)
  · obtain ⟨D, hD, hf⟩ := hs
    exact ⟨D, hD.mono hm, hf⟩
  · exact fun k hk => (h.maps k hk).kept ho (hd (k + 5) (by omega) (by omega))
theorem SpaceAt.mono {m : Nat} (hm : s.acts ≤ m) (hm2 : m ≤ 1000000000000) : SpaceAt w L { s with acts := m } :=
  ⟨h.ok, h.top, h.n1, h.n2, h.lowle, hm2, h.head, h.words, h.table, by obtain ⟨D, hD, hf⟩ := h.shapes; exact ⟨D, hD.mono hm, hf⟩, by obtain ⟨D, hD, hf⟩ := h.places; exact ⟨D, hD.mono hm, hf⟩, h.maps, h.tab⟩
/-- The head's last two cells. -/
theorem SpaceAt.updH (ser room : Int) (ho : Only L.sb (L.sb + 1) w w') (hh : w'.heap[L.sb]? = some (.cells (headCells L { s with ser := ser, room := room }) 84 (0, 0))) : SpaceAt w' L { s with ser := ser, room := room } := by
  have inn := h.ok.inn
  have hd := fun i (hi : i < 14) (hne : i ≠ 0) => h.ok.out i 0 hi (by omega) hne
  have hl : 0 < L.sb := by have := inn 0 (by omega); have := h.ok.lo0; simp only [Lay.a] at *; omega
  simp only [show L.a 0 = L.sb from rfl, show L.b 0 = L.sb + 1 from rfl] at hd
  refine ⟨h.ok, Nat.le_trans h.top ho.size, h.n1, h.n2, h.lowle, h.actsle, hh, ?_, ?_, ?_, ?_, ?_, h.tab.only ho hl⟩
  · have a := hd 1 (by omega) (by omega); have b := inn 1 (by omega)
    exact h.words.kept ho (by simp only [Lay.a, Lay.b] at a b; omega)
  · obtain ⟨free, ht⟩ := h.table
    exact ⟨free, ht.kept ho (hd 2 (by omega) (by omega))⟩
  · have a := hd 3 (by omega) (by omega); have b := inn 3 (by omega)
    exact h.shapes.kept ho (by simp only [Lay.a, Lay.b] at a b; omega)
  · have a := hd 4 (by omega) (by omega); have b := inn 4 (by omega)
    exact h.places.kept ho (by simp only [Lay.a, Lay.b] at a b; omega)
  · exact fun k hk => (h.maps k hk).kept ho (hd (k + 5) (by omega) (by omega))
theorem SpaceAt.setSer (x : Int) : SpaceAt (w.setCell ⟨L.sb, 13, none⟩ (.int .i64 x)) L { s with ser := x } :=
  h.updH x s.room (only_cell w _ _ _) (by
    simp only [World.setCell, Array.getElem?_modify, h.head]; simp [headCells])
theorem SpaceAt.setRoom (x : Int) : SpaceAt (w.setCell ⟨L.sb, 14, none⟩ (.int .i64 x)) L { s with room := x } :=
  h.updH s.ser x (only_cell w _ _ _) (by
    simp only [World.setCell, Array.getElem?_modify, h.head]; simp [headCells])
theorem SpaceAt.setWord (j : Nat) (v : Int) : SpaceAt (w.setCell ⟨L.wb, j, none⟩ (.int .i64 v)) L { s with W := setW s.W j v } :=
  h.updW (only_cell w _ _ _) (h.words.set j v)
theorem SpaceAt.clrWords (i k : Nat) : SpaceAt (w.setCells L.wb i (List.replicate k z64)) L { s with W := clrW s.W i k } :=
  h.updW (only_setCells ⟨Nat.le_refl _, Nat.lt_succ_self _⟩ _ _ _ (Only.refl _ _ _)) (h.words.clear k i)
/-- What one part may have turned, the space may. -/
theorem SpaceAt.only (i : Nat) (hi : i < 14) {a : World} (ho : Only (L.a i) (L.b i) a w') : Only L.lo L.hi a w' := by
  have := h.ok.inn i hi
  exact ho.mono (by omega) (by omega)
end
end Go.Proofs.YtfbcdmhmpfijjaaGreatDoor
