/-
  A script that came in; who&1; the pairs of a play.
-/
import Derived.Test.YtppeiljecgeifaaDoorL14
import Derived.Deep.Slices
import Derived.Deep.Fields
import Derived.ChangeSame
namespace Go.Proofs.YtppeiljecgeifaaDoor
open Go Go.RowKit Go.ChangeShapes Go.WideShapes Go.Deep

/-- The lowest bit of an int. -/
theorem and_one_i64 (E : Int) : bits BinOp.and IntKind.i64 E 1 = E % 2 := by
  have h1 : (BitVec.ofInt 64 E).toNat = (E % 18446744073709551616).toNat := by rw [BitVec.toNat_ofInt]; rfl
  have h2 : (BitVec.ofInt 64 (1 : Int)).toNat = 1 := by decide
  show IntKind.i64.wrap ((BitVec.ofInt 64 E &&& BitVec.ofInt 64 1).toNat : Int) = _
  rw [BitVec.toNat_and, h1, h2, Nat.and_one_is_mod, IntKind.wrap_i64]
  omega

/-- One step of a script lies at the address. -/
def OpAt (w : World) (x : Addr) (who k A B C : Int) : Prop :=
  w.cell? x = some (.int .i64 who) ∧ w.cell? ⟨x.block, x.off + 1, none⟩ = some (.int .i64 k) ∧ w.cell? ⟨x.block, x.off + 2, none⟩ = some (.int .i64 A) ∧ w.cell? ⟨x.block, x.off + 3, none⟩ = some (.int .i64 B) ∧ w.cell? ⟨x.block, x.off + 4, none⟩ = some (.int .i64 C) ∧
  (A ≤ 9223372036854775807) ∧ (B ≤ 9223372036854775807 ∧ -9223372036854775808 ≤ B)

/-- A script that came in. -/
def IsOps (w : World) (a : Option Addr) (len cap : Nat) (_ : Unit) : Prop :=
  (a = none ∧ len = 0 ∧ cap = 0) ∨
  ∃ x, a = some x ∧ len ≤ cap ∧ cap ≤ maxLen ∧ ∀ i, i < len → ∃ who k A B C, OpAt w (x.add (i * 5)) who k A B C

theorem field_int {H : Type} {enc : TypeId × Value → H} {w : World} {base : Nat} {spare : Nat → Bool} {held : Bool} {n : Nat} {c : Value} {y : DataW H × List MemPlace} (h : DataW.trod enc Tryd.prog w base spare held n 3 [c] = some y) :
    ∃ z : Int, c = .int .i64 z ∧ z ≤ 9223372036854775807 ∧ -9223372036854775808 ≤ z := by
  obtain ⟨z, h1, _, h3⟩ := DataW.trod_int Tryd.underlying3 h
  obtain ⟨k1, k2⟩ := wf_i64 h3
  injection h1 with h1
  exact ⟨z, h1, k2, k1⟩

theorem isOps_of_trod {H : Type} {enc : TypeId × Value → H} {w : World} {base : Nat} {spare : Nat → Bool} {held : Bool} {a : Option Addr} {len cap : Nat} {d : DataW H} {p : List MemPlace}
    (h : DataW.Trod enc Tryd.prog w base spare held 45 (.slice a len cap) d p) : ∃ z, IsOps w a len cap z := by
  obtain ⟨fuel, h⟩ := h
  refine ⟨(), ?_⟩
  rcases open_slice Tryd.underlying45 h with ⟨hcs, _⟩ | ⟨x, l, c, m, n, D, Pl, hcs, hb, hl, hm, hmm, _, hi⟩
  · simp [Value.cells] at hcs
    obtain ⟨rfl, rfl, rfl⟩ := hcs
    exact .inl ⟨rfl, rfl, rfl⟩
  · simp [Value.cells] at hcs
    obtain ⟨rfl, rfl, rfl⟩ := hcs
    refine .inr ⟨x, rfl, hl, hm, fun i hil => ?_⟩
    obtain ⟨cs', hc, ht'⟩ := hi i (by rw [hmm]; split <;> omega)
    have hC : Tryd.prog.cellsOf 66 = 5 := by kernel_rfl
    rw [hC] at hc
    obtain ⟨xs, n', _, _, hlen, hxl, hf⟩ := DataW.trod_struct Tryd.underlying66 ht'
    obtain ⟨_, hcl, hat⟩ := World.cells?_some hc
    match cs', hcl with
    | [c0, c1, c2, c3, c4], _ =>
      have hC1 : Tryd.prog.cellsOf 3 = 1 := by kernel_rfl
      have e0 : DataW.trod enc Tryd.prog w base spare held n' 3 [c0] = xs[0]? := by
        have e : DataW.trod enc Tryd.prog w base spare held n' 3 ((List.drop 0 [c0, c1, c2, c3, c4]).take (Tryd.prog.cellsOf 3)) = xs[0]? := hf 0 _ rfl
        rw [hC1] at e
        exact e
      rw [List.getElem?_eq_getElem (by rw [hxl]; decide)] at e0
      obtain ⟨z0, rfl, u0, l0⟩ := field_int e0
      have e1 : DataW.trod enc Tryd.prog w base spare held n' 3 [c1] = xs[1]? := by
        have e : DataW.trod enc Tryd.prog w base spare held n' 3 ((List.drop 1 [.int .i64 z0, c1, c2, c3, c4]).take (Tryd.prog.cellsOf 3)) = xs[1]? := hf 1 _ rfl
        rw [hC1] at e
        exact e
      rw [List.getElem?_eq_getElem (by rw [hxl]; decide)] at e1
      obtain ⟨z1, rfl, u1, l1⟩ := field_int e1
      have e2 : DataW.trod enc Tryd.prog w base spare held n' 3 [c2] = xs[2]? := by
        have e : DataW.trod enc Tryd.prog w base spare held n' 3 ((List.drop 2 [.int .i64 z0, .int .i64 z1, c2, c3, c4]).take (Tryd.prog.cellsOf 3)) = xs[2]? := hf 2 _ rfl
        rw [hC1] at e
        exact e
      rw [List.getElem?_eq_getElem (by rw [hxl]; decide)] at e2
      obtain ⟨z2, rfl, u2, l2⟩ := field_int e2
      have e3 : DataW.trod enc Tryd.prog w base spare held n' 3 [c3] = xs[3]? := by
        have e : DataW.trod enc Tryd.prog w base spare held n' 3 ((List.drop 3 [.int .i64 z0, .int .i64 z1, .int .i64 z2, c3, c4]).take (Tryd.prog.cellsOf 3)) = xs[3]? := hf 3 _ rfl
        rw [hC1] at e
        exact e
      rw [List.getElem?_eq_getElem (by rw [hxl]; decide)] at e3
      obtain ⟨z3, rfl, u3, l3⟩ := field_int e3
      have e4 : DataW.trod enc Tryd.prog w base spare held n' 3 [c4] = xs[4]? := by
        have e : DataW.trod enc Tryd.prog w base spare held n' 3 ((List.drop 4 [.int .i64 z0, .int .i64 z1, .int .i64 z2, .int .i64 z3, c4]).take (Tryd.prog.cellsOf 3)) = xs[4]? := hf 4 _ rfl
        rw [hC1] at e
        exact e
      rw [List.getElem?_eq_getElem (by rw [hxl]; decide)] at e4
      obtain ⟨z4, rfl, u4, l4⟩ := field_int e4
      exact ⟨z0, z1, z2, z3, z4, hat 0 (by decide), hat 1 (by decide), hat 2 (by decide), hat 3 (by decide), hat 4 (by decide), u2, u3, l3⟩
end Go.Proofs.YtppeiljecgeifaaDoor
