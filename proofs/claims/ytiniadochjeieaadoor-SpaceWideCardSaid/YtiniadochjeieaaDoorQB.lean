/-
  The walks of (*bitmap.Map).Reset, Copy, All, and of the iterator's own loop.
-/
import Derived.Test.YtiniadochjeieaaDoorQW4
import Derived.Lib.SliceRun
import Derived.Deep.RegionHeld3
import Derived.Deep.RegionLaw
namespace Go.Proofs.YtiniadochjeieaaDoor
open Go Go.RowKit

/-! ### Reset -/
theorem mapAt_clear {lo hi pb n g cap : Nat} : ∀ (k o : Nat) (w : World) (rows : List Nat), MapAt w lo hi pb n (.slice (some ⟨g, 0, none⟩) ((n + 63) / 64) cap) rows →
    ∃ rows', MapAt (w.setCells g o (List.replicate k (.int .u64 0))) lo hi pb n (.slice (some ⟨g, 0, none⟩) ((n + 63) / 64) cap) rows' ∧ ∀ j, rows'.getD j 0 = if o ≤ j ∧ j < o + k then 0 else rows.getD j 0
  | 0, o, w, rows, h => ⟨rows, h, fun j => by rw [if_neg (by omega)]⟩
  | k + 1, o, w, rows, h => by
    have h1 := h.set o 0 (by decide)
    obtain ⟨rows', h2, h3⟩ := mapAt_clear k (o + 1) _ _ h1
    refine ⟨rows', h2, fun j => ?_⟩
    rw [h3 j]
    by_cases e : o + 1 ≤ j ∧ j < o + 1 + k
    · rw [if_pos e, if_pos (by omega)]
    · rw [if_neg e]
      by_cases e2 : j = o
      · subst e2
        rw [if_pos (by omega), List.getD_eq_getElem?_getD, List.getElem?_set]
        simp only [if_true]
        split <;> rfl
      · rw [if_neg (by omega), List.getD_eq_getElem?_getD, List.getElem?_set, if_neg (by omega), List.getD_eq_getElem?_getD]
theorem only_setCells {lo hi g : Nat} {a : World} (hg : lo ≤ g ∧ g < hi) : ∀ (vs : List Value) (o : Nat) (w : World), Only lo hi a w → Only lo hi a (w.setCells g o vs)
  | [], _, _, h => h
  | v :: r, o, _, h => only_setCells hg r (o + 1) _ (h.setCell (.inl hg) v)

set_option maxRecDepth 2000 in
set_option maxHeartbeats 400000 in
theorem reset_core (pb : Nat) (v : Value) (w w1 : World) (hc1 : w.cell? ⟨pb, 1, none⟩ = some v)
    (hcl : (Builtin.clear_ #[115] 0 #[v]).run Tryd.prog w = .ok (.tuple #[]) w1) :
    Calls Tryd.prog 67 #[.pointer (some ⟨pb, 0, none⟩)] w fun e w' => e = .returned (.tuple #[]) ∧ w' = w1 := by
  go_enter Tryd.func67, Tryd.ntmps67
  go_wp2
  go_end0
  exact ⟨rfl, rfl⟩

theorem reset_any (lo hi n : Nat) (p : Addr) (S : Nat → Bool) (w : World) (hm : IsMap w lo hi p n S) :
    Calls Tryd.prog 67 #[.pointer (some p)] w fun e w' => e = .returned (.tuple #[]) ∧ IsMap w' lo hi p n (fun _ => false) ∧ Only lo hi w w' := by
  obtain ⟨pb, v, rows, rfl, hm, hS, hz⟩ := hm
  by_cases hn : 0 < n
  · obtain ⟨g, cap, hv, hgp, hlg, hgh, hLc, hcm, hcell, hfr⟩ := hm.slice hn
    subst hv
    have hrun := Lib.run_clear_slice (P := Tryd.prog) w 115 118 0 (.int .u64 0) Tryd.underlying115 Tryd.zeroValue118 rfl rfl g 0 ((n + 63) / 64) cap (by omega)
      (fun j hj => by rw [Nat.zero_add, hcell j hj]; rfl) (fun j _ => by rw [Nat.zero_add]; exact hfr j)
    refine (reset_core pb _ w _ hm.cell1 hrun).mono ?_
    rintro e w' ⟨rfl, rfl⟩
    obtain ⟨rows', h1, h2⟩ := mapAt_clear ((n + 63) / 64) 0 w rows hm
    refine ⟨rfl, ⟨pb, _, rows', rfl, h1, fun i hi => ?_, fun _ _ => rfl⟩, only_setCells ⟨hlg, hgh⟩ _ _ _ (Only.refl _ _ _)⟩
    rw [h2, if_pos (by omega)]; simp
  · obtain rfl : n = 0 := by omega
    have hrun : (Builtin.clear_ #[115] 0 #[v]).run Tryd.prog w = .ok (.tuple #[]) w := by
      rcases hm.own.2 with ⟨rfl, -⟩ | ⟨g, cap, cur, rfl, -⟩
      · simp [Builtin.clear_, run_underlying Tryd.underlying115]
      · simp [Builtin.clear_, run_underlying Tryd.underlying115]
    refine (reset_core pb _ w _ hm.cell1 hrun).mono ?_
    rintro e w' ⟨rfl, rfl⟩
    exact ⟨rfl, ⟨pb, v, rows, rfl, hm, fun i hi => by omega, fun _ _ => rfl⟩, Only.refl _ _ _⟩

/-! ### Copy -/
/-- An append of which the run is known, as one step of a region that draws its order. -/
theorem step_append_eq {P : Program} {ops : Array Oper} {o : Oper} {a : Act} {w : World} {K : Act → World → Prop} {Q : Exit → Act → World → Prop} {E : Prop}
    (hg : o.guard = none) (s x : Operand) (t : TypeId) (hop : o.op = Op.call { callee := Callee.builtin Builtin.append, args := #[s, x], argTypes := #[t, t] })
    (sv xv v' : Value) (w' : World) (hs : a.eval s = sv) (hx : a.eval x = xv) (hrun : (Builtin.append_ #[t, t] o.type #[sv, xv]).run P w = .ok v' w') (hK : K (a.put o.dst v') w') :
    if Region.wanted o (yielded ops a.tmps) = true then Oper.wp P o a w K Q else E := by
  have hw : Region.wanted o (yielded ops a.tmps) = true := by simp [Region.wanted, hg]
  rw [if_pos hw]
  unfold Oper.wp
  simp [execOp, hop, resolve, invoke, builtin, hs, hx, hrun, Result.andThen]
  exact hK

/-! ### All -/
set_option maxRecDepth 2000 in
set_option maxHeartbeats 400000 in
theorem all_any (p : Addr) (w : World) :
    Calls Tryd.prog 45 #[.pointer (some p)] w fun e w' => e = .returned (.func (.func 73) #[] #[.pointer (some ⟨w.heap.size, 0, none⟩)]) ∧ w' = w.alloc (.cells #[.pointer (some p)] 86) := by
  go_enter Tryd.func45, Tryd.ntmps45
  go_wp2
  go_ret
  exact ⟨rfl, rfl⟩

/-- How far the loop still may go. -/
def itm (n : Nat) (x : Value) : Nat := if intOf x < 0 then 0 else n + 1 - (intOf x).toNat
theorem itm_lt (n i : Nat) (y : Int) (h : i < n) (hy : y = -1 ∨ (i : Int) < y) : itm n (.int .i64 y) < itm n (.int .i64 (i : Int)) := by
  unfold itm intOf
  simp only
  rw [if_neg (by omega : ¬ (i : Int) < 0)]
  split <;> omega
/-- The iterator's loop: J a S w: what is looked for next is a number from a on, the map holds S; D w: it has ended. -/
theorem iter_any (J : Nat → (Nat → Bool) → World → Prop) (D : World → Prop) (lo hi n bx : Nat) (p : Addr) (fy : FuncId) (cap : Array Value)
    (hcf : ∀ (args : Array Value) (w : World), (callFunc fy args).run Tryd.prog w = .ok (.enter fy args) w)
    (hmap : ∀ a S w, J a S w → IsMap w lo hi p n S ∧ Tab w ∧ w.cell? ⟨bx, 0, none⟩ = some (.pointer (some p)))
    (hyield : ∀ a S w m i, J a S w → Bm.next S n a = ((i : Nat) : Int) → a ≤ i → i < n →
      Calls Tryd.prog fy (#[.int .i64 (i : Int)] ++ cap) (w.drewN m) fun e w' => (e = .returned (.bool true) ∧ ∃ S', J (i + 1) S' w') ∨ (e = .returned (.bool false) ∧ D w'))
    (hend : ∀ a S w m, J a S w → Bm.next S n a = -1 → D (w.drewN m))
    (S : Nat → Bool) (w : World) (h : J 0 S w) :
    Calls Tryd.prog 73 #[.func (.func fy) #[] cap, .pointer (some ⟨bx, 0, none⟩)] w fun e w' => e = .returned (.tuple #[]) ∧ D w' := by
  obtain ⟨hm, hT, hb⟩ := hmap 0 S w h
  have HJ := Lib.hid h; clear h
  have HM := Lib.hid hmap; clear hmap
  have HY := Lib.hid hyield; clear hyield
  have HE := Lib.hid hend; clear hend
  have H1 := Lib.hid hm; clear hm
  have H2 := Lib.hid hT; clear hT
  go_enter Tryd.func73, Tryd.ntmps73
  go_wp2_with fail
  refine (next_any lo hi n p S 0 _ H1.out H2.out (by omega)).mono ?_
  rintro e w' ⟨rfl, m, rfl⟩
  go_wp2_with fail
  go_loopw [3] (fun x wr => ∃ a S w0 m, x = .int .i64 (Bm.next S n ((a : Nat) : Int)) ∧ J a S w0 ∧ wr = w0.drewN m) (fun x _ => itm n x)
  case atStart => exact ⟨0, S, w, m, rfl, HJ.out, rfl⟩
  case round =>
    obtain ⟨a, S1, w0, m0, rfl, hj, hwr⟩ := hrel
    have HJ1 := Lib.hid hj; clear hj
    have HW := Lib.hid hwr; clear hwr
    have hns := Bm.next_spec S1 n (a : Int)
    generalize hx : Bm.next S1 n (a : Int) = x at *
    have HX := Lib.hid hx; clear hx
    rcases hns with ⟨h1, h2⟩ | ⟨i, h1, h2, h3, h4, h5⟩
    · clear h2
      have hx0 : x < 0 := by omega
      have H1 := Lib.hid h1; clear h1
      go_wp2
      go_end0
      exact ⟨rfl, by rw [HW.out]; exact HE.out a S1 w0 m0 HJ1.out (by rw [HX.out, H1.out])⟩
    · subst h1
      clear h4 h5
      have hi0 : (0 : Int) ≤ (i : Int) := by omega
      have hiM : (i : Int) ≤ 262144 := by
        obtain ⟨hm1, _, _⟩ := HM.out a S1 w0 HJ1.out
        obtain ⟨pb, v, rows, _, hm2, _⟩ := hm1
        have := hm2.nle; omega
      go_wp2_with fail
      refine (by rw [HW.out]; exact HY.out a S1 w0 m0 i HJ1.out HX.out (by omega) h3 : Calls Tryd.prog fy (#[.int .i64 (i : Int)] ++ cap) wr _).mono ?_
      rintro e w' (⟨rfl, S2, hj2⟩ | ⟨rfl, hd⟩)
      · obtain ⟨hm2, hT2, hb2⟩ := HM.out (i + 1) S2 w' hj2
        have HJ2 := Lib.hid hj2; clear hj2
        have G1 := Lib.hid hm2; clear hm2
        have G2 := Lib.hid hT2; clear hT2
        go_wp2_with fail
        refine (next_any lo hi n p S2 ((i : Int) + 1) _ G1.out G2.out (by omega)).mono ?_
        rintro e w2 ⟨rfl, m2, hw2⟩
        have HW2 := Lib.hid hw2; clear hw2
        go_wp2
        go_roundw
        case rel => exact ⟨i + 1, S2, w', m2, by go_num, HJ2.out, HW2.out⟩
        case measure =>
          have hns := Bm.next_spec S2 n ((i : Int) + 1)
          refine itm_lt n i _ h3 ?_
          rcases hns with ⟨h, _⟩ | ⟨j, h, hj, _⟩
          · exact .inl h
          · exact .inr (by omega)
      · have HD := Lib.hid hd; clear hd
        go_wp2
        refine bodyPost_ret (results_none rfl _ _ _) rfl ⟨rfl, HD.out⟩
end Go.Proofs.YtiniadochjeieaaDoor

namespace Go.Proofs.YtiniadochjeieaaDoor
open Go Go.RowKit

theorem alive_next : Bm.next (rangeS (fun _ => false) 64 (64 + 1) true) 100 0 = 64 := by decide +kernel
theorem alive_count : Bm.cnt (rangeS (fun _ => false) 64 (64 + 1) true) 0 100 = 1 := by decide +kernel

end Go.Proofs.YtiniadochjeieaaDoor

namespace Go.Proofs.YtiniadochjeieaaDoor
open Go Go.RowKit

/-- A slice of integers that came in: it is nil; or it leads to a row of cells. -/
def IsRow (k : IntKind) (w : World) (a : Option Addr) (len cap : Nat) (zs : List Int) : Prop :=
  (a = none ∧ len = 0 ∧ cap = 0 ∧ zs = []) ∨
  ∃ x, a = some x ∧ len ≤ cap ∧ cap ≤ maxLen ∧ zs.length = cap ∧ (∀ i, i < zs.length → w.cell? (x.add i) = some (.int k (zs.getD i 0))) ∧ ∀ n ∈ zs, (Lit.int k n).wf = true

/-- What within makes of a number. -/
def wi (x n : Int) : Int := (if x < 0 then -(x + 1) else x) % n

theorem wi_range (x n : Int) (h : 0 < n) : 0 ≤ wi x n ∧ wi x n < n := by
  unfold wi
  exact ⟨Int.emod_nonneg _ (by omega), Int.emod_lt_of_pos _ h⟩

/-- What is in behind k steps of filling. -/
def fillS (zs : List Int) (n : Int) : Nat → Nat → Bool
  | 0 => fun _ => false
  | k + 1 => rangeS (fillS zs n k) (wi (zs.getD k 0) n) (wi (zs.getD k 0) n + 1) true

theorem wf_i64 {x : Int} (h : (Lit.int .i64 x).wf = true) : -9223372036854775808 ≤ x ∧ x ≤ 9223372036854775807 := by
  simp [Lit.wf, IntKind.min, IntKind.max, IntKind.signed, IntKind.bits] at h
  omega

/-- A map in new memory. -/
def NewMap (w w' : World) (p : Addr) (n : Nat) (S : Nat → Bool) : Prop := ∃ hi, IsMap w' w.heap.size hi p n S ∧ Still w w'

end Go.Proofs.YtiniadochjeieaaDoor
