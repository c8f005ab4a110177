/-
  The walks of (*bitmap.Map).Reset, Copy, All, and of the iterator's own loop.
-/
import Derived.Test.YtppeiljecgeifaaDoorW4
import Derived.Lib.SliceRun
import Derived.Deep.RegionHeld3
import Derived.Deep.RegionLaw
namespace Go.Proofs.YtppeiljecgeifaaDoor
open Go Go.RowKit

theorem gap_any (lo hi n : Nat) (p : Addr) (S : Nat → Bool) (f k : Int) (w : World) (hm : IsMap w lo hi p n S) (hT : Tab w) (hf : f ≤ 9223372036854775807) :
    Calls Tryd.prog 26 #[.pointer (some p), .int .i64 f, .int .i64 k] w fun e w' => e = .returned (.int .i64 (Bm.gap S n f k)) ∧ ∃ m, w' = w.drewN m := by
  obtain ⟨f0, h1, h2, h3⟩ := max_of f hf
  have hm2 := hm
  obtain ⟨pb, v, rows, rfl, hm2, hS, hz⟩ := hm2
  have hc0 := hm2.cell0
  have hn := hm2.nle
  by_cases hk : k < 1
  · rw [Bm.gap_low S n f k hk]
    clear hm hm2 hS hz hT
    go_enter Tryd.func26, Tryd.ntmps26
    go_wp2
    go_ret
    exact ⟨rfl, 0, rfl⟩
  · by_cases hkn : (n : Int) < k
    · rw [Bm.gap_high S n f k hkn]
      clear hm hm2 hS hz hT
      go_enter Tryd.func26, Tryd.ntmps26
      go_wp2
      go_ret
      exact ⟨rfl, 0, rfl⟩
    · obtain ⟨K, rfl⟩ : ∃ K : Nat, k = K := ⟨k.toNat, by omega⟩
      have hcl : Bm.gap S n f K = Bm.gap S n f0 K := by rw [h3]; exact (Bm.gap_clip S n f K).symm
      rw [hcl]
      exact gap_core lo hi n K pb S f f0 w hm hc0 (by omega) hT h1 h2 (by omega) (by omega)

/-! ### Reset -/
theorem mapAt_clear {lo hi pb n g cap : Nat} : ∀ (k o : Nat) (w : World) (rows : List Nat), MapAt w lo hi pb n (.slice (some ⟨g, 0, none⟩) ((n + 63) / 64) cap) rows →
    ∃ rows', MapAt (w.setCells g o (List.replicate k (.int .u64 0))) lo hi pb n (.slice (some ⟨g, 0, none⟩) ((n + 63) / 64) cap) rows' ∧ ∀ j, rows'.getD j 0 = if o ≤ j ∧ j < o + k then 0 else rows.getD j 0
  | 0, o, w, rows, h => ⟨rows, h, fun j => by rw [if_neg (by omega)]⟩
  | k + 1, o, w, rows, h => by
    have h1 := h.set o 0 (by decide)
    obtain ⟨rows', h2, h3⟩ := mapAt_clear k (o + 1) _ _ h1
    refine ⟨rows', h2, fun j => ?_⟩
    rw [h3 j]
    by_cases e : o + 1 ≤ j ∧ j < o + 1 + k
    · rw [if_pos e, if_pos (by omega)]
    · rw [if_neg e]
      by_cases e2 : j = o
      · subst e2
        rw [if_pos (by omega), List.getD_eq_getElem?_getD, List.getElem?_set]
        simp only [if_true]
        split <;> rfl
      · rw [if_neg (by omega), List.getD_eq_getElem?_getD, List.getElem?_set, if_neg (by omega), List.getD_eq_getElem?_getD]
theorem only_setCells {lo hi g : Nat} {a : World} (hg : lo ≤ g ∧ g < hi) : ∀ (vs : List Value) (o : Nat) (w : World), Only lo hi a w → Only lo hi a (w.setCells g o vs)
  | [], _, _, h => h
  | v :: r, o, _, h => only_setCells hg r (o + 1) _ (h.setCell (.inl hg) v)

set_option maxHeartbeats 400000 in
theorem reset_core (pb : Nat) (v : Value) (w w1 : World) (hc1 : w.cell? ⟨pb, 1, none⟩ = some v)
    (hcl : (Builtin.clear_ #[57] 0 #[v]).run Tryd.prog w = .ok (.tuple #[]) w1) :
    Calls Tryd.prog 30 #[.pointer (some ⟨pb, 0, none⟩)] w fun e w' => e = .returned (.tuple #[]) ∧ w' = w1 := by
  go_enter Tryd.func30, Tryd.ntmps30
  go_wp2
  go_end0
  exact ⟨rfl, rfl⟩

theorem reset_any (lo hi n : Nat) (p : Addr) (S : Nat → Bool) (w : World) (hm : IsMap w lo hi p n S) :
    Calls Tryd.prog 30 #[.pointer (some p)] w fun e w' => e = .returned (.tuple #[]) ∧ IsMap w' lo hi p n (fun _ => false) ∧ Only lo hi w w' := by
  obtain ⟨pb, v, rows, rfl, hm, hS, hz⟩ := hm
  by_cases hn : 0 < n
  · obtain ⟨g, cap, hv, hgp, hlg, hgh, hLc, hcm, hcell, hfr⟩ := hm.slice hn
    subst hv
    have hrun := Lib.run_clear_slice (P := Tryd.prog) w 57 61 0 (.int .u64 0) Tryd.underlying57 Tryd.zeroValue61 rfl rfl g 0 ((n + 63) / 64) cap (by omega)
      (fun j hj => by rw [Nat.zero_add, hcell j hj]; rfl) (fun j _ => by rw [Nat.zero_add]; exact hfr j)
    refine (reset_core pb _ w _ hm.cell1 hrun).mono ?_
    rintro e w' ⟨rfl, rfl⟩
    obtain ⟨rows', h1, h2⟩ := mapAt_clear ((n + 63) / 64) 0 w rows hm
    refine ⟨rfl, ⟨pb, _, rows', rfl, h1, fun i hi => ?_, fun _ _ => rfl⟩, only_setCells ⟨hlg, hgh⟩ _ _ _ (Only.refl _ _ _)⟩
    rw [h2, if_pos (by omega)]; simp
  · obtain rfl : n = 0 := by omega
    have hrun : (Builtin.clear_ #[57] 0 #[v]).run Tryd.prog w = .ok (.tuple #[]) w := by
      rcases hm.own.2 with ⟨rfl, -⟩ | ⟨g, cap, cur, rfl, -⟩
      · simp [Builtin.clear_, run_underlying Tryd.underlying57]
      · simp [Builtin.clear_, run_underlying Tryd.underlying57]
    refine (reset_core pb _ w _ hm.cell1 hrun).mono ?_
    rintro e w' ⟨rfl, rfl⟩
    exact ⟨rfl, ⟨pb, v, rows, rfl, hm, fun i hi => by omega, fun _ _ => rfl⟩, Only.refl _ _ _⟩

/-! ### Copy -/
/-- An append of which the run is known, as one step of a region that draws its order. -/
theorem step_append_eq {P : Program} {ops : Array Oper} {o : Oper} {a : Act} {w : World} {K : Act → World → Prop} {Q : Exit → Act → World → Prop} {E : Prop}
    (hg : o.guard = none) (s x : Operand) (t : TypeId) (hop : o.op = Op.call { callee := Callee.builtin Builtin.append, args := #[s, x], argTypes := #[t, t] })
    (sv xv v' : Value) (w' : World) (hs : a.eval s = sv) (hx : a.eval x = xv) (hrun : (Builtin.append_ #[t, t] o.type #[sv, xv]).run P w = .ok v' w') (hK : K (a.put o.dst v') w') :
    if Region.wanted o (yielded ops a.tmps) = true then Oper.wp P o a w K Q else E := by
  have hw : Region.wanted o (yielded ops a.tmps) = true := by simp [Region.wanted, hg]
  rw [if_pos hw]
  unfold Oper.wp
  simp [execOp, hop, resolve, invoke, builtin, hs, hx, hrun, Result.andThen]
  exact hK

set_option maxHeartbeats 800000 in
theorem copy_core (pb n : Nat) (v : Value) (a2 : Option Addr) (l2 c2 : Nat) (w w2 : World) (hc0 : w.cell? ⟨pb, 0, none⟩ = some (.int .i64 (n : Int))) (hc1 : w.cell? ⟨pb, 1, none⟩ = some v)
    (happ : (Builtin.append_ #[57, 57] 57 #[.slice none 0 0, v]).run Tryd.prog w.drew = .ok (.slice a2 l2 c2) w2)
    (hd0 : w2.cell? ⟨pb, 0, none⟩ = some (.int .i64 (n : Int))) (hd1 : w2.cell? ⟨pb, 1, none⟩ = some v) :
    Calls Tryd.prog 29 #[.pointer (some ⟨pb, 0, none⟩)] w fun e w' => e = .returned (.pointer (some ⟨w2.heap.size, 0, none⟩)) ∧ w' = w2.alloc (.cells #[.int .i64 (n : Int), .slice a2 l2 c2] 59) := by
  go_enter Tryd.func29, Tryd.ntmps29
  go_wp2
  go_region_held3 (fun w' => w'.cell? ⟨pb, 0, none⟩ = some (.int .i64 (n : Int)) ∧ w'.cell? ⟨pb, 1, none⟩ = some v) (first | exact ⟨hc0, hc1⟩ | exact ⟨hd0, hd1⟩ | exact ⟨Lib.cell?_alloc_some _ hd0, Lib.cell?_alloc_some _ hd1⟩) ((refine step_append_eq rfl (.const (.slice none 0 0)) (.tmp 10) 57 rfl (.slice none 0 0) v (.slice a2 l2 c2) w2 rfl rfl happ ?_))
  go_wp2
  go_ret
  exact ⟨rfl, rfl⟩

/-- A copy: a map of the same numbers in new memory. -/
theorem copy_any (lo hi n : Nat) (p : Addr) (S : Nat → Bool) (w : World) (hm : IsMap w lo hi p n S) :
    Calls Tryd.prog 29 #[.pointer (some p)] w fun e w' => ∃ p', e = .returned (.pointer (some p')) ∧ IsMap w' w.heap.size w'.heap.size p' n S ∧ Still w w' := by
  obtain ⟨pb, v, rows, rfl, hm, hS, hz⟩ := hm
  obtain ⟨i0, hi, hz0, hz1, hz2⟩ := info_parts Tryd.infoU
  have hn := hm.nle
  have key : ∃ (a2 : Option Addr) (l2 c2 : Nat) (w2 : World), (Builtin.append_ #[57, 57] 57 #[.slice none 0 0, v]).run Tryd.prog w.drew = .ok (.slice a2 l2 c2) w2 ∧
      w2.ownsRow w.heap.size 61 1 (.slice a2 l2 c2) ((n + 63) / 64) (rows.map U) ∧ Still w w2 := by
    rcases hm.own.2 with ⟨rfl, h0⟩ | ⟨g, cap, cur, rfl, hb, hg, hnc, hcm, hs, ht⟩
    · refine ⟨none, 0, 0, w.drew, ?_, ?_, (Only.refl _ _ w).drew⟩
      · simp [Builtin.append_, run_underlying Tryd.underlying57, sizeOf, typeInfo, hi, Builtin.lenOf, Builtin.firstCells]
      · exact ⟨hm.own.1, .inl ⟨rfl, h0⟩⟩
    · have hcells := hm.own.cells (g := g) rfl
      obtain ⟨v', w2, h1, h2, h3, h4⟩ := run_append_own (P := Tryd.prog) w.drew w.heap.size 57 57 61 i0 (.int .u64 0) 1 8 Tryd.underlying57 hi hz0 hz1 hz2 rfl (by decide) (.slice none 0 0) 0 [] (World.ownsRow_nil _ _ _ _)
        ⟨g, 0, none⟩ ((n + 63) / 64) cap (rows.map U) hm.own.1 (fun j u hu => hcells j u hu) (by intro u hu; obtain ⟨r, _, rfl⟩ := List.mem_map.1 hu; rfl) (by unfold maxLen; omega) (by omega) (Nat.le_refl _)
      rw [Nat.zero_add, List.nil_append] at h2
      have hst : Still w w2 := (Only.refl _ _ w).drew.grown h3 (fun k hk => by cases hk)
      have hsh : ∃ a2 l2 c2, v' = .slice a2 l2 c2 := by
        rcases h2.2 with ⟨rfl, _⟩ | ⟨g', cap', cur', rfl, _⟩
        · exact ⟨_, _, _, rfl⟩
        · exact ⟨_, _, _, rfl⟩
      obtain ⟨a2, l2, c2, rfl⟩ := hsh
      exact ⟨a2, l2, c2, w2, h1, h2, hst⟩
  obtain ⟨a2, l2, c2, w2, h1, h2, h3⟩ := key
  have hpl : pb < w.heap.size := by have := hm.phi; have := hm.top; omega
  refine (copy_core pb n v a2 l2 c2 w w2 hm.cell0 hm.cell1 h1 ((h3.below.cell (p := ⟨pb, 0, none⟩) hpl).trans hm.cell0) ((h3.below.cell (p := ⟨pb, 1, none⟩) hpl).trans hm.cell1)).mono ?_
  rintro e w' ⟨rfl, rfl⟩
  refine ⟨_, rfl, ⟨w2.heap.size, .slice a2 l2 c2, rows, rfl, ⟨h3.size, by simp, Nat.le_refl _, heap_alloc_new w2 _, h2.alloc _, ?_, hm.small, hn⟩, hS, hz⟩, h3.alloc _⟩
  intro g hg
  have := (h2.lt g hg).2
  constructor
  · simp; omega
  · omega

/-! ### All -/
set_option maxHeartbeats 400000 in
theorem all_any (p : Addr) (w : World) :
    Calls Tryd.prog 24 #[.pointer (some p)] w fun e w' => e = .returned (.func (.func 39) #[] #[.pointer (some ⟨w.heap.size, 0, none⟩)]) ∧ w' = w.alloc (.cells #[.pointer (some p)] 29) := by
  go_enter Tryd.func24, Tryd.ntmps24
  go_wp2
  go_ret
  exact ⟨rfl, rfl⟩

/-- How far the loop still may go. -/
def itm (n : Nat) (x : Value) : Nat := if intOf x < 0 then 0 else n + 1 - (intOf x).toNat
theorem itm_lt (n i : Nat) (y : Int) (h : i < n) (hy : y = -1 ∨ (i : Int) < y) : itm n (.int .i64 y) < itm n (.int .i64 (i : Int)) := by
  unfold itm intOf
  simp only
  rw [if_neg (by omega : ¬ (i : Int) < 0)]
  split <;> omega
/-- The iterator's loop: J a S w: what is looked for next is a number from a on, the map holds S; D w: it has ended. -/
theorem iter_any (J : Nat → (Nat → Bool) → World → Prop) (D : World → Prop) (lo hi n bx : Nat) (p : Addr) (fy : FuncId) (cap : Array Value)
    (hcf : ∀ (args : Array Value) (w : World), (callFunc fy args).run Tryd.prog w = .ok (.enter fy args) w)
    (hmap : ∀ a S w, J a S w → IsMap w lo hi p n S ∧ Tab w ∧ w.cell? ⟨bx, 0, none⟩ = some (.pointer (some p)))
    (hyield : ∀ a S w m i, J a S w → Bm.next S n a = ((i : Nat) : Int) → a ≤ i → i < n →
      Calls Tryd.prog fy (#[.int .i64 (i : Int)] ++ cap) (w.drewN m) fun e w' => (e = .returned (.bool true) ∧ ∃ S', J (i + 1) S' w') ∨ (e = .returned (.bool false) ∧ D w'))
    (hend : ∀ a S w m, J a S w → Bm.next S n a = -1 → D (w.drewN m))
    (S : Nat → Bool) (w : World) (h : J 0 S w) :
    Calls Tryd.prog 39 #[.func (.func fy) #[] cap, .pointer (some ⟨bx, 0, none⟩)] w fun e w' => e = .returned (.tuple #[]) ∧ D w' := by
  obtain ⟨hm, hT, hb⟩ := hmap 0 S w h
  have HJ := Lib.hid h; clear h
  have HM := Lib.hid hmap; clear hmap
  have HY := Lib.hid hyield; clear hyield
  have HE := Lib.hid hend; clear hend
  have H1 := Lib.hid hm; clear hm
  have H2 := Lib.hid hT; clear hT
  go_enter Tryd.func39, Tryd.ntmps39
  go_wp2_with fail
  refine (next_any lo hi n p S 0 _ H1.out H2.out (by omega)).mono ?_
  rintro e w' ⟨rfl, m, rfl⟩
  go_wp2_with fail
  go_loopw [3] (fun x wr => ∃ a S w0 m, x = .int .i64 (Bm.next S n ((a : Nat) : Int)) ∧ J a S w0 ∧ wr = w0.drewN m) (fun x _ => itm n x)
  case atStart => exact ⟨0, S, w, m, rfl, HJ.out, rfl⟩
  case round =>
    obtain ⟨a, S1, w0, m0, rfl, hj, hwr⟩ := hrel
    have HJ1 := Lib.hid hj; clear hj
    have HW := Lib.hid hwr; clear hwr
    have hns := Bm.next_spec S1 n (a : Int)
    generalize hx : Bm.next S1 n (a : Int) = x at *
    have HX := Lib.hid hx; clear hx
    rcases hns with ⟨h1, h2⟩ | ⟨i, h1, h2, h3, h4, h5⟩
    · clear h2
      have hx0 : x < 0 := by omega
      have H1 := Lib.hid h1; clear h1
      go_wp2
      go_end0
      exact ⟨rfl, by rw [HW.out]; exact HE.out a S1 w0 m0 HJ1.out (by rw [HX.out, H1.out])⟩
    · subst h1
      clear h4 h5
      have hi0 : (0 : Int) ≤ (i : Int) := by omega
      have hiM : (i : Int) ≤ 262144 := by
        obtain ⟨hm1, _, _⟩ := HM.out a S1 w0 HJ1.out
        obtain ⟨pb, v, rows, _, hm2, _⟩ := hm1
        have := hm2.nle; omega
      go_wp2_with fail
      refine (by rw [HW.out]; exact HY.out a S1 w0 m0 i HJ1.out HX.out (by omega) h3 : Calls Tryd.prog fy (#[.int .i64 (i : Int)] ++ cap) wr _).mono ?_
      rintro e w' (⟨rfl, S2, hj2⟩ | ⟨rfl, hd⟩)
      · obtain ⟨hm2, hT2, hb2⟩ := HM.out (i + 1) S2 w' hj2
        have HJ2 := Lib.hid hj2; clear hj2
        have G1 := Lib.hid hm2; clear hm2
        have G2 := Lib.hid hT2; clear hT2
        go_wp2_with fail
        refine (next_any lo hi n p S2 ((i : Int) + 1) _ G1.out G2.out (by omega)).mono ?_
        rintro e w2 ⟨rfl, m2, hw2⟩
        have HW2 := Lib.hid hw2; clear hw2
        go_wp2
        go_roundw
        case rel => exact ⟨i + 1, S2, w', m2, by go_num, HJ2.out, HW2.out⟩
        case measure =>
          have hns := Bm.next_spec S2 n ((i : Int) + 1)
          refine itm_lt n i _ h3 ?_
          rcases hns with ⟨h, _⟩ | ⟨j, h, hj, _⟩
          · exact .inl h
          · exact .inr (by omega)
      · have HD := Lib.hid hd; clear hd
        go_wp2
        refine bodyPost_ret (results_none rfl _ _ _) rfl ⟨rfl, HD.out⟩
end Go.Proofs.YtppeiljecgeifaaDoor
