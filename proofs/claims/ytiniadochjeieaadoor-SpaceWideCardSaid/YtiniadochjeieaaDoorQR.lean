/-
  The walk of world.above.
-/
import Derived.Test.YtiniadochjeieaaDoorQQ
import Derived.BigQuiet
namespace Go.Proofs.YtiniadochjeieaaDoor
open Go Go.RowKit

/-- Of the first i objects the one with the least place above a. -/
def abv (os : List Ob) (a : Int) : Nat → Option Ob
  | 0 => none
  | i + 1 => match abv os a i with
    | none => if a < ((os.getD i ob0).at' : Int) then some (os.getD i ob0) else none
    | some b => if a < ((os.getD i ob0).at' : Int) ∧ (os.getD i ob0).at' < b.at' then some (os.getD i ob0) else some b
theorem abv_none (os : List Ob) (a : Int) : ∀ i, i ≤ os.length → abv os a i = none → ∀ j, j < i → ¬a < ((os.getD j ob0).at' : Int)
  | 0, _, _, j, hj => by omega
  | i + 1, hi, h, j, hj => by
    unfold abv at h
    cases e : abv os a i with
    | none =>
      rw [e] at h
      dsimp only at h
      by_cases hc : a < ((os.getD i ob0).at' : Int)
      · rw [if_pos hc] at h; cases h
      · by_cases ej : j = i
        · rw [ej]; exact hc
        · exact abv_none os a i (by omega) e j (by omega)
    | some b => rw [e] at h; dsimp only at h; split at h <;> cases h
theorem abv_some (os : List Ob) (a : Int) : ∀ i, i ≤ os.length → ∀ b, abv os a i = some b → b ∈ os ∧ a < (b.at' : Int) ∧ ∀ j, j < i → a < ((os.getD j ob0).at' : Int) → b.at' ≤ (os.getD j ob0).at'
  | 0, _, b, h => by cases h
  | i + 1, hi, b, h => by
    unfold abv at h
    cases e : abv os a i with
    | none =>
      rw [e] at h
      dsimp only at h
      by_cases hc : a < ((os.getD i ob0).at' : Int)
      · rw [if_pos hc] at h
        injection h with h
        subst h
        refine ⟨getD_mem os i hi, hc, fun j hj hj2 => ?_⟩
        by_cases ej : j = i
        · rw [ej]; exact Nat.le_refl _
        · exact absurd hj2 (abv_none os a i (by omega) e j (by omega))
      · rw [if_neg hc] at h; cases h
    | some b' =>
      obtain ⟨h1, h2, h3⟩ := abv_some os a i (by omega) b' e
      rw [e] at h
      dsimp only at h
      by_cases hc : a < ((os.getD i ob0).at' : Int) ∧ (os.getD i ob0).at' < b'.at'
      · rw [if_pos hc] at h
        injection h with h
        subst h
        refine ⟨getD_mem os i hi, hc.1, fun j hj hj2 => ?_⟩
        by_cases ej : j = i
        · rw [ej]; exact Nat.le_refl _
        · have := h3 j (by omega) hj2
          omega
      · rw [if_neg hc] at h
        injection h with h
        subst h
        refine ⟨h1, h2, fun j hj hj2 => ?_⟩
        by_cases ej : j = i
        · rw [ej] at hj2 ⊢; omega
        · exact h3 j (by omega) hj2
/-- A box of an object is written. -/
theorem ob_box {w : World} {B : Nat} {x0 x1 x2 x3 x4 : Value} (h : w.heap[B]? = some (.cells #[x0, x1, x2, x3, x4] 34 (0, 0))) (y0 y1 y2 y3 y4 : Value) :
    (((((w.setCell ⟨B, 0, none⟩ y0).setCell ⟨B, 1, none⟩ y1).setCell ⟨B, 2, none⟩ y2).setCell ⟨B, 3, none⟩ y3).setCell ⟨B, 4, none⟩ y4).heap[B]? = some (.cells #[y0, y1, y2, y3, y4] 34 (0, 0)) := by
  simp only [World.setCell, Array.getElem?_modify, h]
  simp
theorem only_box {lo hi : Nat} {a w : World} (h : Only lo hi a w) {B : Nat} (hb : (lo ≤ B ∧ B < hi) ∨ a.heap.size ≤ B) (y0 y1 y2 y3 y4 : Value) :
    Only lo hi a (((((w.setCell ⟨B, 0, none⟩ y0).setCell ⟨B, 1, none⟩ y1).setCell ⟨B, 2, none⟩ y2).setCell ⟨B, 3, none⟩ y3).setCell ⟨B, 4, none⟩ y4) :=
  ((((h.setCell (p := ⟨B, 0, none⟩) hb y0).setCell (p := ⟨B, 1, none⟩) hb y1).setCell (p := ⟨B, 2, none⟩) hb y2).setCell (p := ⟨B, 3, none⟩) hb y3).setCell (p := ⟨B, 4, none⟩) hb y4
theorem heap_box {w : World} {B k : Nat} (hk : k ≠ B) (y0 y1 y2 y3 y4 : Value) :
    (((((w.setCell ⟨B, 0, none⟩ y0).setCell ⟨B, 1, none⟩ y1).setCell ⟨B, 2, none⟩ y2).setCell ⟨B, 3, none⟩ y3).setCell ⟨B, 4, none⟩ y4).heap[k]? = w.heap[k]? := by
  repeat rw [Below.heap_setCell _ _ _ _ (by exact hk)]
def Ob.val (o : Ob) : Value := .agg #[.int .i64 (o.at' : Int), .int .i64 o.sh.k, .int .i64 o.sh.z, .int .i64 o.sh.s, .int .i64 o.sh.t]
abbrev Ob.obj (o : Ob) : Obj := .cells #[.int .i64 (o.at' : Int), .int .i64 o.sh.k, .int .i64 o.sh.z, .int .i64 o.sh.s, .int .i64 o.sh.t] 34 (0, 0)
/-- The world, and two boxes behind what was there. -/
structure Ab (w : World) (wr : World) (o : Ob) : Prop where
  st : Still w wr
  b0 : wr.heap[w.heap.size]? = some ob0.obj
  b1 : wr.heap[w.heap.size + 1]? = some o.obj
theorem Ab.drewN {w wr : World} {o : Ob} (h : Ab w wr o) (m : Nat) : Ab w (wr.drewN m) o := ⟨h.st.drewN m, h.b0, h.b1⟩
theorem Ab.set {w wr : World} {o : Ob} (h : Ab w wr o) (p : Ob) :
    Ab w (((((wr.setCell ⟨w.heap.size + 1, 0, none⟩ (.int .i64 (p.at' : Int))).setCell ⟨w.heap.size + 1, 1, none⟩ (.int .i64 p.sh.k)).setCell ⟨w.heap.size + 1, 2, none⟩ (.int .i64 p.sh.z)).setCell ⟨w.heap.size + 1, 3, none⟩ (.int .i64 p.sh.s)).setCell ⟨w.heap.size + 1, 4, none⟩ (.int .i64 p.sh.t)) p :=
  ⟨only_box h.st (.inr (by omega)) _ _ _ _ _, (heap_box (by omega) _ _ _ _ _).trans h.b0, ob_box h.b1 _ _ _ _ _⟩
set_option maxRecDepth 100000 in
set_option maxHeartbeats 1600000 in
theorem above_any (w : World) (L : Lay) (s : St) (wb : Nat) (os : List Ob) (v : Value) (hW : Wld w L s wb os v) (hl : os.length ≤ 1000000) (x : Int) :
    Calls Tryd.prog 16 #[.pointer (some ⟨wb, 0, none⟩), .int .i64 x] w fun e w' =>
      e = .returned (.tuple #[((abv os x os.length).getD ob0).val, .bool (abv os x os.length).isSome]) ∧ Still w w' := by
  have HW := Lib.hid hW
  obtain ⟨ao, cp, hv⟩ : ∃ ao cp, v = .slice ao os.length cp := by
    rcases hW.row.2 with ⟨h1, h2⟩ | ⟨g, cap, cur, h1, _⟩
    · rw [h2]; exact ⟨_, _, h1⟩
    · exact ⟨_, _, h1⟩
  subst hv
  obtain ⟨n, hn⟩ : ∃ n, os.length = n := ⟨_, rfl⟩
  rw [hn] at hl ⊢
  have HN := Lib.hid hn
  have hnI : (n : Int) ≤ 1000000 := by omega
  have hn0 : (0 : Int) ≤ (n : Int) := by omega
  obtain ⟨r, hr⟩ : ∃ r, abv os x n = r := ⟨_, rfl⟩
  rw [hr]
  have HR := Lib.hid hr
  clear hW hn hr
  go_enter Tryd.func16, Tryd.ntmps16
  go_wp2_with fail
  have hA : Ab w ((w.alloc ob0.obj).alloc ob0.obj) ob0 := by
    refine ⟨((Only.refl _ _ w).alloc _).alloc _, ?_, ?_⟩
    · rw [Below.heap_alloc _ _ _ (by simp)]; exact heap_alloc_new w _
    · have := heap_alloc_new (w.alloc ob0.obj) ob0.obj
      rwa [World.size_alloc] at this
  have HA := Lib.hid hA
  clear hA
  go_loopw [7, 8] (fun y z wr => ∃ (i : Nat) (b : Option Ob), y = .bool b.isSome ∧ z = .int .i64 (i : Int) ∧ i ≤ n ∧ abv os x i = b ∧ Ab w wr (b.getD ob0)) (fun _ z _ => n - (intOf z).toNat)
  case atStart => exact ⟨0, none, rfl, rfl, by omega, rfl, HA.out⟩
  case round =>
    obtain ⟨i, b, rfl, rfl, hi, hb, hab⟩ := hrel
    have hi0 : (0 : Int) ≤ (i : Int) := by omega
    have HAB := Lib.hid hab
    have hW2 := HW.out.still hab.st
    have c2 := hW2.c2
    have cl := hW2.lt
    rw [HN.out] at c2
    by_cases hlt : i < n
    · have hltI : (i : Int) < (n : Int) := by omega
      have g1 : decide ((i : Int) < (n : Int)) = true := decide_eq_true hltI
      obtain ⟨g, rfl, hgh, hgl, hgc⟩ := hW2.at (by rw [HN.out]; omega)
      have hcell := fun c hc => hgc i c (by rw [HN.out]; exact hlt) hc
      obtain ⟨o, ho⟩ : ∃ o, os.getD i ob0 = o := ⟨_, rfl⟩
      rw [ho] at hcell
      have HO := Lib.hid ho
      have a0 : wr.cell? ⟨g, i * 5, none⟩ = some (.int .i64 (o.at' : Int)) := hcell 0 (by omega)
      have a1 : wr.cell? ⟨g, i * 5 + 1, none⟩ = some (.int .i64 o.sh.k) := hcell 1 (by omega)
      have a2 : wr.cell? ⟨g, i * 5 + 2, none⟩ = some (.int .i64 o.sh.z) := hcell 2 (by omega)
      have a3 : wr.cell? ⟨g, i * 5 + 3, none⟩ = some (.int .i64 o.sh.s) := hcell 3 (by omega)
      have a4 : wr.cell? ⟨g, i * 5 + 4, none⟩ = some (.int .i64 o.sh.t) := hcell 4 (by omega)
      clear hcell hgc hab hW2 ho hgh
      have HBB := Lib.hid hb
      clear hb
      by_cases hc1 : x < (o.at' : Int)
      · have k1 : decide (x < (o.at' : Int)) = true := decide_eq_true hc1
        have HC1 := Lib.hid hc1
        clear hc1
        cases b with
        | none =>
          have hb1 := HAB.out.b1
          have z0 := cell_of hb1 0 rfl
          have z1 := cell_of hb1 1 rfl
          have z2 := cell_of hb1 2 rfl
          have z3 := cell_of hb1 3 rfl
          have z4 := cell_of hb1 4 rfl
          have y0 := frozen_of hb1 0
          have y1 := frozen_of hb1 1
          have y2 := frozen_of hb1 2
          have y3 := frozen_of hb1 3
          have y4 := frozen_of hb1 4
          have hbl := (Array.getElem?_eq_some_iff.1 hb1).1
          clear hb1
          go_wp2_with fail
          go_quiet (fail)
          go_wp2_with fail
          go_roundw
          case rel => exact ⟨i + 1, some o, rfl, by go_num, hlt, by unfold abv; rw [HBB.out, HO.out]; dsimp only; rw [if_pos HC1.out], (HAB.out.drewN _).set o⟩
          case measure => simp [intOf]; omega
        | some b =>
          by_cases hc2 : o.at' < b.at'
          · have k2 : decide ((o.at' : Int) < (b.at' : Int)) = true := decide_eq_true (by omega)
            have HC2 := Lib.hid hc2
            clear hc2
            have hb1 := HAB.out.b1
            have z0 := cell_of hb1 0 rfl
            have z1 := cell_of hb1 1 rfl
            have z2 := cell_of hb1 2 rfl
            have z3 := cell_of hb1 3 rfl
            have z4 := cell_of hb1 4 rfl
            have y0 := frozen_of hb1 0
            have y1 := frozen_of hb1 1
            have y2 := frozen_of hb1 2
            have y3 := frozen_of hb1 3
            have y4 := frozen_of hb1 4
            have hbl := (Array.getElem?_eq_some_iff.1 hb1).1
            clear hb1
            dsimp only [Option.getD_some] at z0 z1 z2 z3 z4
            go_wp2_with fail
            go_quiet (fail)
            go_wp2_with fail
            go_roundw
            case rel => exact ⟨i + 1, some o, rfl, by go_num, hlt, by unfold abv; rw [HBB.out, HO.out]; dsimp only; rw [if_pos ⟨HC1.out, HC2.out⟩], (HAB.out.drewN _).set o⟩
            case measure => simp [intOf]; omega
          · have k2 : decide ((o.at' : Int) < (b.at' : Int)) = false := decide_eq_false (by omega)
            have HC2 := Lib.hid hc2
            have hb1 := HAB.out.b1
            have z0 := cell_of hb1 0 rfl
            have hbl := (Array.getElem?_eq_some_iff.1 hb1).1
            clear hb1 a1 a2 a3 a4 hc2
            dsimp only [Option.getD_some] at z0
            go_wp2_with fail
            go_quiet (fail)
            go_wp2_with fail
            go_roundw
            case rel => exact ⟨i + 1, some b, rfl, by go_num, hlt, by unfold abv; rw [HBB.out, HO.out]; dsimp only; rw [if_neg (fun h => HC2.out h.2)], HAB.out.drewN _⟩
            case measure => simp [intOf]; omega
      · have k1 : decide (x < (o.at' : Int)) = false := decide_eq_false hc1
        have HC1 := Lib.hid hc1
        clear a1 a2 a3 a4 hc1
        go_wp2_with fail
        go_quiet (fail)
        go_wp2_with fail
        go_roundw
        case rel => exact ⟨i + 1, b, rfl, by go_num, hlt, by unfold abv; rw [HBB.out, HO.out]; cases b with
          | none => dsimp only; rw [if_neg (by have := HC1.out; omega)]
          | some b => dsimp only; rw [if_neg (by have := HC1.out; omega)], HAB.out.drewN _⟩
        case measure => simp [intOf]; omega
    · have g1 : decide ((i : Int) < (n : Int)) = false := decide_eq_false (by omega)
      have hin : i = n := by omega
      have HIN := Lib.hid hin
      rw [HN.out.symm] at hin
      obtain rfl : b = r := by rw [← HR.out, ← HIN.out]; exact hb.symm
      obtain ⟨o, hob⟩ : ∃ o, b.getD ob0 = o := ⟨_, rfl⟩
      rw [hob] at hab
      have hb1 := hab.b1
      have z0 := cell_of hb1 0 rfl
      have z1 := cell_of hb1 1 rfl
      have z2 := cell_of hb1 2 rfl
      have z3 := cell_of hb1 3 rfl
      have z4 := cell_of hb1 4 rfl
      have hb0 := hab.b0
      have x0 := cell_of hb0 0 rfl
      have x1 := cell_of hb0 1 rfl
      have x2 := cell_of hb0 2 rfl
      have x3 := cell_of hb0 3 rfl
      have x4 := cell_of hb0 4 rfl
      have y0 := frozen_of hb0 0
      have y1 := frozen_of hb0 1
      have y2 := frozen_of hb0 2
      have y3 := frozen_of hb0 3
      have y4 := frozen_of hb0 4
      have hbl := (Array.getElem?_eq_some_iff.1 hb1).1
      have HST := Lib.hid hab.st
      have HOB := Lib.hid hob
      clear hb1 hb0 hab HAB hW2 hb hin hob
      go_wp2_with fail
      refine bodyPost_ret (v := .tuple #[o.val, .bool b.isSome]) (by simp [Ob.val, results, Tryd.results16, go_sem, *]) rfl ⟨by rw [HOB.out], only_box HST.out (.inr (Nat.le_refl _)) _ _ _ _ _⟩
end Go.Proofs.YtiniadochjeieaaDoor

namespace Go.Proofs.YtiniadochjeieaaDoor
open Go Go.RowKit

/-- What above tells, of the places that are taken. -/
theorem Agree.next {s : St} {os : List Ob} (h : Agree s os) (hi : s.Inv) {N a i : Nat} (_hN : 64 * s.n = N) (hn : Bm.next (s.B 0) N (a : Int) = ((i : Nat) : Int)) :
    abv os ((a : Int) - 1) os.length = some ⟨i, s.sh i⟩ := by
  rcases Bm.next_spec (s.B 0) N (a : Int) with ⟨e, _⟩ | ⟨i', e, h2, h3, h4, h5⟩
  · rw [e] at hn; omega
  · rw [e] at hn
    obtain rfl : i' = i := by omega
    obtain ⟨o, ho, hoi⟩ := h.all i' h4
    have hosh := (h.here o ho).2
    obtain ⟨j, hj, hjo⟩ := List.getElem_of_mem ho
    have hjo2 : os.getD j ob0 = o := by rw [List.getD_eq_getElem?_getD, List.getElem?_eq_getElem hj]; exact hjo
    cases hb : abv os ((a : Int) - 1) os.length with
    | none =>
      have := abv_none os _ _ (Nat.le_refl _) hb j hj
      rw [hjo2, hoi] at this
      omega
    | some b =>
      obtain ⟨b1, b2, b3⟩ := abv_some os _ _ (Nat.le_refl _) b hb
      have hbt := h.here b b1
      have b4 := b3 j hj (by rw [hjo2, hoi]; omega)
      rw [hjo2, hoi] at b4
      have hlt := (hi.obj _ hbt.1).2.lt
      have b5 : b.at' = i' := by
        refine Classical.byContradiction fun hne => ?_
        have := h5 b.at' (by omega) (by omega)
        rw [hbt.1] at this; cases this
      cases b with
      | mk bp bs =>
        dsimp only at b5 hbt
        subst b5
        rw [hbt.2]
theorem Agree.nextNone {s : St} {os : List Ob} (h : Agree s os) (hi : s.Inv) {N a : Nat} (hN : 64 * s.n = N) (hn : Bm.next (s.B 0) N (a : Int) = -1) :
    abv os ((a : Int) - 1) os.length = none := by
  rcases Bm.next_spec (s.B 0) N (a : Int) with ⟨_, e⟩ | ⟨i', e, h2, h3, h4, h5⟩
  · cases hb : abv os ((a : Int) - 1) os.length with
    | none => rfl
    | some b =>
      obtain ⟨b1, b2, b3⟩ := abv_some os _ _ (Nat.le_refl _) b hb
      have hbt := h.here b b1
      have hlt := (hi.obj _ hbt.1).2.lt
      have := e b.at' (by omega) (by omega)
      rw [hbt.1] at this; cases this
  · rw [e] at hn; omega

theorem box1 {w : World} {b : Nat} {x : Value} {T : TypeId} (h : w.heap[b]? = some (.cells #[x] T (0, 0))) (y : Value) : (w.setCell ⟨b, 0, none⟩ y).heap[b]? = some (.cells #[y] T (0, 0)) := by
  simp only [World.setCell, Array.getElem?_modify, h]
  simp
theorem box1_ne {w : World} {b c : Nat} (h : c ≠ b) (o : Nat) (y : Value) : (w.setCell ⟨b, o, none⟩ y).heap[c]? = w.heap[c]? := Below.heap_setCell _ _ _ _ h
theorem box1_al {w : World} {b : Nat} {o p : Obj} (h : w.heap[b]? = some o) : (w.alloc p).heap[b]? = some o := (Below.heap_alloc _ _ _ (Array.getElem?_eq_some_iff.1 h).1).trans h
set_option maxRecDepth 100000 in
set_option maxHeartbeats 1600000 in
theorem over1_any (w : World) (L : Lay) (s : St) (wb : Nat) (os : List Ob) (v : Value) (hW : Wld w L s wb os v) (hl : os.length ≤ 1000000) (pb lb : Nat) (x : Int) (o : Ob) (ho : abv os x os.length = some o)
    (hp : w.heap[pb]? = some (.cells #[.pointer (some ⟨wb, 0, none⟩)] 23 (0, 0))) (hlb : w.heap[lb]? = some (.cells #[.int .i64 x] 3 (0, 0))) (hgb : w.heap[lb + 1]? = some (.cells #[.bool true] 4 (0, 0))) :
    Calls Tryd.prog 15 #[o.val, .pointer (some ⟨pb, 0, none⟩), .pointer (some ⟨lb, 0, none⟩), .pointer (some ⟨lb + 1, 0, none⟩)] w fun e w' =>
      e = .returned (.bool true) ∧ w'.heap[lb]? = some (.cells #[.int .i64 (o.at' : Int)] 3 (0, 0)) ∧ w'.heap[lb + 1]? = some (.cells #[.bool true] 4 (0, 0)) ∧ Only lb (lb + 2) w w' := by
  have HW := Lib.hid hW
  have HAB := Lib.hid (fun w' (h : Wld w' L s wb os v) => above_any w' L s wb os v h hl x)
  rw [ho] at HAB
  dsimp only [Option.getD_some, Option.isSome_some] at HAB
  have HP := Lib.hid hp
  have HL := Lib.hid hlb
  have HG := Lib.hid hgb
  have ll := (Array.getElem?_eq_some_iff.1 hlb).1
  have lg := (Array.getElem?_eq_some_iff.1 hgb).1
  have lp := (Array.getElem?_eq_some_iff.1 hp).1
  have p0 := cell_of (v := .pointer (some ⟨wb, 0, none⟩)) hp 0 rfl
  have l0 := cell_of (v := .int .i64 x) hlb 0 rfl
  clear hW ho hp hlb hgb
  unfold Ob.val at *
  go_enter Tryd.func15, Tryd.ntmps15
  go_wp2_with fail
  have hb0 := heap_alloc_new w (.cells #[.int .i64 (o.at' : Int), .int .i64 o.sh.k, .int .i64 o.sh.z, .int .i64 o.sh.s, .int .i64 o.sh.t] 34)
  have hst : Still w (w.alloc (.cells #[.int .i64 (o.at' : Int), .int .i64 o.sh.k, .int .i64 o.sh.z, .int .i64 o.sh.s, .int .i64 o.sh.t] 34)) := (Only.refl _ _ w).alloc _
  generalize w.alloc (.cells #[.int .i64 (o.at' : Int), .int .i64 o.sh.k, .int .i64 o.sh.z, .int .i64 o.sh.s, .int .i64 o.sh.t] 34) = w1 at *
  have HST := Lib.hid hst
  refine (HAB.out w1 (HW.out.still hst)).mono ?_
  rintro e w2 ⟨rfl, hs2⟩
  have hb1 := (hs2.block _ (Array.getElem?_eq_some_iff.1 hb0).1 (.inl (Array.getElem?_eq_some_iff.1 hb0).1)).trans hb0
  have HST2 := Lib.hid (Still.trans hst hs2)
  have hlb2 := (HST2.out.block _ ll (.inl ll)).trans HL.out
  have hgb2 := (HST2.out.block _ lg (.inl lg)).trans HG.out
  have hwl := (Array.getElem?_eq_some_iff.1 hb1).1
  have ll2 := (Array.getElem?_eq_some_iff.1 hlb2).1
  have lg2 := (Array.getElem?_eq_some_iff.1 hgb2).1
  have q0 := cell_of (v := (.int .i64 (o.at' : Int))) hb1 0 rfl
  have q1 := cell_of (v := (.int .i64 o.sh.k)) hb1 1 rfl
  have q2 := cell_of (v := (.int .i64 o.sh.z)) hb1 2 rfl
  have q3 := cell_of (v := (.int .i64 o.sh.s)) hb1 3 rfl
  have q4 := cell_of (v := (.int .i64 o.sh.t)) hb1 4 rfl
  have l0 := cell_of (v := .int .i64 x) hlb2 0 rfl
  have lf := frozen_of hlb2 0
  have g0 := cell_of (v := .bool true) hgb2 0 rfl
  have gf := frozen_of hgb2 0
  clear hst hs2 hb0 hb1 p0
  have HL2 := Lib.hid hlb2
  have HG2 := Lib.hid hgb2
  clear hlb2 hgb2
  go_wp2_with fail
  go_ret
  refine ⟨rfl, box1_al (box1 ((box1_ne (by omega) _ _).trans HL2.out) _), box1_al ((box1_ne (by omega) _ _).trans (box1 HG2.out _)), ?_⟩
  exact (((HST2.out.any lb (lb + 2)).setCell (p := ⟨lb + 1, 0, none⟩) (.inl ⟨by show lb ≤ lb + 1; omega, by show lb + 1 < lb + 2; omega⟩) _).setCell (p := ⟨lb, 0, none⟩) (.inl ⟨Nat.le_refl _, by show lb < lb + 2; omega⟩) _).alloc _
set_option maxRecDepth 100000 in
set_option maxHeartbeats 1600000 in
theorem over2_any (w : World) (L : Lay) (s : St) (wb : Nat) (os : List Ob) (v : Value) (hW : Wld w L s wb os v) (hl : os.length ≤ 1000000) (pb lb : Nat) (x : Int) (o : Ob) (ho : abv os x os.length = some o)
    (hp : w.heap[pb]? = some (.cells #[.pointer (some ⟨wb, 0, none⟩)] 23 (0, 0))) (hlb : w.heap[lb]? = some (.cells #[.int .i64 x] 3 (0, 0))) (hgb : w.heap[lb + 1]? = some (.cells #[.bool true] 4 (0, 0)))
    (kb : Nat) (t k : Int) (ht : 0 ≤ t ∧ t < k) (hk : k ≤ 9) (hkb : w.heap[kb]? = some (.cells #[.int .i64 k] 3 (0, 0))) (htb : w.heap[kb + 1]? = some (.cells #[.int .i64 t] 3 (0, 0))) (hlk : lb + 1 < kb) :
    Calls Tryd.prog 18 #[o.val, .pointer (some ⟨pb, 0, none⟩), .pointer (some ⟨lb, 0, none⟩), .pointer (some ⟨lb + 1, 0, none⟩), .pointer (some ⟨kb + 1, 0, none⟩), .pointer (some ⟨kb, 0, none⟩)] w fun e w' =>
      e = .returned (.bool (decide (t + 1 < k))) ∧ w'.heap[lb]? = some (.cells #[.int .i64 (o.at' : Int)] 3 (0, 0)) ∧ w'.heap[lb + 1]? = some (.cells #[.bool true] 4 (0, 0)) ∧
        w'.heap[kb]? = some (.cells #[.int .i64 k] 3 (0, 0)) ∧ w'.heap[kb + 1]? = some (.cells #[.int .i64 (t + 1)] 3 (0, 0)) ∧ Only lb (kb + 2) w w' := by
  have HW := Lib.hid hW
  have HK := Lib.hid hkb
  have HT := Lib.hid htb
  have lk := (Array.getElem?_eq_some_iff.1 hkb).1
  have lt := (Array.getElem?_eq_some_iff.1 htb).1
  have gt1 : decide (t < k) = true := decide_eq_true ht.2
  have ht1 : t < k := ht.2
  have ht0 : 0 ≤ t := ht.1
  clear ht
  have HAB := Lib.hid (fun w' (h : Wld w' L s wb os v) => above_any w' L s wb os v h hl x)
  rw [ho] at HAB
  dsimp only [Option.getD_some, Option.isSome_some] at HAB
  have HP := Lib.hid hp
  have HL := Lib.hid hlb
  have HG := Lib.hid hgb
  have ll := (Array.getElem?_eq_some_iff.1 hlb).1
  have lg := (Array.getElem?_eq_some_iff.1 hgb).1
  have lp := (Array.getElem?_eq_some_iff.1 hp).1
  have p0 := cell_of (v := .pointer (some ⟨wb, 0, none⟩)) hp 0 rfl
  have l0 := cell_of (v := .int .i64 x) hlb 0 rfl
  clear hW ho hp hlb hgb hkb htb
  unfold Ob.val at *
  go_enter Tryd.func18, Tryd.ntmps18
  go_wp2_with fail
  have hb0 := heap_alloc_new w (.cells #[.int .i64 (o.at' : Int), .int .i64 o.sh.k, .int .i64 o.sh.z, .int .i64 o.sh.s, .int .i64 o.sh.t] 34)
  have hst : Still w (w.alloc (.cells #[.int .i64 (o.at' : Int), .int .i64 o.sh.k, .int .i64 o.sh.z, .int .i64 o.sh.s, .int .i64 o.sh.t] 34)) := (Only.refl _ _ w).alloc _
  generalize w.alloc (.cells #[.int .i64 (o.at' : Int), .int .i64 o.sh.k, .int .i64 o.sh.z, .int .i64 o.sh.s, .int .i64 o.sh.t] 34) = w1 at *
  have HST := Lib.hid hst
  refine (HAB.out w1 (HW.out.still hst)).mono ?_
  rintro e w2 ⟨rfl, hs2⟩
  have hb1 := (hs2.block _ (Array.getElem?_eq_some_iff.1 hb0).1 (.inl (Array.getElem?_eq_some_iff.1 hb0).1)).trans hb0
  have HST2 := Lib.hid (Still.trans hst hs2)
  have hlb2 := (HST2.out.block _ ll (.inl ll)).trans HL.out
  have hgb2 := (HST2.out.block _ lg (.inl lg)).trans HG.out
  have hkb2 := (HST2.out.block _ lk (.inl lk)).trans HK.out
  have htb2 := (HST2.out.block _ lt (.inl lt)).trans HT.out
  have lk2 := (Array.getElem?_eq_some_iff.1 hkb2).1
  have lt2 := (Array.getElem?_eq_some_iff.1 htb2).1
  have k0 := cell_of (v := .int .i64 k) hkb2 0 rfl
  have tt0 := cell_of (v := .int .i64 t) htb2 0 rfl
  have tf := frozen_of htb2 0
  have HK2 := Lib.hid hkb2
  have HT2 := Lib.hid htb2
  clear hkb2 htb2
  have hwl := (Array.getElem?_eq_some_iff.1 hb1).1
  have ll2 := (Array.getElem?_eq_some_iff.1 hlb2).1
  have lg2 := (Array.getElem?_eq_some_iff.1 hgb2).1
  have q0 := cell_of (v := (.int .i64 (o.at' : Int))) hb1 0 rfl
  have q1 := cell_of (v := (.int .i64 o.sh.k)) hb1 1 rfl
  have q2 := cell_of (v := (.int .i64 o.sh.z)) hb1 2 rfl
  have q3 := cell_of (v := (.int .i64 o.sh.s)) hb1 3 rfl
  have q4 := cell_of (v := (.int .i64 o.sh.t)) hb1 4 rfl
  have l0 := cell_of (v := .int .i64 x) hlb2 0 rfl
  have lf := frozen_of hlb2 0
  have g0 := cell_of (v := .bool true) hgb2 0 rfl
  have gf := frozen_of hgb2 0
  clear hst hs2 hb0 hb1 p0
  have HL2 := Lib.hid hlb2
  have HG2 := Lib.hid hgb2
  clear hlb2 hgb2
  go_wp2_with fail
  go_ret
  refine ⟨rfl, box1_al ((box1_ne (by omega) _ _).trans (box1 ((box1_ne (by omega) _ _).trans HL2.out) _)), box1_al ((box1_ne (by omega) _ _).trans ((box1_ne (by omega) _ _).trans (box1 HG2.out _))),
    box1_al ((box1_ne (by omega) _ _).trans ((box1_ne (by omega) _ _).trans ((box1_ne (by omega) _ _).trans HK2.out))), box1_al (box1 ((box1_ne (by omega) _ _).trans ((box1_ne (by omega) _ _).trans HT2.out)) _), ?_⟩
  exact ((((HST2.out.any lb (kb + 2)).setCell (p := ⟨lb + 1, 0, none⟩) (.inl ⟨by show lb ≤ lb + 1; omega, by show lb + 1 < kb + 2; omega⟩) _).setCell (p := ⟨lb, 0, none⟩) (.inl ⟨Nat.le_refl _, by show lb < kb + 2; omega⟩) _).setCell (p := ⟨kb + 1, 0, none⟩) (.inl ⟨by show lb ≤ kb + 1; omega, by show kb + 1 < kb + 2; omega⟩) _).alloc _
end Go.Proofs.YtiniadochjeieaaDoor
