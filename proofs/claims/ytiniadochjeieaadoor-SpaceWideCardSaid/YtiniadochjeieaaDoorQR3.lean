/-
  The walks of space.All and of its iterator.
-/
import Derived.Test.YtiniadochjeieaaDoorQK
import Derived.Shelf.Abstract
namespace Go.Proofs.YtiniadochjeieaaDoor
open Go Go.RowKit

attribute [local go_sem] Oper.semAt_some

theorem sall_any (p : Addr) (w : World) :
    Calls Tryd.prog 12 #[.pointer (some p)] w fun e w' => e = .returned (.func (.func 44) #[] #[.pointer (some ⟨w.heap.size, 0, none⟩)]) ∧ w' = w.alloc (.cells #[.pointer (some p)] 27) := by
  go_enter Tryd.func12, Tryd.ntmps12
  go_wp2
  go_ret
  exact ⟨rfl, rfl⟩

theorem only_put {w : World} {l : Nat} (o : Obj) : Only l (l + 1) w (w.putObj l o) :=
  ⟨rfl, rfl, rfl, by simp, fun k _ hk2 => World.putObj_heap_other (by omega)⟩

/-- The four blocks from B on lie as they lay. -/
def Kept4 (B : Nat) (w w' : World) : Prop := ∀ k, B ≤ k → k < B + 4 → w'.heap[k]? = w.heap[k]?
set_option maxRecDepth 100000 in
set_option maxHeartbeats 3200000 in
theorem all1_fn (J : Nat → St → World → Prop) (D : World → Prop) (L : Lay) (N bx : Nat) (fy : FuncId) (cap : Array Value) (w0 : World)
    (hcf : ∀ (args : Array Value) (w : World), (callFunc fy args).run Tryd.prog w = .ok (.enter fy args) w)
    (hmap : ∀ a s w, J a s w → SpaceAt w L s ∧ 64 * s.n = N ∧ w.cell? ⟨bx, 0, none⟩ = some (.pointer (some ⟨L.sb, 0, none⟩)))
    (hst : ∀ a s w w', J a s w → Only w0.heap.size (w0.heap.size + 4) w w' → J a s w')
    (hstD : ∀ w w', D w → Only w0.heap.size (w0.heap.size + 4) w w' → D w')
    (hyield : ∀ a s w i, J a s w → Bm.next (s.B 0) N a = ((i : Nat) : Int) → a ≤ i → i < N → w0.heap.size + 4 ≤ w.heap.size →
      Calls Tryd.prog fy (#[blockV (i : Int) (s.sh i)] ++ cap) w fun e w' => (e = .returned (.bool true) ∧ Kept4 w0.heap.size w w' ∧ ∃ s', J (i + 1) s' w') ∨ (e = .returned (.bool false) ∧ Kept4 w0.heap.size w w' ∧ D w'))
    (hend : ∀ a s w, J a s w → Bm.next (s.B 0) N a = -1 → D w)
    (s : St) (h : J 0 s w0) :
    Calls Tryd.prog 44 #[.func (.func fy) #[] cap, .pointer (some ⟨bx, 0, none⟩)] w0 fun e w' => e = .returned (.tuple #[]) ∧ D w' := by
  obtain ⟨hs, hN, hb⟩ := hmap 0 s w0 h
  have HJ := Lib.hid h
  have HM := Lib.hid hmap
  have HST := Lib.hid hst
  have HSTD := Lib.hid hstD
  have HY := Lib.hid hyield
  have HE := Lib.hid hend
  have H0 := Lib.hid hs
  have hbl : bx < w0.heap.size := World.block_lt_of_cell? w0 _ hb
  have hc2 := hs.c2
  have hlt := hs.sblt
  refine (callsIn_wide (n := 9)).1 ?_
  clear h hmap hst hstD hyield hend hs
  refine callsIn_of_wp_marks Tryd.func44 rfl trivial ?_ rfl
  simp only [Tryd.ntmps44, List.size_toArray, List.length_cons, List.length_nil, Nat.reduceAdd, Nat.reduceSub, Array.replicate_succ, Array.replicate_zero, List.push_toArray, List.append_toArray, List.nil_append, List.cons_append]
  gi_wp2_with fail
  refine ⟨trivial, (callsIn_wide.2 (all_any _ _)).mono ?_⟩
  rintro e w' ⟨rfl, rfl⟩
  gi_wp2_with fail
  have hB0 : ((w0.alloc (.cells #[.func (.func fy) #[] cap] 37)).alloc (.cells #[.pointer (some (L.m 0))] 86)).heap[w0.heap.size]? = some (.cells #[.func (.func fy) #[] cap] 37) := by
    rw [Below.heap_alloc _ _ _ (by simp)]; exact heap_alloc_new w0 _
  have hB1 : ((w0.alloc (.cells #[.func (.func fy) #[] cap] 37)).alloc (.cells #[.pointer (some (L.m 0))] 86)).heap[w0.heap.size + 1]? = some (.cells #[.pointer (some (L.m 0))] 86) := by
    have := heap_alloc_new (w0.alloc (.cells #[.func (.func fy) #[] cap] 37)) (.cells #[.pointer (some (L.m 0))] 86)
    rwa [World.size_alloc] at this
  have hsz : ((w0.alloc (.cells #[.func (.func fy) #[] cap] 37)).alloc (.cells #[.pointer (some (L.m 0))] 86)).heap.size = w0.heap.size + 1 + 1 := by simp
  have hO2 : Still w0 ((w0.alloc (.cells #[.func (.func fy) #[] cap] 37)).alloc (.cells #[.pointer (some (L.m 0))] 86)) := ((Only.refl _ _ w0).alloc _).alloc _
  generalize (w0.alloc (.cells #[.func (.func fy) #[] cap] 37)).alloc (.cells #[.pointer (some (L.m 0))] 86) = w2 at *
  have hJ2 := HST.out 0 s w0 w2 HJ.out (hO2.any _ _)
  have HC0 := Lib.hid hB0
  have HC1 := Lib.hid hB1
  have HSZ := Lib.hid hsz
  have HTOP := Lib.hid H0.out.top
  clear hB0 hB1 hO2
  refine wpIn_range (gf := 73) (lb := #[.pointer (some ⟨w0.heap.size + 1, 0, none⟩)]) rfl (enters_of Tryd.func73 (by kernel_rfl) rfl) ?_
  intro r ht hps has hbd W1 hW1
  have HRT := Lib.hid ht; have HRP := Lib.hid hps; have HRA := Lib.hid has; have HRB := Lib.hid hbd
  clear ht hps has hbd
  have hl0 : W1.heap[w0.heap.size + 1 + 1 + 1]? = some (r.at .ready none) := by
    rw [hW1]
    have := World.alloc_heap_new (w2.alloc (.deferred (some []))) (r.at .ready none)
    rw [World.size_alloc, HSZ.out] at this
    exact this
  have hd0 : W1.heap[w0.heap.size + 1 + 1]? = some (.deferred (some [])) := by
    rw [hW1, Below.heap_alloc _ _ _ (by simp [HSZ.out]), ← HSZ.out]
    exact World.alloc_heap_new w2 _
  have hO1 : Still w2 W1 := by rw [hW1]; exact ((Only.refl _ _ w2).alloc _).alloc _
  have hc0 : W1.heap[w0.heap.size]? = some (.cells #[.func (.func fy) #[] cap] 37) := by rw [hO1.block _ (by rw [HSZ.out]; omega) (.inl (by rw [HSZ.out]; omega))]; exact HC0.out
  have hc1 : W1.heap[w0.heap.size + 1]? = some (.cells #[.pointer (some (L.m 0))] 86) := by rw [hO1.block _ (by rw [HSZ.out]; omega) (.inl (by rw [HSZ.out]; omega))]; exact HC1.out
  have hJ1 := HST.out 0 s w2 W1 hJ2 (hO1.any _ _)
  rw [HSZ.out]
  clear hO1 hW1 hJ2 hc2 hlt
  refine (iter_in (9 - 1) (w0.heap.size + 1 + 1 + 1)
    (fun a S w => ∃ s, S = s.B 0 ∧ J a s w ∧ w.heap[w0.heap.size]? = some (.cells #[.func (.func fy) #[] cap] 37) ∧ w.heap[w0.heap.size + 1]? = some (.cells #[.pointer (some (L.m 0))] 86) ∧ w.heap[w0.heap.size + 1 + 1]? = some (.deferred (some [])) ∧ w.heap[w0.heap.size + 1 + 1 + 1]? = some (r.at .ready none))
    (fun w => D w ∧ w.heap[w0.heap.size + 1 + 1]? = some (.deferred (some [])) ∧ (w.heap[w0.heap.size + 1 + 1 + 1]? = some (r.at .ready none) ∨ w.heap[w0.heap.size + 1 + 1 + 1]? = some (r.at .done (some .ret))))
    (L.ma 0) (L.mb 0) N (w0.heap.size + 1) (L.m 0) ?hmap ?hyield ?hdrew ?hend (s.B 0) W1 ⟨s, rfl, hJ1, hc0, hc1, hd0, hl0⟩).mono ?_
  case hmap =>
    rintro a S w ⟨s, rfl, hj, h0, h1, h2, h3⟩
    obtain ⟨hs, hn, _⟩ := HM.out a s w hj
    have := hs.maps 0 (by omega)
    rw [hn] at this
    exact ⟨this, hs.tab, cell_of h1 0 rfl⟩
  case hdrew =>
    rintro a S w m ⟨s, rfl, hj, h0, h1, h2, h3⟩
    exact ⟨s, rfl, HST.out a s w _ hj ((Only.refl _ _ w).drewN m), h0, h1, h2, h3⟩
  case hend =>
    rintro a S w ⟨s, rfl, hj, h0, h1, h2, h3⟩ he
    exact ⟨HE.out a s w hj he, h2, .inl h3⟩
  case hyield =>
    rintro a S w i ⟨s, rfl, hj, h0, h1, h2, h3⟩ hn hai hiN
    refine yield_at r h3 (by rw [HRP.out]; rfl) ?_
    rw [HRA.out, HRT.out, HRP.out]
    gi_wp2

    rw [HRB.out]
    have hl3 : w0.heap.size + 1 + 1 + 1 < w.heap.size := (Array.getElem?_eq_some_iff.1 h3).1
    have ho5 : Only w0.heap.size (w0.heap.size + 4) w (w.putObj (w0.heap.size + 1 + 1 + 1) (r.at .busy none)) := (only_put _).mono (by omega) (by omega)
    have hj5 := HST.out a s w _ hj ho5
    have k0 : (w.putObj (w0.heap.size + 1 + 1 + 1) (r.at .busy none)).heap[w0.heap.size]? = some (.cells #[.func (.func fy) #[] cap] 37) := (World.putObj_heap_other (by omega)).trans h0
    have k1 : (w.putObj (w0.heap.size + 1 + 1 + 1) (r.at .busy none)).heap[w0.heap.size + 1]? = some (.cells #[.pointer (some (L.m 0))] 86) := (World.putObj_heap_other (by omega)).trans h1
    have k2 : (w.putObj (w0.heap.size + 1 + 1 + 1) (r.at .busy none)).heap[w0.heap.size + 1 + 1]? = some (.deferred (some [])) := (World.putObj_heap_other (by omega)).trans h2
    have k3 : (w.putObj (w0.heap.size + 1 + 1 + 1) (r.at .busy none)).heap[w0.heap.size + 1 + 1 + 1]? = some (r.at .busy none) := World.putObj_heap_same hl3
    generalize w.putObj (w0.heap.size + 1 + 1 + 1) (r.at .busy none) = w5 at *
    clear h0 h1 h2 h3 hj ho5 hl3
    obtain ⟨hs5, hn5, hb5⟩ := HM.out a s w5 hj5
    have hhas : s.has (i : Int) = true := by
      unfold St.has
      rw [decide_eq_true (by omega), Int.toNat_natCast]
      rcases Bm.next_spec (s.B 0) N (a : Int) with ⟨e, _⟩ | ⟨i', e, _, _, hi', _⟩
      · rw [hn] at e; omega
      · rw [hn] at e
        obtain rfl : i = i' := by omega
        rw [hi']; rfl
    have HS5 := Lib.hid hs5
    have HJ5 := Lib.hid hj5
    have HN5 := Lib.hid hn5
    have HK := Lib.hid (And.intro k0 (And.intro k1 (And.intro k2 k3)))
    have HH := Lib.hid hhas
    have HNX := Lib.hid hn
    have hsl : bx < w5.heap.size := World.block_lt_of_cell? w5 _ hb5
    have HI := Lib.hid (And.intro hai hiN)
    clear hs5 hj5 hn5 k1 k2 k3 hhas hn
    have hcf0 := cell_of (v := .func (.func fy) #[] cap) k0 0 rfl
    have hkl := (Array.getElem?_eq_some_iff.1 k0).1
    have HWF := Lib.hid (wf_of (x := (i : Int)) (by have := HS5.out.n2; have := HN5.out; omega))
    gi_wp2_with fail
    refine ⟨trivial, (CallsIn.inRound _ (callsIn_wide.2 (block_yes w5 L s HS5.out i HWF.out HH.out))).mono ?_⟩
    rintro e w6 ⟨rfl, hs6⟩
    have hj6 := HST.out a s w5 w6 HJ5.out (hs6.any _ _)
    have hK6 : ∀ k, k < w5.heap.size → w6.heap[k]? = w5.heap[k]? := fun k hk => hs6.block k hk (.inl hk)
    obtain ⟨k0, k1, k2, k3⟩ := HK.out
    have q0 := (hK6 _ (Array.getElem?_eq_some_iff.1 k0).1).trans k0
    have q1 := (hK6 _ (Array.getElem?_eq_some_iff.1 k1).1).trans k1
    have q2 := (hK6 _ (Array.getElem?_eq_some_iff.1 k2).1).trans k2
    have q3 := (hK6 _ (Array.getElem?_eq_some_iff.1 k3).1).trans k3
    have hcf6 := cell_of (v := .func (.func fy) #[] cap) q0 0 rfl
    have hkl6 := (Array.getElem?_eq_some_iff.1 q0).1
    have HQ6 := Lib.hid (And.intro q0 (And.intro q1 (And.intro q2 q3)))
    have HJ6 := Lib.hid hj6
    clear hj6 hK6 k0 k1 k2 k3 q0 q1 q2 q3 hs6 hcf0 hkl hb5
    obtain ⟨⟨kx, zx, sx, tx⟩, hx⟩ : ∃ x, s.sh (i : Int) = x := ⟨_, rfl⟩
    rw [hx]
    have HX := Lib.hid hx; clear hx
    gi_wp2_with fail
    have hj7 := HST.out a s w6 (w6.alloc (.cells #[.int .i64 (i : Int), .int .i64 kx, .int .i64 zx, .int .i64 sx, .int .i64 tx] 34)) HJ6.out ((Only.refl _ _ w6).alloc _)
    have hK7 : ∀ k, k < w6.heap.size → (w6.alloc (.cells #[.int .i64 (i : Int), .int .i64 kx, .int .i64 zx, .int .i64 sx, .int .i64 tx] 34)).heap[k]? = w6.heap[k]? := fun k hk => Below.heap_alloc _ _ _ hk
    obtain ⟨k0, k1, k2, k3⟩ := HQ6.out
    have q0 := (hK7 _ (Array.getElem?_eq_some_iff.1 k0).1).trans k0
    have q1 := (hK7 _ (Array.getElem?_eq_some_iff.1 k1).1).trans k1
    have q2 := (hK7 _ (Array.getElem?_eq_some_iff.1 k2).1).trans k2
    have q3 := (hK7 _ (Array.getElem?_eq_some_iff.1 k3).1).trans k3
    have HQ7 := Lib.hid (And.intro q0 (And.intro q1 (And.intro q2 q3)))
    have HJ7 := Lib.hid hj7
    clear hj7 hK7 k0 k1 k2 k3 q0 q1 q2 q3 hcf6 hkl6
    generalize w6.alloc (.cells #[.int .i64 (i : Int), .int .i64 kx, .int .i64 zx, .int .i64 sx, .int .i64 tx] 34) = w7 at *
    have hsz7 : w0.heap.size + 4 ≤ w7.heap.size := by obtain ⟨_, _, _, q3⟩ := HQ7.out; exact (Array.getElem?_eq_some_iff.1 q3).1
    have HYY := Lib.hid (HY.out a s w7 i HJ7.out HNX.out HI.out.1 HI.out.2 hsz7)
    clear hsz7
    rw [HX.out] at HYY
    refine ⟨trivial, (CallsIn.inRound _ (callsIn_wide.2 HYY.out)).mono ?_⟩
    rintro e w8 (⟨rfl, hk8, s', hj8⟩ | ⟨rfl, hk8, hd8⟩)
    · obtain ⟨k0, k1, k2, k3⟩ := HQ7.out
      have q0 := (hk8 _ (by omega) (by omega)).trans k0
      have q1 := (hk8 _ (by omega) (by omega)).trans k1
      have q2 := (hk8 _ (by omega) (by omega)).trans k2
      have q3 := (hk8 _ (by omega) (by omega)).trans k3
      have HQ8 := Lib.hid (And.intro q0 (And.intro q1 (And.intro q2 q3)))
      have HJ8 := Lib.hid hj8
      clear k0 k1 k2 k3 q0 q1 q2 q3 hk8 hj8
      gi_wp2_with fail
      obtain ⟨k0, k1, k2, k3⟩ := HQ8.out
      exact ⟨k3, .inl ⟨rfl, _, s', rfl, HST.out _ _ _ _ HJ8.out ((only_put _).mono (by omega) (by omega)), (World.putObj_heap_other (by omega)).trans k0, (World.putObj_heap_other (by omega)).trans k1, (World.putObj_heap_other (by omega)).trans k2, World.putObj_heap_same (Array.getElem?_eq_some_iff.1 k3).1⟩⟩
    · obtain ⟨k0, k1, k2, k3⟩ := HQ7.out
      have q2 := (hk8 _ (by omega) (by omega)).trans k2
      have q3 := (hk8 _ (by omega) (by omega)).trans k3
      have HQ8 := Lib.hid (And.intro q2 q3)
      have HD8 := Lib.hid hd8
      clear k0 k1 k2 k3 q2 q3 hk8 hd8
      gi_wp2_with fail
      obtain ⟨k2, k3⟩ := HQ8.out
      exact ⟨k3, .inr ⟨rfl, HSTD.out _ _ HD8.out ((only_put _).mono (by omega) (by omega)), (World.putObj_heap_other (by omega)).trans k2, .inr (World.putObj_heap_same (Array.getElem?_eq_some_iff.1 k3).1)⟩⟩
  · rintro e W2 ⟨hv, hd, h2, h3⟩
    refine ⟨hv, ?_⟩
    have hk : ∀ o, (W2.putObj (w0.heap.size + 1 + 1 + 1) o).heap[w0.heap.size + 1 + 1]? = some (.deferred (some [])) := fun o => (World.putObj_heap_other (by omega)).trans h2
    have hfin : ∀ o, D ((W2.putObj (w0.heap.size + 1 + 1 + 1) o).putObj (w0.heap.size + 1 + 1) (.deferred none)) := fun o =>
      HSTD.out _ _ hd (((only_put _).mono (by omega) (by omega) : Only w0.heap.size (w0.heap.size + 4) _ _).trans ((only_put _).mono (by omega) (by omega)))
    rcases h3 with h3 | h3
    · refine .inl ⟨h3, ?_⟩
      have HK := Lib.hid (hk (r.at .exhausted none))
      have HF := Lib.hid (hfin (r.at .exhausted none))
      clear hk hfin h2 hd
      gi_wp2
      refine ⟨by simp, .inl ⟨_, _, rfl, run_takeDeferred HK.out, ?_⟩⟩
      exact ⟨_, results_none rfl _ _ _, rfl, HF.out⟩
    · refine .inr ⟨.ret, h3, ?_⟩
      have HK := Lib.hid (hk (r.at .exhausted (some .ret)))
      have HF := Lib.hid (hfin (r.at .exhausted (some .ret)))
      clear hk hfin h2 hd
      gi_wp2
      refine ⟨by simp, .inl ⟨_, _, rfl, run_takeDeferred HK.out, ?_⟩⟩
      exact ⟨_, results_none rfl _ _ _, rfl, HF.out⟩
end Go.Proofs.YtiniadochjeieaaDoor
