/-
  The walk of SpaceOver.
-/
import Derived.Test.YtiniadochjeieaaDoorQR
import Derived.Test.YtiniadochjeieaaDoorQR3
namespace Go.Proofs.YtiniadochjeieaaDoor
open Go Go.RowKit

theorem OpsB.mono {w : World} {B B' : Nat} {a : Option Addr} {len : Nat} {os : Nat → OpV} (h : OpsB w B a len os) (hb : B ≤ B') : OpsB w B' a len os :=
  ⟨h.1, fun i hi => by
    obtain ⟨x, h1, h2, h3, h4⟩ := h.2 i hi
    exact ⟨x, h1, by omega, h3, fun y hy h0 => by have := h4 y hy h0; omega⟩⟩
theorem OpsB.is {w : World} {B : Nat} {a : Option Addr} {len : Nat} {os : Nat → OpV} (h : OpsB w B a len os) : IsOps w a len os :=
  ⟨h.1, fun i hi => by
    obtain ⟨x, h1, _, h3, _⟩ := h.2 i hi
    exact ⟨x, h1, h3⟩⟩

theorem cnt_next {S : Nat → Bool} {N a i : Nat} (h : Bm.next S N (a : Int) = ((i : Nat) : Int)) (hi : a ≤ i) : Bm.cnt S 0 (i + 1) = Bm.cnt S 0 a + 1 := by
  rcases Bm.next_spec S N (a : Int) with ⟨e, _⟩ | ⟨i', e, h2, h3, h4, h5⟩
  · rw [e] at h; omega
  · rw [e] at h
    obtain rfl : i' = i := by omega
    have e1 := Bm.cnt_add S 0 a (i' - a)
    have z := Bm.cnt_zero (S := S) (a := 0 + a) (n := i' - a) (fun j hj1 hj2 => h5 j (by omega) (by omega))
    rw [show a + (i' - a) = i' by omega] at e1
    show Bm.cnt S 0 i' + (S (0 + i')).toNat = _
    have e3 : (S (0 + i')).toNat = 1 := by rw [Nat.zero_add, h4]; rfl
    omega
theorem cnt_end {S : Nat → Bool} {N a : Nat} (h : Bm.next S N (a : Int) = -1) (ha : a ≤ N) : Bm.cnt S 0 a = Bm.cnt S 0 N := by
  rcases Bm.next_spec S N (a : Int) with ⟨_, h5⟩ | ⟨i', e, h2, h3, h4, _⟩
  · have e1 := Bm.cnt_add S 0 a (N - a)
    rw [show a + (N - a) = N by omega, Bm.cnt_zero (a := 0 + a) (fun j hj1 hj2 => h5 j (by omega) (by omega))] at e1
    omega
  · rw [e] at h; omega
theorem cnt_mono (S : Nat → Bool) {a b : Nat} (h : a ≤ b) : Bm.cnt S 0 a ≤ Bm.cnt S 0 b := by
  have e1 := Bm.cnt_add S 0 a (b - a)
  rw [show a + (b - a) = b by omega] at e1
  omega
/-- What lies beyond a law's world may turn. -/
theorem Wld.beyond {w w' : World} {L : Lay} {s : St} {wb : Nat} {os : List Ob} {v : Value} (h : Wld w L s wb os v) {lo hi : Nat} (ho : Only lo hi w w') (hl : L.hi ≤ lo) (hg : ∀ g, v.ownBlock = some g → g < lo) : Wld w' L s wb os v := by
  have hlo := h.lo
  have hlh := h.sp.ok.inn 0 (by omega)
  refine ⟨h.pos, h.lo, (ho.block _ h.lt (.inl (by omega))).trans h.head, ownsRow_of_block h.row fun g hg' => ho.block g (h.row.lt g hg').2 (.inl (hg g hg')), h.sp.kept ho (.inl hl) (by have := h.pos; omega), h.inv, h.agree⟩
/-- A goal that is not looked through. -/
structure Vl (p : Prop) : Prop where
  out : p
theorem vl_step {P : Program} {ops : Array Oper} {w : World} {Q : Act → Prop} {a : Act} {o : Oper} {rest : List Oper}
    (h : ∀ K : Act → Prop, (∀ a, Vl (wpStill P ops w Q rest a) → K a) → Vl (if Region.wanted o (yielded ops a.tmps) then o.still P a w K else K (a.put o.dst undef))) : Vl (wpStill P ops w Q (o :: rest) a) :=
  ⟨wpStill_step fun K hK => (h K fun a ha => hK a ha.out).out⟩
theorem vl_nil {P : Program} {ops : Array Oper} {w : World} {Q : Act → Prop} {a : Act} (h : Q a) : Vl (wpStill P ops w Q [] a) := ⟨wpStill_nil h⟩
/-- What the walks over all objects keep. -/
structure OvJ (L : Lay) (s : St) (wb : Nat) (os : List Ob) (v : Value) (pb ab lb : Nat) (x : Int) (w : World) : Prop where
  wld : Wld w L s wb os v
  hp : w.heap[pb]? = some (.cells #[.pointer (some ⟨wb, 0, none⟩)] 23 (0, 0))
  ha : w.heap[ab]? = some (.cells #[.pointer (some ⟨L.sb, 0, none⟩)] 27 (0, 0))
  hl : w.heap[lb]? = some (.cells #[.int .i64 x] 3 (0, 0))
  hg : w.heap[lb + 1]? = some (.cells #[.bool true] 4 (0, 0))
/-- How the boxes lie. -/
structure OvB (L : Lay) (v : Value) (pb ab lb : Nat) : Prop where
  h1 : L.hi ≤ pb
  h2 : pb < ab
  h3 : ab < lb
  own : ∀ g, v.ownBlock = some g → g < lb
theorem at_only {w w' : World} {lo hi k : Nat} {o : Obj} (ho : Only lo hi w w') (h : w.heap[k]? = some o) (hk : k < lo ∨ hi ≤ k) : w'.heap[k]? = some o := (ho.block _ (Array.getElem?_eq_some_iff.1 h).1 hk).trans h
theorem OvJ.only {L : Lay} {s : St} {wb : Nat} {os : List Ob} {v : Value} {pb ab lb : Nat} {x : Int} {w w' : World} (h : OvJ L s wb os v pb ab lb x w) (b : OvB L v pb ab lb) {lo hi : Nat} (ho : Only lo hi w w') (hl : lb + 2 ≤ lo) : OvJ L s wb os v pb ab lb x w' := by
  have := b.h1; have := b.h2; have := b.h3
  exact ⟨h.wld.beyond ho (by omega) (fun g hg => by have := b.own g hg; omega), at_only ho h.hp (.inl (by omega)), at_only ho h.ha (.inl (by omega)), at_only ho h.hl (.inl (by omega)), at_only ho h.hg (.inl (by omega))⟩
theorem OvJ.turn {L : Lay} {s : St} {wb : Nat} {os : List Ob} {v : Value} {pb ab lb : Nat} {x y : Int} {w w' : World} (h : OvJ L s wb os v pb ab lb x w) (b : OvB L v pb ab lb) {hi : Nat} (ho : Only lb hi w w')
    (h1 : w'.heap[lb]? = some (.cells #[.int .i64 y] 3 (0, 0))) (h2 : w'.heap[lb + 1]? = some (.cells #[.bool true] 4 (0, 0))) : OvJ L s wb os v pb ab lb y w' := by
  have := b.h1; have := b.h2; have := b.h3
  exact ⟨h.wld.beyond ho (by omega) b.own, at_only ho h.hp (.inl (by omega)), at_only ho h.ha (.inl (by omega)), h1, h2⟩

/-- The first walk over all. -/
theorem over_first (w : World) (L : Lay) (s : St) (wb : Nat) (os : List Ob) (v : Value) (pb ab lb : Nat) (b : OvB L v pb ab lb) (hl : os.length ≤ 1000000) (h : OvJ L s wb os v pb ab lb (-1) w) :
    Calls Tryd.prog 44 #[.func (.func 15) #[] #[.pointer (some ⟨pb, 0, none⟩), .pointer (some ⟨lb, 0, none⟩), .pointer (some ⟨lb + 1, 0, none⟩)], .pointer (some ⟨ab, 0, none⟩)] w fun e w' =>
      e = .returned (.tuple #[]) ∧ ∃ x, OvJ L s wb os v pb ab lb x w' ∧ abv os x os.length = none ∧ Only lb w.heap.size w w' := by
  have hlt : lb + 2 ≤ w.heap.size := by have := (Array.getElem?_eq_some_iff.1 h.hg).1; omega
  refine all1_fn (fun a s' w' => s' = s ∧ OvJ L s wb os v pb ab lb ((a : Int) - 1) w' ∧ Only lb w.heap.size w w')
    (fun w' => ∃ x, OvJ L s wb os v pb ab lb x w' ∧ abv os x os.length = none ∧ Only lb w.heap.size w w') L (64 * s.n) ab 15 _ w ?_ ?_ ?_ ?_ ?_ ?_ s ⟨rfl, h, Only.refl _ _ _⟩
  · exact enters_of Tryd.func15 (by kernel_rfl) rfl
  · rintro a s' w' ⟨rfl, hj, _⟩
    exact ⟨hj.wld.sp, rfl, cell_of hj.ha 0 rfl⟩
  · rintro a s' w1 w2 ⟨rfl, hj, ho1⟩ ho
    exact ⟨rfl, hj.only b ho hlt, ho1.trans' ho (.inl (by omega)) (.inr (Nat.le_refl _))⟩
  · rintro w1 w2 ⟨x, hj, hx, ho1⟩ ho
    exact ⟨x, hj.only b ho hlt, hx, ho1.trans' ho (.inl (by omega)) (.inr (Nat.le_refl _))⟩
  · rintro a s' w1 i ⟨rfl, hj, ho1⟩ hn ha hi hsz
    have habv := hj.wld.agree.next hj.wld.inv rfl hn
    have hc := over1_any w1 L s' wb os v hj.wld hl pb lb _ _ habv hj.hp hj.hl hj.hg
    refine hc.mono ?_
    rintro e w2 ⟨rfl, h1, h2, ho⟩
    refine .inl ⟨rfl, fun k hk1 hk2 => ho.block k (by omega) (.inr (by omega)), s', rfl, hj.turn b ho (by rw [show (((i + 1 : Nat) : Int) - 1) = (i : Int) by omega]; exact h1) h2, ho1.trans (ho.mono (Nat.le_refl _) (by omega))⟩
  · rintro a s' w1 ⟨rfl, hj, ho1⟩ hn
    exact ⟨_, hj, hj.wld.agree.nextNone hj.wld.inv rfl hn, ho1⟩
/-- The second one. -/
theorem over_second (w : World) (L : Lay) (s : St) (wb : Nat) (os : List Ob) (v : Value) (pb ab lb kb : Nat) (k : Int) (hk1 : 0 < k) (hk9 : k ≤ 9) (hlk : lb + 1 < kb) (b : OvB L v pb ab lb) (hl : os.length ≤ 1000000) (h : OvJ L s wb os v pb ab lb (-1) w)
    (hkb : w.heap[kb]? = some (.cells #[.int .i64 k] 3 (0, 0))) (htb : w.heap[kb + 1]? = some (.cells #[.int .i64 0] 3 (0, 0))) :
    Calls Tryd.prog 44 #[.func (.func 18) #[] #[.pointer (some ⟨pb, 0, none⟩), .pointer (some ⟨lb, 0, none⟩), .pointer (some ⟨lb + 1, 0, none⟩), .pointer (some ⟨kb + 1, 0, none⟩), .pointer (some ⟨kb, 0, none⟩)], .pointer (some ⟨ab, 0, none⟩)] w fun e w' =>
      e = .returned (.tuple #[]) ∧ ∃ x t, OvJ L s wb os v pb ab lb x w' ∧ w'.heap[kb]? = some (.cells #[.int .i64 k] 3 (0, 0)) ∧ w'.heap[kb + 1]? = some (.cells #[.int .i64 t] 3 (0, 0)) ∧ (t = k ∨ t = os.length) ∧ 0 ≤ t ∧ t ≤ os.length ∧ Only lb w.heap.size w w' := by
  have hlt : kb + 2 ≤ w.heap.size := by have := (Array.getElem?_eq_some_iff.1 htb).1; omega
  have hcnt := h.wld.agree.count h.wld.inv
  refine all1_fn (fun a s' w' => s' = s ∧ OvJ L s wb os v pb ab lb ((a : Int) - 1) w' ∧ Only lb w.heap.size w w' ∧ w'.heap[kb]? = some (.cells #[.int .i64 k] 3 (0, 0)) ∧ w'.heap[kb + 1]? = some (.cells #[.int .i64 ((Bm.cnt (s.B 0) 0 a : Nat) : Int)] 3 (0, 0)) ∧ ((Bm.cnt (s.B 0) 0 a : Nat) : Int) < k ∧ a ≤ 64 * s.n)
    (fun w' => ∃ x t, OvJ L s wb os v pb ab lb x w' ∧ w'.heap[kb]? = some (.cells #[.int .i64 k] 3 (0, 0)) ∧ w'.heap[kb + 1]? = some (.cells #[.int .i64 t] 3 (0, 0)) ∧ (t = k ∨ t = os.length) ∧ 0 ≤ t ∧ t ≤ os.length ∧ Only lb w.heap.size w w') L (64 * s.n) ab 18 _ w ?_ ?_ ?_ ?_ ?_ ?_ s ⟨rfl, h, Only.refl _ _ _, hkb, htb, hk1, Nat.zero_le _⟩
  · exact enters_of Tryd.func18 (by kernel_rfl) rfl
  · rintro a s' w' ⟨rfl, hj, _⟩
    exact ⟨hj.wld.sp, rfl, cell_of hj.ha 0 rfl⟩
  · rintro a s' w1 w2 ⟨rfl, hj, ho1, q1, q2, q3⟩ ho
    exact ⟨rfl, hj.only b ho (by omega), ho1.trans' ho (.inl (by omega)) (.inr (Nat.le_refl _)), at_only ho q1 (.inl (by omega)), at_only ho q2 (.inl (by omega)), q3⟩
  · rintro w1 w2 ⟨x, t, hj, q1, q2, q3, q4, q5, ho1⟩ ho
    exact ⟨x, t, hj.only b ho (by omega), at_only ho q1 (.inl (by omega)), at_only ho q2 (.inl (by omega)), q3, q4, q5, ho1.trans' ho (.inl (by omega)) (.inr (Nat.le_refl _))⟩
  · rintro a s' w1 i ⟨rfl, hj, ho1, q1, q2, q3, q4⟩ hn ha hi hsz
    have habv := hj.wld.agree.next hj.wld.inv rfl hn
    have hc := over2_any w1 L s' wb os v hj.wld hl pb lb _ _ habv hj.hp hj.hl hj.hg kb _ k ⟨by omega, q3⟩ hk9 q1 q2 hlk
    have hcn := cnt_next hn ha
    have hcm := cnt_mono (s'.B 0) (show i + 1 ≤ 64 * s'.n by omega)
    refine hc.mono ?_
    rintro e w2 ⟨rfl, h1, h2, h3, h4, ho⟩
    have hj2 : OvJ L s' wb os v pb ab lb (((i + 1 : Nat) : Int) - 1) w2 := hj.turn b ho (by rw [show (((i + 1 : Nat) : Int) - 1) = (i : Int) by omega]; exact h1) h2
    have hke : Kept4 w.heap.size w1 w2 := fun k hk1 hk2 => ho.block k (by omega) (.inr (by omega))
    have ho2 : Only lb w.heap.size w w2 := ho1.trans (ho.mono (Nat.le_refl _) (by omega))
    have e1 : ((Bm.cnt (s'.B 0) 0 a : Nat) : Int) + 1 = ((Bm.cnt (s'.B 0) 0 (i + 1) : Nat) : Int) := by omega
    rw [e1] at h4 ⊢
    by_cases hlk2 : ((Bm.cnt (s'.B 0) 0 (i + 1) : Nat) : Int) < k
    · refine .inl ⟨by rw [decide_eq_true hlk2], hke, s', rfl, hj2, ho2, h3, h4, hlk2, by omega⟩
    · refine .inr ⟨by rw [decide_eq_false hlk2], hke, _, _, hj2, h3, h4, .inl (by omega), by omega, by omega, ho2⟩
  · rintro a s' w1 ⟨rfl, hj, ho1, q1, q2, q3, q4⟩ hn
    have := cnt_end hn q4
    exact ⟨_, _, hj, q1, q2, .inr (by omega), by omega, by omega, ho1⟩
set_option maxRecDepth 100000 in
set_option maxHeartbeats 3200000 in
theorem over_any (n : Int) (a : Option Addr) (len cap : Nat) (ops : Nat → OpV) (stop : Int) (w : World) (hn : (Lit.int .i64 n).wf = true) (ho : OpsB w w.heap.size a len ops) (hs : (Lit.int .i64 stop).wf = true) (hT : Tab w) (h0 : 0 < w.heap.size) :
    Calls Tryd.prog 3 #[.int .i64 n, .slice a len cap, .int .i64 stop] w fun e w' => e = .returned (.bool true) ∧ Below w.heap.size w w' := by
  obtain ⟨hn1, hn2⟩ := wf_i64 hn
  obtain ⟨hs1, hs2⟩ := wf_i64 hs
  have HO := Lib.hid ho
  have HT := Lib.hid hT
  have HBG := Lib.hid (begun_any n w hn1 hn2 hT h0)
  have hcmp : ∀ (fn : Fn) (ws bs : Array Value) (w : World), (binOp .eql 26 (.func fn ws bs) .nilFunc).run Tryd.prog w = .ok (.bool false) w := fun _ _ _ _ => by kernel_rfl
  have hcmp2 : ∀ (fn : Fn) (ws bs : Array Value) (w : World), (binOp .neq 26 (.func fn ws bs) .nilFunc).run Tryd.prog w = .ok (.bool true) w := fun _ _ _ _ => by kernel_rfl
  clear ho hT hn hs
  go_enter Tryd.func3, Tryd.ntmps3
  go_wp2_with fail
  refine HBG.out _ (fun w1 L wb hwb hW hst => ?_)
  have HST := Lib.hid hst
  have HW := Lib.hid hW
  have HWB := Lib.hid hwb
  have c1 := hW.c1
  have cl := hW.lt
  clear hst hW HBG
  go_wp2_with fail
  have hp := heap_alloc_new w1 (.cells #[.pointer (some ⟨wb, 0, none⟩)] 23)
  have hst2 : Still w1 (w1.alloc (.cells #[.pointer (some ⟨wb, 0, none⟩)] 23)) := (Only.refl _ _ w1).alloc _
  generalize w1.alloc (.cells #[.pointer (some ⟨wb, 0, none⟩)] 23) = w2 at *
  have hW2 := HW.out.still hst2
  obtain ⟨pb, hpb⟩ : ∃ pb, w1.heap.size = pb := ⟨_, rfl⟩
  rw [hpb] at hp ⊢
  refine (sall_any _ _).mono ?_
  rintro e w3 ⟨rfl, hw3⟩
  have hst3 : Still w2 w3 := by rw [hw3]; exact (Only.refl _ _ w2).alloc _
  have ha3 : w3.heap[w2.heap.size]? = some (.cells #[.pointer (some ⟨L.sb, 0, none⟩)] 27) := by rw [hw3]; exact heap_alloc_new w2 _
  have hW3 := hW2.still hst3
  have hp3 := (hst3.block _ (Array.getElem?_eq_some_iff.1 hp).1 (.inl (Array.getElem?_eq_some_iff.1 hp).1)).trans hp
  have HST3 := Lib.hid ((Still.trans HST.out hst2).trans hst3)
  obtain ⟨ab, hab⟩ : ∃ ab, w2.heap.size = ab := ⟨_, rfl⟩
  rw [hab] at ha3 ⊢
  have HO3 := Lib.hid ((HO.out.below HST3.out.below).mono HWB.out)
  have HW3 := Lib.hid hW3
  have HP3 := Lib.hid hp3
  have HA3 := Lib.hid ha3
  have hpl : pb < w3.heap.size := (Array.getElem?_eq_some_iff.1 hp3).1
  have HPB : Hid (w.heap.size ≤ pb ∧ pb < ab ∧ ab < w3.heap.size ∧ wb < pb ∧ L.hi ≤ pb) := Lib.hid (by
    have h1 := HST.out.size
    have h2 := (Array.getElem?_eq_some_iff.1 hp).1
    have h3 := (Array.getElem?_eq_some_iff.1 ha3).1
    exact ⟨by omega, by omega, h3, by omega, by rw [← hpb]; exact HW.out.sp.top⟩)
  have p0 := cell_of (v := .pointer (some ⟨wb, 0, none⟩)) hp3 0 rfl
  have HSM := Lib.hid (small_any a len cap ops w3 HO3.out.is)
  clear hst2 hW2 hst3 hW3 hw3 hp hp3 ha3 hpb hab c1 cl hwb HW
  obtain ⟨b, hb⟩ : ∃ b, smallB ops len = b := ⟨_, rfl⟩
  rw [hb] at HSM
  cases b with
  | false =>
    clear hb
    go_wp2_with (first | (refine HSM.out.mono ?_; rintro e w4 ⟨rfl, rfl⟩))
    go_ret
    exact ⟨rfl, HST3.out.below⟩
  | true =>
    have HLL := Lib.hid (smallB_ll hb)
    clear hb
    go_wp2_with fail
    refine HSM.out.mono ?_
    rintro e w4 ⟨rfl, rfl⟩
    go_wp2_with fail
    refine played_any _ L _ wb [] (.slice none 0 0) HW3.out a len cap ops HO3.out HLL.out (by show 0 ≤ 1000000; omega) (by simp) _ (fun w5 s5 os5 v5 h5 hn5 ha5 hl5 hf5 => ?_)
    have hkeep : ∀ k, k < w3.heap.size → k ≠ wb → (k < L.lo ∨ L.hi ≤ k) → w5.heap[k]? = w3.heap[k]? ∧ v5.ownBlock ≠ some k := fun k e1 e2 e3 => hf5.k k e1 e2 e3 (by intro e; cases e)
    have hp5 := (hkeep pb (by have := HPB.out; omega) (by have := HPB.out; omega) (.inr HPB.out.2.2.2.2)).1.trans HP3.out
    have ha5 := (hkeep ab (by have := HPB.out; omega) (by have := HPB.out; omega) (.inr (by have := HPB.out; omega))).1.trans HA3.out
    have hsz5 := hf5.b.size
    have HBE5 : Hid (Below w.heap.size w w5) := Lib.hid (HST3.out.below.trans (below_le hf5.b HWB.out))
    have HW5 := Lib.hid h5
    have hl5' : os5.length ≤ 1000000 := by simp at hl5; omega
    have hpl5 : pb < w5.heap.size := by omega
    clear hkeep h5 hf5 hn5 HLL HO3 HSM HW3
    go_wp2_with fail
    obtain ⟨lb, hlb⟩ : ∃ lb, w5.heap.size = lb := ⟨_, rfl⟩
    have hl6 : ((w5.alloc (.cells #[.int .i64 (-1)] 3)).alloc (.cells #[.bool true] 4)).heap[lb]? = some (.cells #[.int .i64 (-1)] 3 (0, 0)) := box1_al (by rw [← hlb]; exact heap_alloc_new w5 _)
    have hg6 : ((w5.alloc (.cells #[.int .i64 (-1)] 3)).alloc (.cells #[.bool true] 4)).heap[lb + 1]? = some (.cells #[.bool true] 4 (0, 0)) := by
      have := heap_alloc_new (w5.alloc (.cells #[.int .i64 (-1)] 3)) (.cells #[.bool true] 4)
      rwa [World.size_alloc, hlb] at this
    have hst6 : Still w5 ((w5.alloc (.cells #[.int .i64 (-1)] 3)).alloc (.cells #[.bool true] 4)) := ((Only.refl _ _ w5).alloc _).alloc _
    rw [hlb]
    generalize (w5.alloc (.cells #[.int .i64 (-1)] 3)).alloc (.cells #[.bool true] 4) = w6 at *
    have hal5 := (Array.getElem?_eq_some_iff.1 ha5).1
    have hB : OvB L v5 pb ab lb := ⟨HPB.out.2.2.2.2, HPB.out.2.1, by omega, fun g hg => by have := (HW5.out.row.lt g hg).2; omega⟩
    have hJ6 : OvJ L s5 wb os5 v5 pb ab lb (-1) w6 := ⟨HW5.out.still hst6, at_only hst6 hp5 (.inl hpl5), at_only hst6 ha5 (.inl hal5), hl6, hg6⟩
    have HBE6 : Hid (Below w.heap.size w w6) := Lib.hid (HBE5.out.trans (below_le hst6.below (by have := HPB.out; omega)))
    have HLB : Hid (w.heap.size ≤ lb ∧ lb + 2 ≤ w6.heap.size) := Lib.hid ⟨by have := HPB.out; omega, (Array.getElem?_eq_some_iff.1 hg6).1⟩
    have HBB := Lib.hid hB
    refine (over_first w6 L s5 wb os5 v5 pb ab lb hB hl5' hJ6).mono ?_
    clear hp5 ha5 hl6 hg6 hst6 hal5 hB hJ6 hsz5 hpl5 hlb p0 hpl
    rintro e w7 ⟨rfl, x, hj7, hx7, ho7⟩
    have HJ7 := Lib.hid hj7
    have HBE7 : Hid (Below w.heap.size w w7) := Lib.hid (HBE6.out.trans (below_le (Only.below ho7 (by have := HLB.out; omega)) HLB.out.1))
    have HAB := Lib.hid (above_any w7 L s5 wb os5 v5 hj7.wld hl5' x)
    rw [hx7] at HAB
    have p0 := cell_of (v := .pointer (some ⟨wb, 0, none⟩)) hj7.hp 0 rfl
    have l0 := cell_of (v := .int .i64 x) hj7.hl 0 rfl
    have pl := (Array.getElem?_eq_some_iff.1 hj7.hp).1
    have ll := (Array.getElem?_eq_some_iff.1 hj7.hl).1
    clear hj7 hx7 ho7
    dsimp only [Option.getD_none, Option.isSome_none, Ob.val, ob0] at HAB
    go_wp2_with fail
    refine HAB.out.mono ?_
    rintro e w8 ⟨rfl, hs8⟩
    have hj8 := HJ7.out.only HBB.out hs8 (by have := (Array.getElem?_eq_some_iff.1 HJ7.out.hg).1; omega)
    have HBE8 : Hid (Below w.heap.size w w8) := Lib.hid (HBE7.out.trans (below_le hs8.below (by have := HBE7.out.size; omega)))
    have g0 := cell_of (v := .bool true) hj8.hg 0 rfl
    have gl := (Array.getElem?_eq_some_iff.1 hj8.hg).1
    have HJ8 := Lib.hid hj8
    clear hj8 hs8 p0 l0 pl ll
    go_wp2_with fail
    have hst9 : Still w8 (w8.alloc (.cells #[.int .i64 0, .int .i64 0, .int .i64 0, .int .i64 0, .int .i64 0] 34)) := (Only.refl _ _ w8).alloc _
    generalize w8.alloc (.cells #[.int .i64 0, .int .i64 0, .int .i64 0, .int .i64 0, .int .i64 0] 34) = w9 at *
    have hj9 := HJ8.out.only HBB.out hst9 gl
    have HBE9 : Hid (Below w.heap.size w w9) := Lib.hid (HBE8.out.trans (below_le hst9.below (by have := HBE8.out.size; omega)))
    have l0 := cell_of (v := .int .i64 x) hj9.hl 0 rfl
    have lf := frozen_of hj9.hl 0
    have ll := (Array.getElem?_eq_some_iff.1 hj9.hl).1
    have lg := (Array.getElem?_eq_some_iff.1 hj9.hg).1
    have HJ9 := Lib.hid hj9
    clear hj9 hst9 g0 gl
    have hwi := wi_range stop 9 (by omega)
    obtain ⟨kx, hkx⟩ : ∃ kx, wi stop 9 = kx := ⟨_, rfl⟩
    have HWI := Lib.hid (within_any stop 9 w9 hs1 hs2 (by omega) (by omega))
    rw [hkx] at HWI hwi
    have hk1 : (0 : Int) ≤ kx := hwi.1
    have hk2 : kx < 9 := hwi.2
    clear hkx hwi
    refine HWI.out.mono ?_
    rintro e w10 ⟨rfl, rfl⟩
    go_wp2_with fail
    obtain ⟨kb, hkb⟩ : ∃ kb, w9.heap.size = kb := ⟨_, rfl⟩
    obtain ⟨k, hk⟩ : ∃ k, 1 + kx = k := ⟨_, rfl⟩
    rw [hkb, hk]
    have hj10 : OvJ L s5 wb os5 v5 pb ab lb (-1) (w9.setCell ⟨lb, 0, none⟩ (.int .i64 (-1))) := HJ9.out.turn HBB.out (only_cell w9 lb 0 _) (box1 HJ9.out.hl _) ((box1_ne (by omega) _ _).trans HJ9.out.hg)
    have hbe10 : Below w.heap.size w (w9.setCell ⟨lb, 0, none⟩ (.int .i64 (-1))) := HBE9.out.setCell (p := ⟨lb, 0, none⟩) HLB.out.1 _
    have hsz10 : (w9.setCell ⟨lb, 0, none⟩ (.int .i64 (-1))).heap.size = kb := by rw [← hkb]; simp [World.setCell]
    have hkl : lb + 1 < kb := by rw [← hkb]; exact lg
    generalize w9.setCell ⟨lb, 0, none⟩ (.int .i64 (-1)) = w10 at *
    have hkb11 : ((w10.alloc (.cells #[.int .i64 k] 3)).alloc (.cells #[.int .i64 0] 3)).heap[kb]? = some (.cells #[.int .i64 k] 3 (0, 0)) := box1_al (by rw [← hsz10]; exact heap_alloc_new w10 _)
    have htb11 : ((w10.alloc (.cells #[.int .i64 k] 3)).alloc (.cells #[.int .i64 0] 3)).heap[kb + 1]? = some (.cells #[.int .i64 0] 3 (0, 0)) := by
      have := heap_alloc_new (w10.alloc (.cells #[.int .i64 k] 3)) (.cells #[.int .i64 0] 3)
      rwa [World.size_alloc, hsz10] at this
    have hst11 : Still w10 ((w10.alloc (.cells #[.int .i64 k] 3)).alloc (.cells #[.int .i64 0] 3)) := ((Only.refl _ _ w10).alloc _).alloc _
    generalize (w10.alloc (.cells #[.int .i64 k] 3)).alloc (.cells #[.int .i64 0] 3) = w11 at *
    have HBE11 : Hid (Below w.heap.size w w11) := Lib.hid (hbe10.trans (below_le hst11.below (by have := HLB.out; omega)))
    have hsz11 : lb ≤ w11.heap.size := by have := (Array.getElem?_eq_some_iff.1 htb11).1; omega
    refine (over_second w11 L s5 wb os5 v5 pb ab lb kb k (by omega) (by omega) hkl HBB.out hl5' (hj10.only HBB.out hst11 (by omega)) hkb11 htb11).mono ?_
    clear hkb11 htb11 hst11 hj10 hbe10 hsz10 hkb l0 lf ll lg HWI
    rintro e w12 ⟨rfl, x2, t, hj12, q1, q2, q3, q4, q5, ho12⟩
    have HBE12 : Hid (Below w.heap.size w w12) := Lib.hid (HBE11.out.trans (below_le (Only.below ho12 hsz11) HLB.out.1))
    have g0 := cell_of (v := .bool true) hj12.hg 0 rfl
    have k0 := cell_of (v := .int .i64 k) q1 0 rfl
    have t0 := cell_of (v := .int .i64 t) q2 0 rfl
    have p0 := cell_of (v := .pointer (some ⟨wb, 0, none⟩)) hj12.hp 0 rfl
    have c2 := hj12.wld.c2
    have cl := hj12.wld.lt
    have hv5 : ∃ ao cp, v5 = .slice ao os5.length cp := by
      rcases hj12.wld.row.2 with ⟨h1, h2⟩ | ⟨g, cap, cur, h1, _⟩
      · rw [h2]; exact ⟨_, _, h1⟩
      · exact ⟨_, _, h1⟩
    obtain ⟨ao, cp, hv5⟩ := hv5
    rw [hv5] at c2
    have HJ12 := Lib.hid hj12
    obtain ⟨m, hm⟩ : ∃ m, os5.length = m := ⟨_, rfl⟩
    rw [hm] at c2 q3 q5 hl5'
    have r5 : decide (t ≤ (m : Int)) = true := decide_eq_true q5
    have HAL := Lib.hid (fun w' (h : Still w12 w') => alive_any w' (HJ12.out.wld.sp.still h).tab (HJ12.out.wld.sp.still h).lo0)
    have HSZ : Hid (w.heap.size ≤ w12.heap.size) := Lib.hid HBE12.out.size
    have HKC : Hid (∀ w', Still w12 w' → w'.cell? ⟨lb + 1, 0, none⟩ = some (.bool true) ∧ w'.cell? ⟨kb + 1, 0, none⟩ = some (.int .i64 t) ∧ w'.cell? ⟨kb, 0, none⟩ = some (.int .i64 k) ∧ w'.cell? ⟨pb, 0, none⟩ = some (.pointer (some ⟨wb, 0, none⟩)) ∧ w'.cell? ⟨wb, 2, none⟩ = some (.slice ao m cp)) := Lib.hid fun w' h =>
      ⟨cell_of (at_only h HJ12.out.hg (.inl (Array.getElem?_eq_some_iff.1 HJ12.out.hg).1)) 0 rfl, cell_of (at_only h q2 (.inl (Array.getElem?_eq_some_iff.1 q2).1)) 0 rfl, cell_of (at_only h q1 (.inl (Array.getElem?_eq_some_iff.1 q1).1)) 0 rfl, cell_of (at_only h HJ12.out.hp (.inl (Array.getElem?_eq_some_iff.1 HJ12.out.hp).1)) 0 rfl, by
        have := (HJ12.out.wld.still h).c2
        rw [hv5, hm] at this
        exact this⟩
    clear q1 q2 hj12 HJ9 HJ8 HJ7 HBE9 HBE8 HBE7 HBE6 ho12
    by_cases htk : t = k
    · subst htk
      clear q3
      go_wp2_with fail
      refine wp_region_still_tail 25 (by kernel_rfl) (by kernel_rfl) (Vl.out ?_)
      simp only [List.take_succ_cons, List.take_zero, List.drop_succ_cons, List.drop_zero]
      repeat (refine vl_step (fun K hK => ?_); go_simp; refine ⟨hK _ ?_⟩; clear hK K)
      refine vl_nil ?_
      change wpList _ _ _ _ _ w12.drew
      go_wp2_with (first | (refine (HAL.out _ (Only.refl _ _ w12).drew).mono ?_; rintro e w13 ⟨rfl, hs13⟩))
      go_ret
      exact ⟨rfl, HBE12.out.trans (below_le (Still.trans (Only.refl _ _ w12).drew hs13).below HSZ.out)⟩
    · have r6 : (t == k) = false := by simpa using htk
      obtain rfl : t = (m : Int) := q3.resolve_left htk
      clear q3 htk
      go_wp2_with fail
      refine wp_region_still_tail 25 (by kernel_rfl) (by kernel_rfl) (Vl.out ?_)
      simp only [List.take_succ_cons, List.take_zero, List.drop_succ_cons, List.drop_zero]
      repeat (refine vl_step (fun K hK => ?_); go_simp; refine ⟨hK _ ?_⟩; clear hK K)
      refine vl_nil ?_
      change wpList _ _ _ _ _ w12.drew
      go_wp2_with (first | (refine (HAL.out _ (Only.refl _ _ w12).drew).mono ?_; rintro e w13 ⟨rfl, hs13⟩))
      go_ret
      exact ⟨rfl, HBE12.out.trans (below_le (Still.trans (Only.refl _ _ w12).drew hs13).below HSZ.out)⟩
end Go.Proofs.YtiniadochjeieaaDoor
