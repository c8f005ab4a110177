/-
  The walk of space.tidy.
-/
import Derived.Test.YtiniadochjeieaaDoorQS10
namespace Go.Proofs.YtiniadochjeieaaDoor
open Go Go.RowKit

/-- Behind the first blocks of a class's page have been looked at. -/
def St.tidyLoop (s : St) (p c : Nat) : Nat → St
  | 0 => s
  | i + 1 =>
    if (s.tidyLoop p c i).B 0 (p * 64 + i * Sp.cw c) then s.tidyLoop p c i
    else ((s.tidyLoop p c i).setB (c + 1) (setS ((s.tidyLoop p c i).B (c + 1)) (p * 64 + i * Sp.cw c) true)).setWs (clrW (s.tidyLoop p c i).W (p * 64 + i * Sp.cw c) (Sp.cw c))
theorem St.tidyLoop_n (s : St) (p c : Nat) : ∀ i, (s.tidyLoop p c i).n = s.n
  | 0 => rfl
  | i + 1 => by
    unfold St.tidyLoop
    split
    · exact St.tidyLoop_n s p c i
    · exact St.tidyLoop_n s p c i
def St.Empty (s : St) (p : Nat) : Prop := (s.P p).k = 1 ∧ Bm.count (s.B 0) (64 * s.n) ((p * 64 : Nat) : Int) ((p * 64 + 64 : Nat) : Int) = 0
instance (s : St) (p : Nat) : Decidable (s.Empty p) := by unfold St.Empty; infer_instance
/-- tidy. -/
def St.tidy (s : St) (p : Nat) : St :=
  if s.Empty p then ({ s with P := clrPg s.P p (max 1 (s.P p).r.toNat), low := min s.low p } : St).setWs (clrW s.W (p * 64) 64)
  else if (s.P p).k = 0 then s.setWs (clrW s.W (p * 64) 64)
  else if (s.P p).k = 1 then
    (s.tidyLoop p (s.P p).c.toNat (Sp.bk (s.P p).c.toNat)).setWs (clrW (s.tidyLoop p (s.P p).c.toNat (Sp.bk (s.P p).c.toNat)).W (p * 64 + Sp.bk (s.P p).c.toNat * Sp.cw (s.P p).c.toNat) (64 - Sp.bk (s.P p).c.toNat * Sp.cw (s.P p).c.toNat))
  else s
theorem SpaceAt.state {w : World} {L : Lay} {s : St} (h : SpaceAt w L s) (p : Nat) (hp : p < s.n) :
    Calls Tryd.prog 89 #[.pointer (some ⟨L.tb, 0, none⟩), .int .i64 (p : Int)] w fun e w' => e = .returned (.tuple #[.agg #[.int .i64 (s.P p).k, .int .i64 (s.P p).c, .int .i64 (s.P p).r], .bool true]) ∧ Still w w' := by
  obtain ⟨free, ht⟩ := h.table
  exact state_any _ _ _ _ _ _ p _ _ _ w ht hp

set_option maxRecDepth 100000 in
set_option maxHeartbeats 3200000 in
theorem tidy_other (w : World) (L : Lay) (s : St) (h : SpaceAt w L s) (p : Nat) (hp : p < s.n) (hk0 : (s.P p).k ≠ 0) (hk1 : (s.P p).k ≠ 1) (Q : Ending → World → Prop)
    (hQ : ∀ w', SpaceAt w' L s → Only L.lo L.hi w w' → Q (.returned (.tuple #[])) w') :
    Calls Tryd.prog 69 #[.pointer (some ⟨L.sb, 0, none⟩), .int .i64 (p : Int)] w Q := by
  have HQ := Lib.hid hQ; clear hQ
  have hn2 := h.n2
  have HS := Lib.hid h
  have HST := Lib.hid (h.state p hp)
  have hc1 := h.c1
  have hp0 : (0 : Int) ≤ (p : Int) := by omega
  have hpM : (p : Int) ≤ 4096 := by omega
  obtain ⟨⟨k, c, r⟩, hpg⟩ : ∃ g, s.P p = g := ⟨_, rfl⟩
  rw [hpg] at HST hk0 hk1
  dsimp only at HST hk0 hk1
  have hb0 : (k == 0) = false := beq_eq_false_iff_ne.2 hk0
  have hb1 : (k == 1) = false := beq_eq_false_iff_ne.2 hk1
  clear h hpg hk0 hk1
  go_enter Tryd.func69, Tryd.ntmps69
  go_wp2_with fail
  refine HST.out.mono ?_
  rintro e w1 ⟨rfl, hs1⟩
  have H1 := Lib.hid (HS.out.still hs1)
  have HO1 := Lib.hid (hs1.any L.lo L.hi)
  clear hs1
  go_wp2
  go_end0
  exact HQ.out _ (H1.out.alloc _) (HO1.out.alloc _)

set_option maxRecDepth 100000 in
set_option maxHeartbeats 3200000 in
theorem tidy_free (w : World) (L : Lay) (s : St) (h : SpaceAt w L s) (p : Nat) (hp : p < s.n) (hk0 : (s.P p).k = 0) (Q : Ending → World → Prop)
    (hQ : ∀ w', SpaceAt w' L (s.setWs (clrW s.W (p * 64) 64)) → Only L.lo L.hi w w' → Q (.returned (.tuple #[])) w') :
    Calls Tryd.prog 69 #[.pointer (some ⟨L.sb, 0, none⟩), .int .i64 (p : Int)] w Q := by
  have HQ := Lib.hid hQ; clear hQ
  have hn2 := h.n2
  have HS := Lib.hid h
  have HST := Lib.hid (h.state p hp)
  have hc1 := h.c1
  have hp0 : (0 : Int) ≤ (p : Int) := by omega
  have hpM : (p : Int) ≤ 4096 := by omega
  obtain ⟨⟨k, c, r⟩, hpg⟩ : ∃ g, s.P p = g := ⟨_, rfl⟩
  rw [hpg] at HST hk0
  dsimp only at HST hk0
  subst hk0
  obtain ⟨N, hN⟩ : ∃ N, 64 * s.n = N := ⟨_, rfl⟩
  have HN := Lib.hid hN
  have hNN : (p : Int) * 64 + 64 ≤ (N : Int) := by omega
  have hNN2 : p * 64 + 64 ≤ N := by omega
  clear h hpg hN
  go_enter Tryd.func69, Tryd.ntmps69
  go_wp2_with fail
  refine HST.out.mono ?_
  rintro e w1 ⟨rfl, hs1⟩
  have hlt1 := (HS.out.still hs1).sblt
  have H1 := Lib.hid ((HS.out.still hs1).alloc (.cells #[.int .i64 0, .int .i64 c, .int .i64 r] 53))
  have HO1 := Lib.hid ((hs1.any L.lo L.hi).alloc (.cells #[.int .i64 0, .int .i64 c, .int .i64 r] 53))
  have hc0 := (HS.out.still hs1).c0N HN.out
  obtain ⟨w2, hcl, h2, ho2⟩ := H1.out.clr (a := p * 64) (b := p * 64 + 64) (wd := 64) HN.out (by omega) (by omega) (by omega) hNN2
  rw [show p * 64 + 64 - p * 64 = 64 by omega] at hcl
  have H2 := Lib.hid h2
  have HO2 := Lib.hid (HO1.out.trans ho2)
  clear hs1 h2 ho2
  go_wp2
  go_end0
  exact HQ.out _ H2.out HO2.out

theorem SpaceAt.countR {w : World} {L : Lay} {s : St} (h : SpaceAt w L s) (j : Nat) (hj : j < 9) (f t : Int) (hf : f ≤ 9223372036854775807) (ht : -9223372036854775808 ≤ t) :
    Calls Tryd.prog 87 #[.pointer (some (L.m j)), .int .i64 f, .int .i64 t] w fun e w' => e = .returned (.int .i64 (Bm.count (s.B j) (64 * s.n) f t : Nat)) ∧ ∃ m, w' = w.drewN m :=
  countRange_any _ _ _ _ _ f t w (h.maps j hj) hf ht
theorem cast64 (p : Nat) : ((p * 64 : Nat) : Int) = (p : Int) * 64 ∧ ((p * 64 + 64 : Nat) : Int) = (p : Int) * 64 + 64 := by omega

set_option maxRecDepth 100000 in
set_option maxHeartbeats 3200000 in
theorem tidy_empty (w : World) (L : Lay) (s : St) (h : SpaceAt w L s) (p : Nat) (hp : p < s.n) (hE : s.Empty p) (hg : s.Givable p) (Q : Ending → World → Prop)
    (hQ : ∀ w', SpaceAt w' L (({ s with P := clrPg s.P p (max 1 (s.P p).r.toNat), low := min s.low p } : St).setWs (clrW s.W (p * 64) 64)) → Only L.lo L.hi w w' → Q (.returned (.tuple #[])) w') :
    Calls Tryd.prog 69 #[.pointer (some ⟨L.sb, 0, none⟩), .int .i64 (p : Int)] w Q := by
  have HQ := Lib.hid hQ; clear hQ
  have hn2 := h.n2
  have HS := Lib.hid h
  have HST := Lib.hid (h.state p hp)
  have HG := Lib.hid hg
  have hc1 := h.c1
  have hp0 : (0 : Int) ≤ (p : Int) := by omega
  have hpM : (p : Int) ≤ 4096 := by omega
  obtain ⟨hk, hcnt⟩ := hE
  have HCN : Hid (∀ w1, SpaceAt w1 L s → Calls Tryd.prog 87 #[.pointer (some (L.m 0)), .int .i64 ((p : Int) * 64), .int .i64 ((p : Int) * 64 + 64)] w1 fun e w' => e = .returned (.int .i64 0) ∧ ∃ m, w' = w1.drewN m) := Lib.hid fun w1 h1 => by
    have := h1.countR 0 (by omega) ((p * 64 : Nat) : Int) ((p * 64 + 64 : Nat) : Int) (by omega) (by omega)
    rw [hcnt, (cast64 p).1, (cast64 p).2] at this
    exact this
  obtain ⟨pg, hpg⟩ : ∃ g, s.P p = g := ⟨_, rfl⟩
  rw [hpg] at HST hk
  obtain ⟨k, c, r⟩ := pg
  dsimp only at HST hk
  subst hk
  obtain ⟨N, hN⟩ : ∃ N, 64 * s.n = N := ⟨_, rfl⟩
  have HN := Lib.hid hN
  have hNN : (p : Int) * 64 + 64 ≤ (N : Int) := by omega
  have hNN2 : p * 64 + 64 ≤ N := by omega
  clear h hN hcnt hg hpg
  go_enter Tryd.func69, Tryd.ntmps69
  go_wp2_with fail
  refine HST.out.mono ?_
  rintro e w1 ⟨rfl, hs1⟩
  have h1 := HS.out.still hs1
  have hlt1 := h1.sblt
  have hc2 := h1.c2
  have hb1 := heap_alloc_new w1 (.cells #[.int .i64 1, .int .i64 c, .int .i64 r] 53)
  have HTOP1 := Lib.hid h1.top
  have HPB : Hid (w.heap.size ≤ w1.heap.size) := Lib.hid hs1.size
  have H1 := Lib.hid (h1.alloc (.cells #[.int .i64 1, .int .i64 c, .int .i64 r] 53))
  have HO1 := Lib.hid ((hs1.any L.lo L.hi).alloc (.cells #[.int .i64 1, .int .i64 c, .int .i64 r] 53))
  have hlt2 : w1.heap.size < (w1.alloc (.cells #[.int .i64 1, .int .i64 c, .int .i64 r] 53)).heap.size := by simp
  clear hs1 h1
  go_wp2_with fail
  refine (HCN.out _ H1.out).mono ?_
  rintro e w2 ⟨rfl, m, rfl⟩
  have H2 := Lib.hid (H1.out.drewN m)
  have HO2 := Lib.hid (HO1.out.drewN m)
  replace hb1 : ((w1.alloc (.cells #[.int .i64 1, .int .i64 c, .int .i64 r] 53)).drewN m).heap[w1.heap.size]? = some (.cells #[.int .i64 1, .int .i64 c, .int .i64 r] 53) := hb1
  generalize (w1.alloc (.cells #[.int .i64 1, .int .i64 c, .int .i64 r] 53)).drewN m = w2 at *
  generalize w1.heap.size = pb at *
  clear H1 HO1 hc2 hlt1 hlt2
  have hc1 := H2.out.c1
  go_wp2_with fail
  (with_reducible refine (H2.out.give p HG.out).mono ?_)
  rintro e w3 ⟨rfl, h3, ho3⟩
  have hb3 : w3.heap[pb]? = some (.cells #[.int .i64 1, .int .i64 c, .int .i64 r] 53) := by
    rw [ho3.block pb (Array.getElem?_eq_some_iff.1 hb1).1 (.inr HTOP1.out)]; exact hb1
  have hlt3 := (Array.getElem?_eq_some_iff.1 hb3).1
  have hx0 := cell_of (v := .int .i64 1) hb3 0 rfl
  have hx1 := cell_of (v := .int .i64 c) hb3 1 rfl
  have hx2 := cell_of (v := .int .i64 r) hb3 2 rfl
  have hf0 := frozen_of hb3 0
  have hf1 := frozen_of hb3 1
  have hf2 := frozen_of hb3 2
  have H3 := Lib.hid (((h3.setNew HTOP1.out 0 (.int .i64 0)).setNew HTOP1.out 1 (.int .i64 0)).setNew HTOP1.out 2 (.int .i64 0))
  have HO3 := Lib.hid ((((HO2.out.trans ho3).setCell (p := ⟨pb, 0, none⟩) (.inr HPB.out) (.int .i64 0)).setCell (p := ⟨pb, 1, none⟩) (.inr HPB.out) (.int .i64 0)).setCell (p := ⟨pb, 2, none⟩) (.inr HPB.out) (.int .i64 0))
  have hc0 : w3.cell? ⟨L.sb, 0, none⟩ = some (.slice (some ⟨L.wb, 0, none⟩) N N) := h3.c0N HN.out
  have hlsb := h3.sblt
  obtain ⟨w4, hcl, h4, ho4⟩ := H3.out.clr (a := p * 64) (b := p * 64 + 64) (wd := 64) HN.out (by omega) (by omega) (by omega) hNN2
  rw [show p * 64 + 64 - p * 64 = 64 by omega] at hcl
  have H4 := Lib.hid h4
  have HO4 := Lib.hid (HO3.out.trans ho4)
  have hpsb : L.sb ≠ pb := by have := h3.top; have := HTOP1.out; have := h3.ok.inn 0 (by omega); simp only [Lay.a, Lay.b] at this; omega
  clear h3 ho3 hb3 h4 ho4
  go_wp2
  go_end0
  exact HQ.out _ H4.out HO4.out
end Go.Proofs.YtiniadochjeieaaDoor

namespace Go.Proofs.YtiniadochjeieaaDoor
open Go Go.RowKit

theorem slice_out {p N : Nat} (h : p * 64 + 64 ≤ N) (b x : Nat) (hbx : b * x ≤ 64) : p * 64 + b * x ≤ p * 64 + 64 ∧ p * 64 + b * x ≤ N := by omega
theorem Sp.bkcw (c : Nat) (hc : c < 8) : Sp.bk c * Sp.cw c ≤ 64 := by
  have := Sp.cw_8 c hc
  rcases this with ⟨h1, h2⟩ | ⟨h1, h2⟩ | ⟨h1, h2⟩ | ⟨h1, h2⟩ | ⟨h1, h2⟩ | ⟨h1, h2⟩ | ⟨h1, h2⟩ | ⟨h1, h2⟩ <;> rw [h1, h2] <;> omega
/-- clear of a part of a space's words, an empty one too, as one step. -/
theorem SpaceAt.clr0 {w : World} {L : Lay} {s : St} (h : SpaceAt w L s) {N a b wd : Nat} (hN : 64 * s.n = N) (hba : b - a = wd) (hab : a ≤ b) (hb : b ≤ N) :
    ∃ w', (∀ cc, (Builtin.clear_ #[41] 0 #[.slice (some ⟨L.wb, a, none⟩) (b - a) cc]).run Tryd.prog w = .ok (.tuple #[]) w') ∧ SpaceAt w' L (s.setWs (clrW s.W a wd)) ∧ Only L.lo L.hi w w' := by
  by_cases h0 : wd = 0
  · subst h0
    refine ⟨w, fun cc => ?_, ?_, Only.refl _ _ _⟩
    · rw [hba]
      simp [Builtin.clear_, run_underlying Tryd.underlying41]
    · rw [clrW_zero]; exact h
  · exact h.clr hN (by omega) hba hab hb

set_option maxRecDepth 100000 in
set_option maxHeartbeats 6400000 in
theorem tidy_class (w : World) (L : Lay) (s : St) (h : SpaceAt w L s) (p c : Nat) (hp : p < s.n) (hc : c < 8) (hk : (s.P p).k = 1) (hpc : (s.P p).c = (c : Int)) (hE : ¬ s.Empty p) (Q : Ending → World → Prop)
    (hQ : ∀ w', SpaceAt w' L ((s.tidyLoop p c (Sp.bk c)).setWs (clrW (s.tidyLoop p c (Sp.bk c)).W (p * 64 + Sp.bk c * Sp.cw c) (64 - Sp.bk c * Sp.cw c))) → Only L.lo L.hi w w' → Q (.returned (.tuple #[])) w') :
    Calls Tryd.prog 69 #[.pointer (some ⟨L.sb, 0, none⟩), .int .i64 (p : Int)] w Q := by
  have HQ := Lib.hid hQ; clear hQ
  have hn2 := h.n2
  have HS := Lib.hid h
  have HST := Lib.hid (h.state p hp)
  have hc1 := h.c1
  have hp0 : (0 : Int) ≤ (p : Int) := by omega
  have hpM : (p : Int) ≤ 4096 := by omega
  have hcnt : Bm.count (s.B 0) (64 * s.n) ((p * 64 : Nat) : Int) ((p * 64 + 64 : Nat) : Int) ≠ 0 := fun e => hE ⟨hk, e⟩
  obtain ⟨cn, hcn⟩ : ∃ cn, Bm.count (s.B 0) (64 * s.n) ((p * 64 : Nat) : Int) ((p * 64 + 64 : Nat) : Int) = cn := ⟨_, rfl⟩
  have HCN : Hid (∀ w1, SpaceAt w1 L s → Calls Tryd.prog 87 #[.pointer (some (L.m 0)), .int .i64 ((p : Int) * 64), .int .i64 ((p : Int) * 64 + 64)] w1 fun e w' => e = .returned (.int .i64 (cn : Int)) ∧ ∃ m, w' = w1.drewN m) := Lib.hid fun w1 h1 => by
    have := h1.countR 0 (by omega) ((p * 64 : Nat) : Int) ((p * 64 + 64 : Nat) : Int) (by omega) (by omega)
    rw [hcn, (cast64 p).1, (cast64 p).2] at this
    exact this
  rw [hcn] at hcnt
  have hcb : ((cn : Int) == 0) = false := beq_eq_false_iff_ne.2 (by omega)
  clear hcnt hcn hE
  obtain ⟨pg, hpg⟩ : ∃ g, s.P p = g := ⟨_, rfl⟩
  rw [hpg] at HST hk hpc
  obtain ⟨k, c', r⟩ := pg
  dsimp only at HST hk hpc
  subst hk; subst hpc
  obtain ⟨N, hN⟩ : ∃ N, 64 * s.n = N := ⟨_, rfl⟩
  have HN := Lib.hid hN
  have HNN := Lib.hid (show p * 64 + 64 ≤ N by omega)
  have HPM := Lib.hid (show p ≤ 4096 by omega)
  have hNI : (p : Int) * 64 + 64 ≤ (N : Int) := by omega
  have HBL := Lib.hid (Sp.cw_le c hc)
  have HIN := Lib.hid (Sp.cw_in c hc)
  have HB := Lib.hid (fun w => blocks_any (c : Int) w)
  rw [Sp.bks_nat c hc] at HB
  have HW := Lib.hid (fun w => cwords_any (c : Int) w)
  rw [Sp.cww_nat c hc] at HW
  have HST2 : Hid (∀ (i : Nat) (w : World), i < Sp.bk c → Calls Tryd.prog 90 #[.int .i64 (c : Int), .int .i64 (i : Int)] w fun e w' => e = .returned (.int .i64 ((i * Sp.cw c : Nat) : Int)) ∧ Still w w') := Lib.hid fun i w hi => by
    have := start_any (c : Int) (i : Int) w (by omega) (by rw [Sp.bks_nat c hc]; omega)
    rw [Sp.cww_nat c hc] at this
    exact this
  have HBX := Lib.hid (Sp.bkcw c hc)
  have hc0' : (0 : Int) ≤ (c : Int) := by omega
  have hc8' : (c : Int) < 8 := by omega
  clear h hN hpg hn2
  go_enter Tryd.func69, Tryd.ntmps69
  go_wp2_with fail
  refine HST.out.mono ?_
  rintro e w1 ⟨rfl, hs1⟩
  have h1 := HS.out.still hs1
  have hlt1 := h1.sblt
  have hc2 := h1.c2
  have hb1 := heap_alloc_new w1 (.cells #[.int .i64 1, .int .i64 c, .int .i64 r] 53)
  have HTOP1 := Lib.hid h1.top
  have HPB : Hid (w.heap.size ≤ w1.heap.size) := Lib.hid hs1.size
  have H1 := Lib.hid (h1.alloc (.cells #[.int .i64 1, .int .i64 c, .int .i64 r] 53))
  have HO1 := Lib.hid ((hs1.any L.lo L.hi).alloc (.cells #[.int .i64 1, .int .i64 c, .int .i64 r] 53))
  clear hs1 h1
  go_wp2_with fail
  refine (HCN.out _ H1.out).mono ?_
  rintro e w2 ⟨rfl, m, rfl⟩
  have H2 := Lib.hid (H1.out.drewN m)
  have HO2 := Lib.hid (HO1.out.drewN m)
  replace hb1 : ((w1.alloc (.cells #[.int .i64 1, .int .i64 c, .int .i64 r] 53)).drewN m).heap[w1.heap.size]? = some (.cells #[.int .i64 1, .int .i64 c, .int .i64 r] 53) := hb1
  generalize (w1.alloc (.cells #[.int .i64 1, .int .i64 c, .int .i64 r] 53)).drewN m = w2 at *
  generalize w1.heap.size = pb at *
  clear H1 HO1 hc2 hlt1
  have hx0 := cell_of (v := .int .i64 1) hb1 0 rfl
  have hx1 := cell_of (v := .int .i64 c) hb1 1 rfl
  have hpl := (Array.getElem?_eq_some_iff.1 hb1).1
  have HPK : Hid (∀ w', Only L.lo L.hi w2 w' → w'.heap[pb]? = some (.cells #[.int .i64 1, .int .i64 c, .int .i64 r] 53)) := Lib.hid fun w' ho => by
    rw [ho.block pb (Array.getElem?_eq_some_iff.1 hb1).1 (.inr HTOP1.out)]; exact hb1
  go_wp2_with fail
  refine (HB.out _).mono ?_
  rintro e w3 ⟨rfl, hs3⟩
  have H3 := Lib.hid (H2.out.still hs3)
  have HO3 := Lib.hid (hs3.any L.lo L.hi)
  have hb3 := HPK.out _ HO3.out
  have hy1 := cell_of (v := .int .i64 c) hb3 1 rfl
  have hyl := (Array.getElem?_eq_some_iff.1 hb3).1
  clear hs3 hb3 hx0 hx1 hpl
  generalize hbk : Sp.bk c = b at *
  have HBK := Lib.hid hbk; clear hbk
  generalize hcw : Sp.cw c = x at *
  have HCW := Lib.hid hcw; clear hcw
  have hb32 : b ≤ 32 := HBL.out.2.2.2
  have hx32 : x ≤ 32 := HBL.out.2.1
  go_wp2_with fail
  refine (HW.out _).mono ?_
  rintro e w4 ⟨rfl, hs4⟩
  have H4 := Lib.hid (H3.out.still hs4)
  have HO4 := Lib.hid (HO3.out.andStill hs4)
  clear hs4 hy1 hyl
  go_wp2_with fail
  go_loopw [65] (fun y wr => ∃ i : Nat, y = .int .i64 (i : Int) ∧ i ≤ b ∧ SpaceAt wr L (s.tidyLoop p c i) ∧ Only L.lo L.hi w2 wr) (fun y _ => 100 - (intOf y).toNat)
  case atStart => exact ⟨0, rfl, Nat.zero_le _, H4.out, HO4.out⟩
  case round =>
    clear H4 HO4 H3 HO3 H2
    obtain ⟨i, rfl, hi, hsp, ho⟩ := hrel
    have HSP := Lib.hid hsp; have HO := Lib.hid ho
    have hi0 : (0 : Int) ≤ (i : Int) := by omega
    by_cases hlt : i < b
    · have hil : (i : Int) < (b : Int) := by omega
      have hin := HIN.out i hlt
      obtain ⟨a, ha⟩ : ∃ a, i * x = a := ⟨_, rfl⟩
      obtain ⟨t, ht⟩ : ∃ t, p * 64 + a = t := ⟨_, rfl⟩
      have HSTi : Hid (∀ w, Calls Tryd.prog 90 #[.int .i64 (c : Int), .int .i64 (i : Int)] w fun e w' => e = .returned (.int .i64 (a : Int)) ∧ Still w w') := Lib.hid fun w => by
        have := HST2.out i w hlt; rwa [ha] at this
      rw [ha] at hin
      have HTN := Lib.hid (t_lt HNN.out hin HBL.out.1 ht)
      have hsum := t_sum3 ht
      have ha64 : (a : Int) ≤ 64 := by have := a_le hin; omega
      have hts := HTN.out
      have htx : t + x ≤ N := by have := HNN.out; omega
      have htN : (t : Int) < (N : Int) := by omega
      have ht0 : (0 : Int) ≤ (t : Int) := by omega
      have hNM : (N : Int) ≤ 262144 := by have := HS.out.n2; have := HN.out; omega
      have HTX := Lib.hid htx
      have htxI : (t : Int) + (x : Int) ≤ (N : Int) := by omega
      have HX1 : Hid (1 ≤ x) := Lib.hid (by have := HBL.out.1; omega)
      have hnR : 64 * (s.tidyLoop p c i).n = N := by rw [St.tidyLoop_n]; exact HN.out
      have HTS : Hid (t < 64 * (s.tidyLoop p c i).n) := Lib.hid (by rw [hnR]; exact hts)
      have HNR := Lib.hid hnR
      have HLS : Hid (s.tidyLoop p c (i + 1) = if (s.tidyLoop p c i).B 0 t then s.tidyLoop p c i else ((s.tidyLoop p c i).setB (c + 1) (setS ((s.tidyLoop p c i).B (c + 1)) t true)).setWs (clrW (s.tidyLoop p c i).W t x)) := Lib.hid (by
        rw [← ht, ← ha, ← HCW.out]; rfl)
      clear ha ht hin hts htx hnR
      have hbr := HPK.out _ ho
      have hx1 := cell_of (v := .int .i64 c) hbr 1 rfl
      have hpl := (Array.getElem?_eq_some_iff.1 hbr).1
      clear hbr hsp ho
      obtain ⟨sr, hsr⟩ : ∃ sr, s.tidyLoop p c i = sr := ⟨_, rfl⟩
      rw [hsr] at HSP HTS HNR HLS
      clear hsr
      go_wp2_with fail
      refine (HSTi.out _).mono ?_
      rintro e w5 ⟨rfl, hs5⟩
      have H5 := Lib.hid (HSP.out.still hs5)
      have HO5 := Lib.hid (HO.out.andStill hs5)
      have hb5 := HPK.out _ HO5.out
      have hy1 := cell_of (v := .int .i64 c) hb5 1 rfl
      have hyl := (Array.getElem?_eq_some_iff.1 hb5).1
      have hc2 := H5.out.c2
      clear hs5 HSP HO hb5 hx1 hpl
      cases hB : sr.B 0 t with
      | true =>
        have hget : sr.has (t : Int) = true := by unfold St.has; rw [decide_eq_true ht0, Int.toNat_natCast, hB]; rfl
        have HG := Lib.hid hget
        have hL := HLS.out
        rw [if_pos hB] at hL
        have HL := Lib.hid hL
        clear hB hget hL HLS
        go_wp2_with fail
        refine (H5.out.get t HG.out).mono ?_
        rintro e w6 ⟨rfl, rfl⟩
        go_wp2
        go_roundw
        case rel => exact ⟨i + 1, by go_num, hlt, by rw [HL.out]; exact H5.out, HO5.out⟩
        case measure => simp [intOf]; omega
      | false =>
        have hget : sr.has (t : Int) = false := by unfold St.has; rw [decide_eq_true ht0, Int.toNat_natCast, hB]; rfl
        have HG := Lib.hid hget
        have hL := HLS.out
        rw [if_neg (by rw [hB]; decide)] at hL
        have HL := Lib.hid hL
        clear hB hget hL HLS
        go_wp2_with fail
        refine (H5.out.get t HG.out).mono ?_
        rintro e w6 ⟨rfl, rfl⟩
        have hc3 := H5.out.c3 c hc
        go_wp2_with fail
        go_region_held3 (fun w' => w'.cell? ⟨L.sb, 3 + c, none⟩ = some (.pointer (some (L.m (c + 1)))) ∧ w'.cell? ⟨pb, 1, none⟩ = some (.int .i64 c)) (first | exact ⟨hc3, hy1⟩ | exact ⟨hd3, hz1⟩)
          (first
            | (go_at_call 55; refine (H5.out.drew.set (c + 1) (by omega) t HTS.out).mono ?_; rintro e w7 ⟨rfl, h7, ho7⟩; have H7 := Lib.hid h7; have HO7 := Lib.hid (HO5.out.drew.trans ho7); clear h7 ho7; have hd3 := H7.out.c3 c hc; have hz1 := cell_of (v := .int .i64 c) (HPK.out _ HO7.out) 1 rfl))
        clear hc3 hd3 hz1 hy1 hyl hc2
        have hn7 : 64 * (sr.setB (c + 1) (setS (sr.B (c + 1)) t true)).n = N := HNR.out
        have hc0 := H7.out.c0N hn7
        obtain ⟨w8, hcl, h8, ho8⟩ := H7.out.clr (a := t) (b := t + x) (wd := x) hn7 HX1.out (by omega) (by omega) HTX.out
        rw [show t + x - t = x by omega] at hcl
        have H8 := Lib.hid h8
        have HO8 := Lib.hid (HO7.out.trans ho8)
        clear h8 ho8 hn7
        go_wp2
        go_roundw
        case rel => exact ⟨i + 1, by go_num, hlt, by rw [HL.out]; exact H8.out, HO8.out⟩
        case measure => simp [intOf]; omega
    · obtain rfl : i = b := by omega
      obtain ⟨bx, hbx⟩ : ∃ bx, i * x = bx := ⟨_, rfl⟩
      have hbxI : (i : Int) * (x : Int) = (bx : Int) := by rw [← hbx]; simp
      have hbx64 := HBX.out
      rw [hbx] at hbx64
      obtain ⟨t, ht⟩ : ∃ t, p * 64 + bx = t := ⟨_, rfl⟩
      have hsum := t_sum3 ht
      have hnR : 64 * (s.tidyLoop p c i).n = N := by rw [St.tidyLoop_n]; exact HN.out
      have hNM : (N : Int) ≤ 262144 := by have := HS.out.n2; have := HN.out; omega
      have htt : t ≤ p * 64 + 64 := by omega
      obtain ⟨u, hu⟩ : ∃ u, p * 64 + 64 = u := ⟨_, rfl⟩
      have huI : (p : Int) * 64 + 64 = (u : Int) := by omega
      have hut : t ≤ u := by omega
      have huN : u ≤ N := by rw [← hu]; exact HNN.out
      have HQ2 : Hid (∀ w', SpaceAt w' L ((s.tidyLoop p c i).setWs (clrW (s.tidyLoop p c i).W t (64 - bx))) → Only L.lo L.hi w w' → Q (.returned (.tuple #[])) w') := Lib.hid (by
        have := HQ.out
        rw [hbx, ht] at this
        exact this)
      have hc0 := HSP.out.c0N hnR
      by_cases htN : t < N
      · obtain ⟨w8, hcl, h8, ho8⟩ := HSP.out.clr0 (a := t) (b := u) (wd := 64 - bx) hnR (by omega) hut huN
        have H8 := Lib.hid h8
        have HO8 := Lib.hid (HO2.out.trans (HO.out.trans ho8))
        have htNI : (t : Int) < (N : Int) := by omega
        have htu : (t : Int) ≤ (u : Int) := by omega
        have huNI : (u : Int) ≤ (N : Int) := by omega
        clear h8 ho8 hsp ho hnR hbx hbx64 ht HQ hu
        go_wp2
        go_end0
        exact HQ2.out _ H8.out HO8.out
      · obtain rfl : t = N := by omega
        obtain rfl : u = t := by omega
        have hwd : 64 - bx = 0 := by omega
        rw [hwd, clrW_zero] at HQ2
        have hcl : ∀ ad cc, (Builtin.clear_ #[41] 0 #[.slice ad 0 cc]).run Tryd.prog wr = .ok (.tuple #[]) wr := fun ad cc => by
          cases ad <;> simp [Builtin.clear_, run_underlying Tryd.underlying41]
        have HO8 := Lib.hid (HO2.out.trans HO.out)
        clear hsp ho hnR hbx hbx64 ht HQ hu hwd
        go_wp2
        go_end0
        exact HQ2.out _ HSP.out HO8.out
end Go.Proofs.YtiniadochjeieaaDoor
