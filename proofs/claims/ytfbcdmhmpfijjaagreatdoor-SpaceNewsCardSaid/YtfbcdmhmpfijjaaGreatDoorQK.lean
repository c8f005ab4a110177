/-
  Ranges over functions: the two laws that the walks of this program use.
-/
import Derived.RangeFuncLeaves
import Derived.RangeFuncSeq
import Derived.RangeFuncCalls
import Derived.WalkKit
import Derived.OwnWalkIn
import Derived.TacticsInMore
import Derived.LoopNIn
import Derived.LoopIn
import Derived.Test.YtfbcdmhmpfijjaaGreatDoorQS13
namespace Go.Proofs.YtfbcdmhmpfijjaaGreatDoor
open Go Go.RowKit

/-- A loop's record. -/
structure Rc where
  fn : FuncId
  tmps : Array Value
  ps : Array Tmp
  assign : Code
  body : Code
  D : Nat
def Rc.at (r : Rc) (st : LoopState) (pe : Option Code) : Obj := .loop { state := st, pending := pe, fn := r.fn, tmps := r.tmps, params := r.ps, assign := r.assign, body := r.body, defers := r.D }
/-- How a round may be left. -/
def Rc.post (r : Rc) (l : Nat) (R : Ending → World → Prop) : Exit → Act → World → Prop
  | .normal, _, w => w.heap[l]? = some (r.at .busy none) ∧ R (.returned (.bool true)) (w.putObj l (r.at .ready none))
  | .ret, _, w => w.heap[l]? = some (r.at .busy none) ∧ R (.returned (.bool false)) (w.putObj l (r.at .done (some .ret)))
  | .exit id, _, w => w.heap[l]? = some (r.at .busy none) ∧ R (.returned (.bool false)) (w.putObj l (r.at .done (some (.exit id))))
  | _, _, _ => False

section
variable {P : Program} {n : Nat}
/-- A call of yield, out of the walk of the round. -/
theorem yield_at (r : Rc) {l : Nat} {args : Array Value} {W : World} {R : Ending → World → Prop} (hl : W.heap[l]? = some (r.at .ready none)) (hs : args.size = r.ps.size)
    (h : r.assign.wpIn (Fence.wide.inRound l) n P (Exit.then (fun a₁ w₁ => w₁.heap[l]? = some (r.at .ready none) ∧ r.body.wpIn (Fence.wide.inRound l) n P (r.post l R) a₁ (w₁.putObj l (r.at .busy none))) (fun _ _ _ => False))
      { tmps := (r.ps.zip args).foldl (fun t (p, v) => t.setIfInBounds p v) r.tmps, defers := [] } W) :
    YieldAt Fence.wide n P l args W R := by
  unfold Rc.at at hl
  refine ⟨r.fn, _, r.assign, r.body, run_yield hl hs, roundIn_of_wpIn trivial ?_⟩
  refine wpIn_mono h ?_
  intro e a₁ w₁ hp
  cases e with
  | normal =>
    obtain ⟨hl1, hb⟩ := hp
    unfold Rc.at at hl1
    refine ⟨_, run_beginRound hl1 rfl, ?_⟩
    refine wpIn_mono hb ?_
    intro e2 a2 w2 hp2
    cases e2 with
    | normal =>
      obtain ⟨h1, h2⟩ := hp2
      unfold Rc.at at h1
      exact ⟨_, _, run_endRound none h1, h2⟩
    | ret =>
      obtain ⟨h1, h2⟩ := hp2
      unfold Rc.at at h1
      exact ⟨_, _, run_endRound (some .ret) h1, h2⟩
    | exit id =>
      obtain ⟨h1, h2⟩ := hp2
      unfold Rc.at at h1
      exact ⟨_, _, run_endRound (some (.exit id)) h1, h2⟩
    | goto t => exact hp2.elim
    | panic ch => exact hp2.elim
    | outgrown => exact hp2.elim
  | ret => exact hp.elim
  | exit id => exact hp.elim
  | goto t => exact hp.elim
  | panic ch => exact hp.elim
  | outgrown => exact hp.elim

/-- The mark that a loop leaves. -/
def markOf (D : Nat) : Deferred := { target := .collected D, args := #[] }
/-- The statement 'for .. := range g { .. }'. -/
theorem wpIn_range {g : Operand} {ps : Array Tmp} {assign body : Code} {Q : Exit → Act → World → Prop} {a : Act} {w : World} {gf : Nat} {lb : Array Value}
    (hg : a.eval g = .func (.func gf) #[] lb) (eg : ∀ args w, (callFunc gf args).run P w = .ok (.enter gf args) w)
    (h : ∀ r : Rc, r.tmps = a.tmps → r.ps = ps → r.assign = assign → r.body = body → ∀ W1, W1 = (w.alloc (.deferred (some []))).alloc (r.at .ready none) →
      CallsIn Fence.wide (n - 1) P gf (#[.func (.yield (w.heap.size + 1)) #[] #[]] ++ lb) W1 fun e W2 => (∃ v, e = .returned v) ∧
        ((W2.heap[w.heap.size + 1]? = some (r.at .ready none) ∧ Q .normal { a with defers := markOf w.heap.size :: a.defers } (W2.putObj (w.heap.size + 1) (r.at .exhausted none))) ∨
         (∃ c, W2.heap[w.heap.size + 1]? = some (r.at .done (some c)) ∧ c.wpIn Fence.wide n P Q { a with defers := markOf w.heap.size :: a.defers } (W2.putObj (w.heap.size + 1) (r.at .exhausted (some c)))))) :
    (Code.rangeFunc g ps assign body).wpIn Fence.wide n P Q a w := by
  refine wpIn_rangeFunc ?_
  intro fn _
  have hc := h ⟨fn, a.tmps, ps, assign, body, w.heap.size⟩ rfl rfl rfl rfl _ rfl
  refine ⟨w.heap.size + 1, [markOf w.heap.size], (w.alloc (.deferred (some []))).alloc (Rc.at ⟨fn, a.tmps, ps, assign, body, w.heap.size⟩ .ready none), { target := .fn (.func gf) lb, args := #[.func (.yield (w.heap.size + 1)) #[] #[]] }, (w.alloc (.deferred (some []))).alloc (Rc.at ⟨fn, a.tmps, ps, assign, body, w.heap.size⟩ .ready none), gf,
    #[.func (.yield (w.heap.size + 1)) #[] #[]] ++ lb, (w.alloc (.deferred (some []))).alloc (Rc.at ⟨fn, a.tmps, ps, assign, body, w.heap.size⟩ .ready none), ?_, ?_, fun _ _ => trivial, ?_, fun hh => (by cases hh), ?_⟩
  · exact run_enterLoop_outer _ _ _ _ _
  · simp only [resolve, hg]
    simp [go_sem]
  · simp [invoke, go_sem, eg]
  · refine hc.mono ?_
    rintro e W2 ⟨⟨v, rfl⟩, h | ⟨c, h1, h2⟩⟩
    · obtain ⟨h1, h2⟩ := h
      unfold Rc.at at h1
      exact ⟨none, _, run_endLoop h1 (by simp), h2⟩
    · unfold Rc.at at h1
      exact ⟨some c, _, run_endLoop h1 (by simp), h2⟩
end
end Go.Proofs.YtfbcdmhmpfijjaaGreatDoor

namespace Go.Proofs.YtfbcdmhmpfijjaaGreatDoor
open Go Go.RowKit

set_option maxRecDepth 100000 in
set_option maxHeartbeats 1600000 in
/-- The iterator's loop: J a S w: what is looked for next is a number from a on, the map holds S; D w: it has ended. -/
theorem iter_in (n l : Nat) (J : Nat → (Nat → Bool) → World → Prop) (D : World → Prop) (lo hi N bx : Nat) (p : Addr)
    (hmap : ∀ a S w, J a S w → IsMap w lo hi p N S ∧ Tab w ∧ w.cell? ⟨bx, 0, none⟩ = some (.pointer (some p)))
    (hyield : ∀ a S w i, J a S w → Bm.next S N a = ((i : Nat) : Int) → a ≤ i → i < N →
      YieldAt Fence.wide (n - 1) Tryz.prog l #[.int .i64 (i : Int)] w fun e w' => (e = .returned (.bool true) ∧ ∃ S', J (i + 1) S' w') ∨ (e = .returned (.bool false) ∧ D w'))
    (hdrew : ∀ a S w m, J a S w → J a S (w.drewN m))
    (hend : ∀ a S w, J a S w → Bm.next S N a = -1 → D w)
    (S : Nat → Bool) (w : World) (h : J 0 S w) :
    CallsIn Fence.wide n Tryz.prog 124 #[.func (.yield l) #[] #[], .pointer (some ⟨bx, 0, none⟩)] w fun e w' => (∃ v, e = .returned v) ∧ D w' := by
  obtain ⟨hm, hT, hb⟩ := hmap 0 S w h
  have HJ := Lib.hid h; clear h
  have HM := Lib.hid hmap; clear hmap
  have HY := Lib.hid hyield; clear hyield
  have HE := Lib.hid hend; clear hend
  have HDR := Lib.hid hdrew; clear hdrew
  have H1 := Lib.hid hm; clear hm
  have H2 := Lib.hid hT; clear hT
  refine callsIn_of_wp Tryz.func124 rfl trivial ?_ rfl
  simp only [Tryz.ntmps124, List.size_toArray, List.length_cons, List.length_nil, Nat.reduceAdd, Nat.reduceSub, Array.replicate_succ, Array.replicate_zero, List.push_toArray, List.append_toArray, List.nil_append, List.cons_append]
  gi_wp2_with fail
  refine ⟨trivial, fun hh => (by cases hh), (callsIn_wide.2 (next_any lo hi N p S 0 _ H1.out H2.out (by omega))).mono ?_⟩
  rintro e w' ⟨rfl, m, rfl⟩
  gi_wp2_with fail
  gi_loopw [3] (fun x wr => ∃ a S, x = .int .i64 (Bm.next S N ((a : Nat) : Int)) ∧ J a S wr) (fun x _ => itm N x)
  case atStart => exact ⟨0, S, rfl, HDR.out _ _ _ _ HJ.out⟩
  case round =>
    obtain ⟨a, S1, rfl, hj⟩ := hrel
    have HJ1 := Lib.hid hj; clear hj
    have hns := Bm.next_spec S1 N (a : Int)
    generalize hx : Bm.next S1 N (a : Int) = x at *
    have HX := Lib.hid hx; clear hx
    rcases hns with ⟨h1, h2⟩ | ⟨i, h1, h2, h3, h4, h5⟩
    · clear h2
      have hx0 : x < 0 := by omega
      have H1 := Lib.hid h1; clear h1
      gi_wp2
      go_end0
      exact ⟨⟨_, rfl⟩, HE.out a S1 _ HJ1.out (by rw [HX.out, H1.out])⟩
    · subst h1
      clear h4 h5
      have hi0 : (0 : Int) ≤ (i : Int) := by omega
      have hiM : (i : Int) ≤ 262144 := by
        obtain ⟨hm1, _, _⟩ := HM.out a S1 _ HJ1.out
        obtain ⟨pb, v, rows, _, hm2, _⟩ := hm1
        have := hm2.nle; omega
      obtain ⟨fn, tmps, assign, body, hy, hR⟩ := HY.out a S1 wr i HJ1.out HX.out (by omega) h3
      have HR := Lib.hid hR; clear hR
      gi_wp2_with fail
      refine ⟨fun hh => (by cases hh), HR.out.mono ?_⟩
      rintro e w' (⟨rfl, S2, hj2⟩ | ⟨rfl, hd⟩)
      · obtain ⟨hm2, hT2, hb2⟩ := HM.out (i + 1) S2 w' hj2
        have HJ2 := Lib.hid hj2; clear hj2
        have G1 := Lib.hid hm2; clear hm2
        have G2 := Lib.hid hT2; clear hT2
        gi_wp2_with fail
        refine ⟨trivial, fun hh => (by cases hh), (callsIn_wide.2 (next_any lo hi N p S2 ((i : Int) + 1) _ G1.out G2.out (by omega))).mono ?_⟩
        rintro e w2 ⟨rfl, m2, hw2⟩
        have HW2 := Lib.hid hw2; clear hw2
        gi_wp2
        go_roundw
        case rel => exact ⟨i + 1, S2, by go_num, by rw [HW2.out]; exact HDR.out _ _ _ _ HJ2.out⟩
        case measure =>
          have hns := Bm.next_spec S2 N ((i : Int) + 1)
          refine itm_lt N i _ h3 ?_
          rcases hns with ⟨h, _⟩ | ⟨j, h, hj, _⟩
          · exact .inl h
          · exact .inr (by omega)
      · have HD := Lib.hid hd; clear hd
        gi_wp2
        refine bodyPost_ret (results_none rfl _ _ _) rfl ⟨⟨_, rfl⟩, HD.out⟩
end Go.Proofs.YtfbcdmhmpfijjaaGreatDoor
