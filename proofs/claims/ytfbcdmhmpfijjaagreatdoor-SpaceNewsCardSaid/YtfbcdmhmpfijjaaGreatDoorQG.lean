/-
  The walks of space: Words, Peek, Poke, wide, link, Find.
-/
import Derived.Test.YtfbcdmhmpfijjaaGreatDoorQF
import Derived.Deep.RegionHeld3
namespace Go.Proofs.YtfbcdmhmpfijjaaGreatDoor
open Go Go.RowKit

/-- The words of the room of an object of a size. -/
def Sp.wide (s : Int) : Int := if 0 < Sp.pgs s then Sp.pgs s * 64 else Sp.cww (Sp.cls s)
theorem Sp.pgs_le (s : Int) : 0 ≤ Sp.pgs s ∧ Sp.pgs s ≤ 16 := by
  unfold Sp.pgs
  split
  · have := Sp.cls_8 ‹_›; omega
  · omega
theorem Sp.wide_le (s : Int) : 0 ≤ Sp.wide s ∧ Sp.wide s ≤ 1024 := by
  have h1 := Sp.pgs_le s
  have h2 := Sp.bks_le (Sp.cls s)
  unfold Sp.wide
  split <;> omega

set_option maxHeartbeats 800000 in
theorem peek_in (w : World) (L : Lay) (s : St) (h : SpaceAt w L s) (a : Nat) (ha : a < 64 * s.n) :
    Calls Tryz.prog 20 #[.pointer (some ⟨L.sb, 0, none⟩), .int .i64 (a : Int)] w fun e w' => e = .returned (.tuple #[.int .i64 (s.W a), .bool true]) ∧ w = w' := by
  have hc0 := h.c0
  have hw := h.words.cell a ha
  clear h
  generalize 64 * s.n = N at *
  generalize s.W a = x at *
  have hd1 : decide ((a : Int) < 0) = false := decide_eq_false (by omega)
  have hd2 : decide ((N : Int) ≤ (a : Int)) = false := decide_eq_false (by omega)
  have hd3 : decide (N ≤ a) = false := decide_eq_false (by omega)
  have ha0 : (0 : Int) ≤ (a : Int) := by omega
  have ha1 : (a : Int) < (N : Int) := by omega
  go_enter Tryz.func20, Tryz.ntmps20
  go_wp2
  go_ret2
  exact ⟨rfl, rfl⟩
set_option maxHeartbeats 800000 in
theorem wide_any (z : Int) (w : World) : Calls Tryz.prog 49 #[.int .i64 z] w fun e w' => e = .returned (.int .i64 (Sp.wide z)) ∧ Still w w' := by
  have hp := Sp.pgs_le z
  have HP := Lib.hid (fun w => pages_any z w)
  have HO := Lib.hid (fun w => of_any z w)
  by_cases h0 : 0 < Sp.pgs z
  · have hr : Sp.wide z = Sp.pgs z * 64 := by unfold Sp.wide; rw [if_pos h0]
    rw [hr]; clear hr
    generalize Sp.pgs z = p at *
    go_enter Tryz.func49, Tryz.ntmps49
    go_wp2_with fail
    refine (HP.out _).mono ?_
    rintro e w1 ⟨rfl, hs⟩
    have HS := Lib.hid hs; clear hs
    go_wp2
    go_ret
    exact ⟨rfl, HS.out⟩
  · have hr : Sp.wide z = Sp.cww (Sp.cls z) := by unfold Sp.wide; rw [if_neg h0]
    rw [hr]; clear hr
    have HC := Lib.hid (fun w => cwords_any (Sp.cls z) w)
    generalize Sp.cww (Sp.cls z) = v at *
    generalize Sp.cls z = c at *
    obtain hp0 : Sp.pgs z = 0 := by omega
    rw [hp0] at HP
    clear h0 hp hp0
    go_enter Tryz.func49, Tryz.ntmps49
    go_wp2_with fail
    refine (HP.out _).mono ?_
    rintro e w1 ⟨rfl, hs⟩
    have HS := Lib.hid hs; clear hs
    go_wp2_with fail
    refine (HO.out _).mono ?_
    rintro e w2 ⟨rfl, hs⟩
    have HS2 := Lib.hid hs; clear hs
    go_wp2_with fail
    refine (HC.out _).mono ?_
    rintro e w3 ⟨rfl, hs⟩
    have HS3 := Lib.hid hs; clear hs
    go_wp2
    go_ret
    exact ⟨rfl, HS.out.trans' (HS2.out.trans' HS3.out (.inl HS2.out.size) (.inr HS2.out.size)) (.inl HS.out.size) (.inr HS.out.size)⟩

/-- The link that a free block of class c at a place should have. -/
def St.link (s : St) (c : Nat) (a : Int) : Int := Sp.lnk (Bm.next (s.B (c + 1)) (64 * s.n) (a + 1))
set_option maxHeartbeats 800000 in
theorem slink_any (w : World) (L : Lay) (s : St) (h : SpaceAt w L s) (c : Nat) (hc : c < 8) (a : Int) (ha : -1 ≤ a) (ha2 : a ≤ 262144) :
    Calls Tryz.prog 80 #[.pointer (some ⟨L.sb, 0, none⟩), .int .i64 (c : Int), .int .i64 a] w fun e w' => e = .returned (.int .i64 (s.link c a)) ∧ ∃ m, w' = w.drewN m := by
  have hc3 := h.c3 c hc
  have hn2 := h.n2
  have HM := Lib.hid (next_any _ _ _ _ _ (a + 1) w (h.maps (c + 1) (by omega)) h.tab (by omega))
  have hr := Bm.next_spec (s.B (c + 1)) (64 * s.n) (a + 1)
  have hrg : -1 ≤ Bm.next (s.B (c + 1)) (64 * s.n) (a + 1) ∧ Bm.next (s.B (c + 1)) (64 * s.n) (a + 1) < 262144 := by
    rcases hr with ⟨h1, _⟩ | ⟨i, h1, h2, h3, _⟩ <;> omega
  clear hr
  unfold St.link
  generalize Bm.next (s.B (c + 1)) (64 * s.n) (a + 1) = x at *
  have HL := Lib.hid (fun w => link_any x w hrg.1 hrg.2)
  clear h hrg
  generalize Sp.lnk x = y at *
  generalize L.m (c + 1) = p at *
  have hc0 : (0 : Int) ≤ (c : Int) := by omega
  have hc8 : (c : Int) < 8 := by omega
  go_enter Tryz.func80, Tryz.ntmps80
  go_wp2_with fail
  refine HM.out.mono ?_
  rintro e w1 ⟨rfl, m, rfl⟩
  go_wp2_with fail
  refine (HL.out _).mono ?_
  rintro e w1 ⟨rfl, rfl⟩
  go_wp2
  go_ret
  exact ⟨rfl, m, rfl⟩

end Go.Proofs.YtfbcdmhmpfijjaaGreatDoor

namespace Go.Proofs.YtfbcdmhmpfijjaaGreatDoor
open Go Go.RowKit

def St.has (s : St) (a : Int) : Bool := decide (0 ≤ a) && s.B 0 a.toNat
def St.sh (s : St) (a : Int) : Sh := (s.S a).getD Sh.zero
abbrev blockV (a : Int) (x : Sh) : Value := .agg #[.int .i64 a, .int .i64 x.k, .int .i64 x.z, .int .i64 x.s, .int .i64 x.t]
abbrev block0 : Value := .agg #[.int .i64 0, .int .i64 0, .int .i64 0, .int .i64 0, .int .i64 0]
abbrev faultV (e a : Int) : Value := .agg #[.int .i64 e, .int .i64 a]
theorem Tryz.zeroSh (w : World) : (zeroValue 92).run Tryz.prog w = .ok (.agg #[.int .i64 0, .int .i64 0, .int .i64 0, .int .i64 0]) w := by kernel_rfl
theorem SpaceAt.lookSh {w : World} {L : Lay} {s : St} (h : SpaceAt w L s) (a : Int) (ha : (Lit.int .i64 a).wf = true) :
    (Instr.lookup 79 (.map (some L.sm)) (.int .i64 a) false).run Tryz.prog w = .ok (.agg #[.int .i64 (s.sh a).k, .int .i64 (s.sh a).z, .int .i64 (s.sh a).s, .int .i64 (s.sh a).t]) w := by
  have hl := h.shapes.look Tryz.underlying79 (Tryz.zeroSh w) ha
  rw [hl]
  unfold St.sh
  cases s.S a <;> rfl
theorem SpaceAt.get {w : World} {L : Lay} {s : St} (h : SpaceAt w L s) (a : Int) {b : Bool} (hb : s.has a = b) :
    Calls Tryz.prog 103 #[.pointer (some (L.m 0)), .int .i64 a] w fun e w' => e = .returned (.bool b) ∧ w = w' :=
  get_any _ _ _ _ _ a w (h.maps 0 (by omega)) b hb.symm

set_option maxHeartbeats 1600000 in
theorem block_yes (w : World) (L : Lay) (s : St) (h : SpaceAt w L s) (a : Int) (ha : (Lit.int .i64 a).wf = true) (hb : s.has a = true) :
    Calls Tryz.prog 53 #[.pointer (some ⟨L.sb, 0, none⟩), .int .i64 a] w fun e w' => e = .returned (.tuple #[blockV a (s.sh a), .bool true]) ∧ Still w w' := by
  have HS := Lib.hid h
  have hc := h.c2
  have hc11 := h.c11
  have hlt := h.sblt
  clear h
  have HB := Lib.hid hb; clear hb
  obtain ⟨⟨k, z, r, t⟩, hx⟩ : ∃ x, s.sh a = x := ⟨_, rfl⟩
  rw [hx]
  have HX := Lib.hid hx; clear hx
  go_enter Tryz.func53, Tryz.ntmps53
  go_wp2_with fail
  refine ((HS.out.alloc _).get a HB.out).mono ?_
  rintro e w1 ⟨rfl, rfl⟩
  have hl := (HS.out.alloc (.cells #[.int .i64 0, .int .i64 0, .int .i64 0, .int .i64 0, .int .i64 0] 95)).lookSh a ha
  rw [HX.out] at hl
  dsimp only at hl
  go_wp2
  exact bodyPost_ret (v := .tuple #[blockV a ⟨k, z, r, t⟩, .bool true]) (by simp [results, Tryz.results53, go_sem]) rfl ⟨rfl, ((Only.refl _ _ w).alloc _).alloc _⟩

/-- The header that an object at a place should have. -/
def St.hd (s : St) (a : Int) : Int := Sp.hdr a (s.sh a).k (s.sh a).z
/-- What is known of an object's side data. -/
def St.FineAt (s : St) (a : Int) : Prop := 0 ≤ a ∧ a < ((64 * s.n : Nat) : Int) ∧ 1 ≤ (s.sh a).k ∧ (s.sh a).k ≤ 31 ∧ 1 ≤ (s.sh a).z ∧ (s.sh a).z ≤ 1024
set_option maxHeartbeats 800000 in
theorem check_no (w : World) (L : Lay) (s : St) (h : SpaceAt w L s) (a : Int) (hb : s.has a = false) :
    Calls Tryz.prog 58 #[.pointer (some ⟨L.sb, 0, none⟩), .int .i64 a] w fun e w' => e = .returned (faultV 22 0) ∧ Still w w' := by
  have HS := Lib.hid h
  have hc := h.c2
  have hlt := h.sblt
  clear h
  have HB := Lib.hid hb; clear hb
  go_enter Tryz.func58, Tryz.ntmps58
  go_wp2_with fail
  refine ((HS.out.alloc _).get a HB.out).mono ?_
  rintro e w1 ⟨rfl, rfl⟩
  go_wp2
  exact bodyPost_ret (v := faultV 22 0) (by simp [results, Tryz.results58, go_sem]) rfl ⟨rfl, (Only.refl _ _ w).alloc _⟩

set_option maxHeartbeats 1600000 in
theorem check_yes (w : World) (L : Lay) (s : St) (h : SpaceAt w L s) (a : Nat) (hb : s.has a = true) (hf : s.FineAt a) (r : Value) (hr : r = if s.W a = s.hd a then faultV 0 0 else faultV 21 a) :
    Calls Tryz.prog 58 #[.pointer (some ⟨L.sb, 0, none⟩), .int .i64 (a : Int)] w fun e w' => e = .returned r ∧ Still w w' := by
  obtain ⟨f1, f2, f3, f4, f5, f6⟩ := hf
  have hn2 := h.n2
  have HS := Lib.hid h
  have hc0 := h.c0
  have hc := h.c2
  have hc11 := h.c11
  have hlt := h.sblt
  have hw := h.words.cell a (by omega)
  have hwlt := h.words.lt
  clear h
  have HB := Lib.hid hb; clear hb
  unfold St.hd at hr
  obtain ⟨⟨k, z, q, t⟩, hx⟩ : ∃ x, s.sh a = x := ⟨_, rfl⟩
  rw [hx] at f3 f4 f5 f6 hr
  dsimp only at f3 f4 f5 f6 hr
  have HX := Lib.hid hx; clear hx
  have HMK := Lib.hid (fun w => make_any a k z w f1 (by omega) f3 f4 f5 f6)
  generalize Sp.hdr a k z = hv at *
  have hN : (a : Int) < ((64 * s.n : Nat) : Int) := f2
  have hwf := wf_of (x := (a : Int)) (by omega)
  clear f2
  generalize 64 * s.n = N at *
  by_cases he : s.W a = hv
  · rw [if_pos he] at hr
    subst hr
    rw [he] at hw
    clear he
    go_enter Tryz.func58, Tryz.ntmps58
    go_wp2_with fail
    refine ((HS.out.alloc _).get a HB.out).mono ?_
    rintro e w1 ⟨rfl, rfl⟩
    have hl := (HS.out.alloc (.cells #[.int .i64 0, .int .i64 0] 50)).lookSh a hwf
    rw [HX.out] at hl
    dsimp only at hl
    go_wp2_with fail
    go_quiet (((go_at_call 50; exact quiet_eq (HMK.out _))))
    go_wp2
    exact bodyPost_ret (v := faultV 0 0) (by simp [results, Tryz.results58, go_sem]) rfl ⟨rfl, ((((Only.refl _ _ w).alloc _).alloc _).drewN _).setCell (.inr (Nat.le_refl _)) _ |>.setCell (.inr (Nat.le_refl _)) _⟩
  · rw [if_neg he] at hr
    subst hr
    have hbn : (s.W a == hv) = false := beq_eq_false_iff_ne.2 he
    have hbn2 : (s.W a != hv) = true := by simp [bne, hbn]
    have HWF := Lib.hid hwf; clear hwf
    generalize s.W a = wa at *
    clear he
    go_enter Tryz.func58, Tryz.ntmps58
    go_wp2_with fail
    refine ((HS.out.alloc _).get a HB.out).mono ?_
    rintro e w1 ⟨rfl, rfl⟩
    have hl := (HS.out.alloc (.cells #[.int .i64 0, .int .i64 0] 50)).lookSh a HWF.out
    rw [HX.out] at hl
    dsimp only at hl
    go_wp2_with fail
    go_quiet (((go_at_call 50; exact quiet_eq (HMK.out _))))
    go_wp2
    exact bodyPost_ret (v := faultV 21 a) (by simp [results, Tryz.results58, go_sem]) rfl ⟨rfl, ((((Only.refl _ _ w).alloc _).alloc _).drewN _).setCell (.inr (Nat.le_refl _)) _ |>.setCell (.inr (Nat.le_refl _)) _⟩
end Go.Proofs.YtfbcdmhmpfijjaaGreatDoor

namespace Go.Proofs.YtfbcdmhmpfijjaaGreatDoor
open Go Go.RowKit

/-- What Check tells: the error and the place. -/
def St.chk (s : St) (a : Int) : Int × Int := if s.has a then (if s.W a.toNat = s.hd a then (0, 0) else (21, a)) else (22, 0)
def St.Fine (s : St) : Prop := ∀ a : Int, s.has a = true → s.FineAt a
theorem check_any (w : World) (L : Lay) (s : St) (h : SpaceAt w L s) (a : Int) (hf : s.Fine) :
    Calls Tryz.prog 58 #[.pointer (some ⟨L.sb, 0, none⟩), .int .i64 a] w fun e w' => e = .returned (faultV (s.chk a).1 (s.chk a).2) ∧ Still w w' := by
  cases hb : s.has a with
  | false =>
    refine (check_no w L s h a hb).mono ?_
    rintro e w' ⟨rfl, hs⟩
    have : s.chk a = (22, 0) := by unfold St.chk; rw [if_neg (by simp [hb])]
    rw [this]
    exact ⟨rfl, hs⟩
  | true =>
    have hfa := hf a hb
    obtain ⟨n, rfl⟩ := Int.eq_ofNat_of_zero_le hfa.1
    refine check_yes w L s h n hb hfa _ ?_
    have : s.chk n = if s.W n = s.hd n then (0, 0) else (21, (n : Int)) := by unfold St.chk; rw [if_pos hb]; rfl
    rw [this]
    split <;> rfl

theorem Only.andStill {lo hi : Nat} {a b c : World} (h : Only lo hi a b) (k : Still b c) : Only lo hi a c := h.trans' k (.inr h.size) (.inr h.size)
theorem Still.trans {a b c : World} (h : Still a b) (k : Still b c) : Still a c := Only.andStill h k
theorem still_new {w w1 : World} {o : Obj} (hs : Still (w.alloc o) w1) : w1.heap[w.heap.size]? = some o := by
  rw [hs.block _ (by simp) (.inl (by simp))]
  exact heap_alloc_new w o
theorem new_lt {w w1 : World} {o : Obj} (hs : Still (w.alloc o) w1) : w.heap.size < w1.heap.size := by
  have := hs.size; simp at this; omega
theorem cell_of {w : World} {b : Nat} {cs : Array Value} {T : TypeId} (h : w.heap[b]? = some (.cells cs T (0, 0))) (j : Nat) {v : Value} (hv : cs[j]? = some v) : w.cell? ⟨b, j, none⟩ = some v := by
  simp [World.cell?, h, hv]
theorem frozen_of {w : World} {b : Nat} {cs : Array Value} {T : TypeId} (h : w.heap[b]? = some (.cells cs T (0, 0))) (j : Nat) : w.frozen? ⟨b, j, none⟩ = false := by
  simp [World.frozen?, h]

end Go.Proofs.YtfbcdmhmpfijjaaGreatDoor

namespace Go.Proofs.YtfbcdmhmpfijjaaGreatDoor
open Go Go.RowKit

theorem SpaceAt.setNew {w : World} {L : Lay} {s : St} (h : SpaceAt w L s) {b : Nat} (hb : L.hi ≤ b) (o : Nat) (u : Value) : SpaceAt (w.setCell ⟨b, o, none⟩ u) L s :=
  h.kept (only_cell w b o u) (.inl hb) (by have := h.ok.inn 0 (by omega); have := h.ok.lo0; omega)
end Go.Proofs.YtfbcdmhmpfijjaaGreatDoor
