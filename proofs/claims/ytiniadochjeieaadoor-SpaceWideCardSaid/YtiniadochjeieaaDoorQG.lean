/-
  The walks of space: Words, Peek, Poke, wide, link, Find.
-/
import Derived.Test.YtiniadochjeieaaDoorQF
import Derived.Deep.RegionHeld3
namespace Go.Proofs.YtiniadochjeieaaDoor
open Go Go.RowKit

/-- The words of the room of an object of a size. -/
def Sp.wide (s : Int) : Int := if 0 < Sp.pgs s then Sp.pgs s * 64 else Sp.cww (Sp.cls s)
theorem Sp.pgs_le (s : Int) : 0 ≤ Sp.pgs s ∧ Sp.pgs s ≤ 16 := by
  unfold Sp.pgs
  split
  · have := Sp.cls_8 ‹_›; omega
  · omega
theorem Sp.wide_le (s : Int) : 0 ≤ Sp.wide s ∧ Sp.wide s ≤ 1024 := by
  have h1 := Sp.pgs_le s
  have h2 := Sp.bks_le (Sp.cls s)
  unfold Sp.wide
  split <;> omega

theorem words_len (w : World) (L : Lay) (s : St) (h : SpaceAt w L s) :
    Calls Tryd.prog 43 #[.pointer (some ⟨L.sb, 0, none⟩)] w fun e w' => e = .returned (.int .i64 ((64 * s.n : Nat) : Int)) ∧ w = w' := by
  have hc0 := h.c0
  clear h
  generalize 64 * s.n = N at *
  go_enter Tryd.func43, Tryd.ntmps43
  go_wp2
  go_ret
  exact ⟨rfl, rfl⟩

set_option maxHeartbeats 800000 in
theorem peek_in (w : World) (L : Lay) (s : St) (h : SpaceAt w L s) (a : Nat) (ha : a < 64 * s.n) :
    Calls Tryd.prog 31 #[.pointer (some ⟨L.sb, 0, none⟩), .int .i64 (a : Int)] w fun e w' => e = .returned (.tuple #[.int .i64 (s.W a), .bool true]) ∧ w = w' := by
  have hc0 := h.c0
  have hw := h.words.cell a ha
  clear h
  generalize 64 * s.n = N at *
  generalize s.W a = x at *
  have hd1 : decide ((a : Int) < 0) = false := decide_eq_false (by omega)
  have hd2 : decide ((N : Int) ≤ (a : Int)) = false := decide_eq_false (by omega)
  have hd3 : decide (N ≤ a) = false := decide_eq_false (by omega)
  have ha0 : (0 : Int) ≤ (a : Int) := by omega
  have ha1 : (a : Int) < (N : Int) := by omega
  go_enter Tryd.func31, Tryd.ntmps31
  go_wp2
  go_ret2
  exact ⟨rfl, rfl⟩
set_option maxHeartbeats 800000 in
theorem peek_out (w : World) (L : Lay) (s : St) (h : SpaceAt w L s) (a : Int) (ha : a < 0 ∨ ((64 * s.n : Nat) : Int) ≤ a) :
    Calls Tryd.prog 31 #[.pointer (some ⟨L.sb, 0, none⟩), .int .i64 a] w fun e w' => e = .returned (.tuple #[.int .i64 0, .bool false]) ∧ w = w' := by
  have hc0 := h.c0
  clear h
  generalize 64 * s.n = N at *
  by_cases h1 : a < 0
  · have hd1 : decide (a < 0) = true := decide_eq_true h1
    clear ha
    go_enter Tryd.func31, Tryd.ntmps31
    go_wp2
    go_ret2
    exact ⟨rfl, rfl⟩
  · have hd1 : decide (a < 0) = false := decide_eq_false h1
    have hd2 : decide ((N : Int) ≤ a) = true := decide_eq_true (by omega)
    clear ha h1
    go_enter Tryd.func31, Tryd.ntmps31
    go_wp2
    go_ret2
    exact ⟨rfl, rfl⟩

set_option maxHeartbeats 800000 in
theorem poke_in (w : World) (L : Lay) (s : St) (h : SpaceAt w L s) (a : Nat) (ha : a < 64 * s.n) (x : Int) (Q : Ending → World → Prop)
    (hQ : ∀ w', SpaceAt w' L { s with W := setW s.W a x } → Only L.lo L.hi w w' → Q (.returned (.bool true)) w') :
    Calls Tryd.prog 35 #[.pointer (some ⟨L.sb, 0, none⟩), .int .i64 (a : Int), .int .i64 x] w Q := by
  have hc0 := h.c0
  have hw := h.words.cell a ha
  have hf := h.words.frozen a
  have HQ := Lib.hid (hQ _ (h.setWord a x) (h.only 1 (by omega) (only_cell w L.wb a (.int .i64 x))))
  clear h hQ
  generalize 64 * s.n = N at *
  generalize s.W a = y at *
  have hd1 : decide ((a : Int) < 0) = false := decide_eq_false (by omega)
  have hd2 : decide ((N : Int) ≤ (a : Int)) = false := decide_eq_false (by omega)
  have hd3 : decide (N ≤ a) = false := decide_eq_false (by omega)
  have ha0 : (0 : Int) ≤ (a : Int) := by omega
  have ha1 : (a : Int) < (N : Int) := by omega
  go_enter Tryd.func35, Tryd.ntmps35
  go_wp2
  exact HQ.out
set_option maxHeartbeats 800000 in
theorem poke_out (w : World) (L : Lay) (s : St) (h : SpaceAt w L s) (a x : Int) (ha : a < 0 ∨ ((64 * s.n : Nat) : Int) ≤ a) :
    Calls Tryd.prog 35 #[.pointer (some ⟨L.sb, 0, none⟩), .int .i64 a, .int .i64 x] w fun e w' => e = .returned (.bool false) ∧ w = w' := by
  have hc0 := h.c0
  clear h
  generalize 64 * s.n = N at *
  by_cases h1 : a < 0
  · have hd1 : decide (a < 0) = true := decide_eq_true h1
    clear ha
    go_enter Tryd.func35, Tryd.ntmps35
    go_wp2
    go_ret
    exact ⟨rfl, rfl⟩
  · have hd1 : decide (a < 0) = false := decide_eq_false h1
    have hd2 : decide ((N : Int) ≤ a) = true := decide_eq_true (by omega)
    clear ha h1
    go_enter Tryd.func35, Tryd.ntmps35
    go_wp2
    go_ret
    exact ⟨rfl, rfl⟩

set_option maxHeartbeats 800000 in
theorem wide_any (z : Int) (w : World) : Calls Tryd.prog 52 #[.int .i64 z] w fun e w' => e = .returned (.int .i64 (Sp.wide z)) ∧ Still w w' := by
  have hp := Sp.pgs_le z
  have HP := Lib.hid (fun w => pages_any z w)
  have HO := Lib.hid (fun w => of_any z w)
  by_cases h0 : 0 < Sp.pgs z
  · have hr : Sp.wide z = Sp.pgs z * 64 := by unfold Sp.wide; rw [if_pos h0]
    rw [hr]; clear hr
    generalize Sp.pgs z = p at *
    go_enter Tryd.func52, Tryd.ntmps52
    go_wp2_with fail
    refine (HP.out _).mono ?_
    rintro e w1 ⟨rfl, hs⟩
    have HS := Lib.hid hs; clear hs
    go_wp2
    go_ret
    exact ⟨rfl, HS.out⟩
  · have hr : Sp.wide z = Sp.cww (Sp.cls z) := by unfold Sp.wide; rw [if_neg h0]
    rw [hr]; clear hr
    have HC := Lib.hid (fun w => cwords_any (Sp.cls z) w)
    generalize Sp.cww (Sp.cls z) = v at *
    generalize Sp.cls z = c at *
    obtain hp0 : Sp.pgs z = 0 := by omega
    rw [hp0] at HP
    clear h0 hp hp0
    go_enter Tryd.func52, Tryd.ntmps52
    go_wp2_with fail
    refine (HP.out _).mono ?_
    rintro e w1 ⟨rfl, hs⟩
    have HS := Lib.hid hs; clear hs
    go_wp2_with fail
    refine (HO.out _).mono ?_
    rintro e w2 ⟨rfl, hs⟩
    have HS2 := Lib.hid hs; clear hs
    go_wp2_with fail
    refine (HC.out _).mono ?_
    rintro e w3 ⟨rfl, hs⟩
    have HS3 := Lib.hid hs; clear hs
    go_wp2
    go_ret
    exact ⟨rfl, HS.out.trans' (HS2.out.trans' HS3.out (.inl HS2.out.size) (.inr HS2.out.size)) (.inl HS.out.size) (.inr HS.out.size)⟩

/-- The link that a free block of class c at a place should have. -/
def St.link (s : St) (c : Nat) (a : Int) : Int := Sp.lnk (Bm.next (s.B (c + 1)) (64 * s.n) (a + 1))
set_option maxHeartbeats 800000 in
theorem slink_any (w : World) (L : Lay) (s : St) (h : SpaceAt w L s) (c : Nat) (hc : c < 8) (a : Int) (ha : -1 ≤ a) (ha2 : a ≤ 262144) :
    Calls Tryd.prog 70 #[.pointer (some ⟨L.sb, 0, none⟩), .int .i64 (c : Int), .int .i64 a] w fun e w' => e = .returned (.int .i64 (s.link c a)) ∧ ∃ m, w' = w.drewN m := by
  have hc3 := h.c3 c hc
  have hn2 := h.n2
  have HM := Lib.hid (next_any _ _ _ _ _ (a + 1) w (h.maps (c + 1) (by omega)) h.tab (by omega))
  have hr := Bm.next_spec (s.B (c + 1)) (64 * s.n) (a + 1)
  have hrg : -1 ≤ Bm.next (s.B (c + 1)) (64 * s.n) (a + 1) ∧ Bm.next (s.B (c + 1)) (64 * s.n) (a + 1) < 262144 := by
    rcases hr with ⟨h1, _⟩ | ⟨i, h1, h2, h3, _⟩ <;> omega
  clear hr
  unfold St.link
  generalize Bm.next (s.B (c + 1)) (64 * s.n) (a + 1) = x at *
  have HL := Lib.hid (fun w => link_any x w hrg.1 hrg.2)
  clear h hrg
  generalize Sp.lnk x = y at *
  generalize L.m (c + 1) = p at *
  have hc0 : (0 : Int) ≤ (c : Int) := by omega
  have hc8 : (c : Int) < 8 := by omega
  go_enter Tryd.func70, Tryd.ntmps70
  go_wp2_with fail
  refine HM.out.mono ?_
  rintro e w1 ⟨rfl, m, rfl⟩
  go_wp2_with fail
  refine (HL.out _).mono ?_
  rintro e w1 ⟨rfl, rfl⟩
  go_wp2
  go_ret
  exact ⟨rfl, m, rfl⟩

set_option maxHeartbeats 800000 in
theorem find_any (w : World) (L : Lay) (s : St) (h : SpaceAt w L s) (x : Int) (hx : (Lit.int .i64 x).wf = true) :
    Calls Tryd.prog 34 #[.pointer (some ⟨L.sb, 0, none⟩), .int .i64 x] w fun e w' => e = .returned (.tuple #[.int .i64 ((s.Q x).getD 0), .bool (s.Q x).isSome]) ∧ w = w' := by
  have hc := h.c12
  have hl := h.places.look_ok Tryd.underlying89 (Tryd.zeroI w) hx
  have e1 : (Option.map (Value.int IntKind.i64) (s.Q x)).getD (.int .i64 0) = .int .i64 ((s.Q x).getD 0) := by cases s.Q x <;> rfl
  have e2 : (Option.map (Value.int IntKind.i64) (s.Q x)).isSome = (s.Q x).isSome := by cases s.Q x <;> rfl
  rw [e1, e2] at hl
  clear h e1 e2
  generalize (s.Q x).getD 0 = y at *
  generalize (s.Q x).isSome = b at *
  go_enter Tryd.func34, Tryd.ntmps34
  go_wp2
  go_ret2
  exact ⟨rfl, rfl⟩
end Go.Proofs.YtiniadochjeieaaDoor

namespace Go.Proofs.YtiniadochjeieaaDoor
open Go Go.RowKit

def St.has (s : St) (a : Int) : Bool := decide (0 ≤ a) && s.B 0 a.toNat
def St.sh (s : St) (a : Int) : Sh := (s.S a).getD Sh.zero
abbrev blockV (a : Int) (x : Sh) : Value := .agg #[.int .i64 a, .int .i64 x.k, .int .i64 x.z, .int .i64 x.s, .int .i64 x.t]
abbrev block0 : Value := .agg #[.int .i64 0, .int .i64 0, .int .i64 0, .int .i64 0, .int .i64 0]
abbrev faultV (e a : Int) : Value := .agg #[.int .i64 e, .int .i64 a]
theorem Tryd.zeroSh (w : World) : (zeroValue 102).run Tryd.prog w = .ok (.agg #[.int .i64 0, .int .i64 0, .int .i64 0, .int .i64 0]) w := by kernel_rfl
theorem SpaceAt.lookSh {w : World} {L : Lay} {s : St} (h : SpaceAt w L s) (a : Int) (ha : (Lit.int .i64 a).wf = true) :
    (Instr.lookup 88 (.map (some L.sm)) (.int .i64 a) false).run Tryd.prog w = .ok (.agg #[.int .i64 (s.sh a).k, .int .i64 (s.sh a).z, .int .i64 (s.sh a).s, .int .i64 (s.sh a).t]) w := by
  have hl := h.shapes.look Tryd.underlying88 (Tryd.zeroSh w) ha
  rw [hl]
  unfold St.sh
  cases s.S a <;> rfl
theorem SpaceAt.get {w : World} {L : Lay} {s : St} (h : SpaceAt w L s) (a : Int) {b : Bool} (hb : s.has a = b) :
    Calls Tryd.prog 56 #[.pointer (some (L.m 0)), .int .i64 a] w fun e w' => e = .returned (.bool b) ∧ w = w' :=
  get_any _ _ _ _ _ a w (h.maps 0 (by omega)) b hb.symm

set_option maxHeartbeats 800000 in
theorem block_no (w : World) (L : Lay) (s : St) (h : SpaceAt w L s) (a : Int) (hb : s.has a = false) :
    Calls Tryd.prog 25 #[.pointer (some ⟨L.sb, 0, none⟩), .int .i64 a] w fun e w' => e = .returned (.tuple #[block0, .bool false]) ∧ Still w w' := by
  have HS := Lib.hid h
  have hc := h.c2
  have hlt := h.sblt
  clear h
  have HB := Lib.hid hb; clear hb
  go_enter Tryd.func25, Tryd.ntmps25
  go_wp2_with fail
  refine ((HS.out.alloc _).get a HB.out).mono ?_
  rintro e w1 ⟨rfl, rfl⟩
  go_wp2
  exact bodyPost_ret (v := .tuple #[block0, .bool false]) (by simp [results, Tryd.results25, go_sem]) rfl ⟨rfl, (Only.refl _ _ w).alloc _⟩

set_option maxHeartbeats 1600000 in
theorem block_yes (w : World) (L : Lay) (s : St) (h : SpaceAt w L s) (a : Int) (ha : (Lit.int .i64 a).wf = true) (hb : s.has a = true) :
    Calls Tryd.prog 25 #[.pointer (some ⟨L.sb, 0, none⟩), .int .i64 a] w fun e w' => e = .returned (.tuple #[blockV a (s.sh a), .bool true]) ∧ Still w w' := by
  have HS := Lib.hid h
  have hc := h.c2
  have hc11 := h.c11
  have hlt := h.sblt
  clear h
  have HB := Lib.hid hb; clear hb
  obtain ⟨⟨k, z, r, t⟩, hx⟩ : ∃ x, s.sh a = x := ⟨_, rfl⟩
  rw [hx]
  have HX := Lib.hid hx; clear hx
  go_enter Tryd.func25, Tryd.ntmps25
  go_wp2_with fail
  refine ((HS.out.alloc _).get a HB.out).mono ?_
  rintro e w1 ⟨rfl, rfl⟩
  have hl := (HS.out.alloc (.cells #[.int .i64 0, .int .i64 0, .int .i64 0, .int .i64 0, .int .i64 0] 34)).lookSh a ha
  rw [HX.out] at hl
  dsimp only at hl
  go_wp2
  exact bodyPost_ret (v := .tuple #[blockV a ⟨k, z, r, t⟩, .bool true]) (by simp [results, Tryd.results25, go_sem]) rfl ⟨rfl, ((Only.refl _ _ w).alloc _).alloc _⟩

/-- The header that an object at a place should have. -/
def St.hd (s : St) (a : Int) : Int := Sp.hdr a (s.sh a).k (s.sh a).z
/-- What is known of an object's side data. -/
def St.FineAt (s : St) (a : Int) : Prop := 0 ≤ a ∧ a < ((64 * s.n : Nat) : Int) ∧ 1 ≤ (s.sh a).k ∧ (s.sh a).k ≤ 31 ∧ 1 ≤ (s.sh a).z ∧ (s.sh a).z ≤ 1024
set_option maxHeartbeats 800000 in
theorem check_no (w : World) (L : Lay) (s : St) (h : SpaceAt w L s) (a : Int) (hb : s.has a = false) :
    Calls Tryd.prog 36 #[.pointer (some ⟨L.sb, 0, none⟩), .int .i64 a] w fun e w' => e = .returned (faultV 22 0) ∧ Still w w' := by
  have HS := Lib.hid h
  have hc := h.c2
  have hlt := h.sblt
  clear h
  have HB := Lib.hid hb; clear hb
  go_enter Tryd.func36, Tryd.ntmps36
  go_wp2_with fail
  refine ((HS.out.alloc _).get a HB.out).mono ?_
  rintro e w1 ⟨rfl, rfl⟩
  go_wp2
  exact bodyPost_ret (v := faultV 22 0) (by simp [results, Tryd.results36, go_sem]) rfl ⟨rfl, (Only.refl _ _ w).alloc _⟩

set_option maxHeartbeats 1600000 in
theorem check_yes (w : World) (L : Lay) (s : St) (h : SpaceAt w L s) (a : Nat) (hb : s.has a = true) (hf : s.FineAt a) (r : Value) (hr : r = if s.W a = s.hd a then faultV 0 0 else faultV 21 a) :
    Calls Tryd.prog 36 #[.pointer (some ⟨L.sb, 0, none⟩), .int .i64 (a : Int)] w fun e w' => e = .returned r ∧ Still w w' := by
  obtain ⟨f1, f2, f3, f4, f5, f6⟩ := hf
  have hn2 := h.n2
  have HS := Lib.hid h
  have hc0 := h.c0
  have hc := h.c2
  have hc11 := h.c11
  have hlt := h.sblt
  have hw := h.words.cell a (by omega)
  have hwlt := h.words.lt
  clear h
  have HB := Lib.hid hb; clear hb
  unfold St.hd at hr
  obtain ⟨⟨k, z, q, t⟩, hx⟩ : ∃ x, s.sh a = x := ⟨_, rfl⟩
  rw [hx] at f3 f4 f5 f6 hr
  dsimp only at f3 f4 f5 f6 hr
  have HX := Lib.hid hx; clear hx
  have HMK := Lib.hid (fun w => make_any a k z w f1 (by omega) f3 f4 f5 f6)
  generalize Sp.hdr a k z = hv at *
  have hN : (a : Int) < ((64 * s.n : Nat) : Int) := f2
  have hwf := wf_of (x := (a : Int)) (by omega)
  clear f2
  generalize 64 * s.n = N at *
  by_cases he : s.W a = hv
  · rw [if_pos he] at hr
    subst hr
    rw [he] at hw
    clear he
    go_enter Tryd.func36, Tryd.ntmps36
    go_wp2_with fail
    refine ((HS.out.alloc _).get a HB.out).mono ?_
    rintro e w1 ⟨rfl, rfl⟩
    have hl := (HS.out.alloc (.cells #[.int .i64 0, .int .i64 0] 56)).lookSh a hwf
    rw [HX.out] at hl
    dsimp only at hl
    go_wp2_with fail
    go_quiet (((go_at_call 53; exact quiet_eq (HMK.out _))))
    go_wp2
    exact bodyPost_ret (v := faultV 0 0) (by simp [results, Tryd.results36, go_sem]) rfl ⟨rfl, ((((Only.refl _ _ w).alloc _).alloc _).drewN _).setCell (.inr (Nat.le_refl _)) _ |>.setCell (.inr (Nat.le_refl _)) _⟩
  · rw [if_neg he] at hr
    subst hr
    have hbn : (s.W a == hv) = false := beq_eq_false_iff_ne.2 he
    have hbn2 : (s.W a != hv) = true := by simp [bne, hbn]
    have HWF := Lib.hid hwf; clear hwf
    generalize s.W a = wa at *
    clear he
    go_enter Tryd.func36, Tryd.ntmps36
    go_wp2_with fail
    refine ((HS.out.alloc _).get a HB.out).mono ?_
    rintro e w1 ⟨rfl, rfl⟩
    have hl := (HS.out.alloc (.cells #[.int .i64 0, .int .i64 0] 56)).lookSh a HWF.out
    rw [HX.out] at hl
    dsimp only at hl
    go_wp2_with fail
    go_quiet (((go_at_call 53; exact quiet_eq (HMK.out _))))
    go_wp2
    exact bodyPost_ret (v := faultV 21 a) (by simp [results, Tryd.results36, go_sem]) rfl ⟨rfl, ((((Only.refl _ _ w).alloc _).alloc _).drewN _).setCell (.inr (Nat.le_refl _)) _ |>.setCell (.inr (Nat.le_refl _)) _⟩
end Go.Proofs.YtiniadochjeieaaDoor

namespace Go.Proofs.YtiniadochjeieaaDoor
open Go Go.RowKit

/-- What Check tells: the error and the place. -/
def St.chk (s : St) (a : Int) : Int × Int := if s.has a then (if s.W a.toNat = s.hd a then (0, 0) else (21, a)) else (22, 0)
/-- What word tells. -/
def St.wrd (s : St) (a i : Int) : Int × Int := if (s.chk a).1 = 0 then (if i < 1 ∨ (s.sh a).z ≤ i then (23, 0) else (0, 0)) else s.chk a
def St.Fine (s : St) : Prop := ∀ a : Int, s.has a = true → s.FineAt a
theorem check_any (w : World) (L : Lay) (s : St) (h : SpaceAt w L s) (a : Int) (hf : s.Fine) :
    Calls Tryd.prog 36 #[.pointer (some ⟨L.sb, 0, none⟩), .int .i64 a] w fun e w' => e = .returned (faultV (s.chk a).1 (s.chk a).2) ∧ Still w w' := by
  cases hb : s.has a with
  | false =>
    refine (check_no w L s h a hb).mono ?_
    rintro e w' ⟨rfl, hs⟩
    have : s.chk a = (22, 0) := by unfold St.chk; rw [if_neg (by simp [hb])]
    rw [this]
    exact ⟨rfl, hs⟩
  | true =>
    have hfa := hf a hb
    obtain ⟨n, rfl⟩ := Int.eq_ofNat_of_zero_le hfa.1
    refine check_yes w L s h n hb hfa _ ?_
    have : s.chk n = if s.W n = s.hd n then (0, 0) else (21, (n : Int)) := by unfold St.chk; rw [if_pos hb]; rfl
    rw [this]
    split <;> rfl

theorem Only.andStill {lo hi : Nat} {a b c : World} (h : Only lo hi a b) (k : Still b c) : Only lo hi a c := h.trans' k (.inr h.size) (.inr h.size)
theorem Still.trans {a b c : World} (h : Still a b) (k : Still b c) : Still a c := Only.andStill h k
theorem still_new {w w1 : World} {o : Obj} (hs : Still (w.alloc o) w1) : w1.heap[w.heap.size]? = some o := by
  rw [hs.block _ (by simp) (.inl (by simp))]
  exact heap_alloc_new w o
theorem new_lt {w w1 : World} {o : Obj} (hs : Still (w.alloc o) w1) : w.heap.size < w1.heap.size := by
  have := hs.size; simp at this; omega
theorem cell_of {w : World} {b : Nat} {cs : Array Value} {T : TypeId} (h : w.heap[b]? = some (.cells cs T (0, 0))) (j : Nat) {v : Value} (hv : cs[j]? = some v) : w.cell? ⟨b, j, none⟩ = some v := by
  simp [World.cell?, h, hv]
theorem frozen_of {w : World} {b : Nat} {cs : Array Value} {T : TypeId} (h : w.heap[b]? = some (.cells cs T (0, 0))) (j : Nat) : w.frozen? ⟨b, j, none⟩ = false := by
  simp [World.frozen?, h]

theorem field_size (k z q t : Int) (w : World) : (Instr.field 102 (.agg #[.int .i64 k, .int .i64 z, .int .i64 q, .int .i64 t]) 1).run Tryd.prog w = .ok (.int .i64 z) w := by
  kernel_rfl
set_option maxHeartbeats 3200000 in
theorem word_any (w : World) (L : Lay) (s : St) (h : SpaceAt w L s) (a i : Int) (hwf : (Lit.int .i64 a).wf = true) (hf : s.Fine) :
    Calls Tryd.prog 71 #[.pointer (some ⟨L.sb, 0, none⟩), .int .i64 a, .int .i64 i] w fun e w' => e = .returned (faultV (s.wrd a i).1 (s.wrd a i).2) ∧ Still w w' := by
  have HS := Lib.hid h
  have hlt := h.sblt
  have HC := Lib.hid (fun o => check_any (w.alloc o) L s (h.alloc o) a hf)
  have HWF := Lib.hid hwf
  clear h hwf hf
  obtain ⟨⟨c1, c2⟩, hc⟩ : ∃ c, s.chk a = c := ⟨_, rfl⟩
  obtain ⟨⟨k, z, q, t⟩, hx⟩ : ∃ x, s.sh a = x := ⟨_, rfl⟩
  obtain ⟨⟨r1, r2⟩, hr⟩ : ∃ r, s.wrd a i = r := ⟨_, rfl⟩
  have HX := Lib.hid hx
  have HR : Hid ((r1, r2) = if c1 = 0 then (if i < 1 ∨ z ≤ i then ((23, 0) : Int × Int) else (0, 0)) else (c1, c2)) := Lib.hid (by rw [← hr]; unfold St.wrd; rw [hc, hx])
  have HC0 : Hid (c1 = 0 → c2 = 0) := Lib.hid (by
    intro h0
    unfold St.chk at hc
    split at hc
    · split at hc
      · injection hc with _ h2; exact h2.symm
      · injection hc with h1 h2; omega
    · injection hc with h1 h2; omega)
  rw [hr]
  rw [hc] at HC
  clear hx hr hc
  dsimp only at HC ⊢
  by_cases h0 : c1 = 0
  · obtain rfl := HC0.out h0
    subst h0
    have hr := HR.out
    rw [if_pos rfl] at hr
    clear HC0 HR
    by_cases h1 : i < 1
    · rw [if_pos (.inl h1)] at hr
      injection hr with hr1 hr2
      subst hr1; subst hr2
      have hd1 : decide (i < 1) = true := decide_eq_true h1
      clear h1
      go_enter Tryd.func71, Tryd.ntmps71
      go_wp2_with fail
      refine (HC.out _).mono ?_
      rintro e w1 ⟨rfl, hs⟩
      have hb := still_new hs
      have hlt1 := new_lt hs
      have hz0 := cell_of (v := .int .i64 0) hb 0 rfl
      have hz1 := cell_of (v := .int .i64 0) hb 1 rfl
      have hf0 := frozen_of hb 0
      have hf1 := frozen_of hb 1
      have HW := Lib.hid (Still.trans ((Only.refl _ _ w).alloc _ : Still w _) hs)
      clear hb hs
      go_wp2
      exact bodyPost_ret (v := faultV 23 0) (by simp [results, Tryd.results71, go_sem, *]) rfl ⟨rfl, (((HW.out.setCell (p := ⟨w.heap.size, 0, none⟩) (.inr (Nat.le_refl _)) _).setCell (p := ⟨w.heap.size, 1, none⟩) (.inr (Nat.le_refl _)) _).alloc _)⟩
    · have hd1 : decide (i < 1) = false := decide_eq_false h1
      by_cases h2 : z ≤ i
      · rw [if_pos (.inr h2)] at hr
        injection hr with hr1 hr2
        subst hr1; subst hr2
        have hd2 : decide (z ≤ i) = true := decide_eq_true h2
        clear h1 h2
        go_enter Tryd.func71, Tryd.ntmps71
        go_wp2_with fail
        refine (HC.out _).mono ?_
        rintro e w1 ⟨rfl, hs⟩
        have hb := still_new hs
        have hlt1 := new_lt hs
        have hz0 := cell_of (v := .int .i64 0) hb 0 rfl
        have hz1 := cell_of (v := .int .i64 0) hb 1 rfl
        have hf0 := frozen_of hb 0
        have hf1 := frozen_of hb 1
        have hs2 := (HS.out.alloc _).still hs
        have hc11 := hs2.c11
        have hsb := hs2.sblt
        have hl := (hs2.alloc (.cells #[.int .i64 0, .int .i64 0] 56)).lookSh a HWF.out
        rw [HX.out] at hl
        dsimp only at hl
        have HW := Lib.hid (Still.trans ((Only.refl _ _ w).alloc _ : Still w _) hs)
        clear hb hs hs2
        have hfs := field_size k z q t
        go_wp2
        exact bodyPost_ret (v := faultV 23 0) (by simp [results, Tryd.results71, go_sem, *]) rfl ⟨rfl, (((HW.out.setCell (p := ⟨w.heap.size, 0, none⟩) (.inr (Nat.le_refl _)) _).setCell (p := ⟨w.heap.size, 1, none⟩) (.inr (Nat.le_refl _)) _).alloc _)⟩
      · rw [if_neg (by omega)] at hr
        injection hr with hr1 hr2
        subst hr1; subst hr2
        have hd2 : decide (z ≤ i) = false := decide_eq_false h2
        clear h1 h2
        go_enter Tryd.func71, Tryd.ntmps71
        go_wp2_with fail
        refine (HC.out _).mono ?_
        rintro e w1 ⟨rfl, hs⟩
        have hb := still_new hs
        have hlt1 := new_lt hs
        have hz0 := cell_of (v := .int .i64 0) hb 0 rfl
        have hz1 := cell_of (v := .int .i64 0) hb 1 rfl
        have hf0 := frozen_of hb 0
        have hf1 := frozen_of hb 1
        have hs2 := (HS.out.alloc _).still hs
        have hc11 := hs2.c11
        have hsb := hs2.sblt
        have hl := (hs2.alloc (.cells #[.int .i64 0, .int .i64 0] 56)).lookSh a HWF.out
        rw [HX.out] at hl
        dsimp only at hl
        have HW := Lib.hid (Still.trans ((Only.refl _ _ w).alloc _ : Still w _) hs)
        clear hb hs hs2
        have hfs := field_size k z q t
        go_wp2
        exact bodyPost_ret (v := faultV 0 0) (by simp [results, Tryd.results71, go_sem, *]) rfl ⟨rfl, (((HW.out.setCell (p := ⟨w.heap.size, 0, none⟩) (.inr (Nat.le_refl _)) _).setCell (p := ⟨w.heap.size, 1, none⟩) (.inr (Nat.le_refl _)) _).alloc _)⟩
  · have hr := HR.out
    rw [if_neg h0] at hr
    injection hr with hr1 hr2
    subst hr1; subst hr2
    have hb0 : (r1 == 0) = false := beq_eq_false_iff_ne.2 h0
    clear HC0 HR h0
    go_enter Tryd.func71, Tryd.ntmps71
    go_wp2_with fail
    refine (HC.out _).mono ?_
    rintro e w1 ⟨rfl, hs⟩
    have hb := still_new hs
    have hlt1 := new_lt hs
    have hz0 := cell_of (v := .int .i64 0) hb 0 rfl
    have hz1 := cell_of (v := .int .i64 0) hb 1 rfl
    have hf0 := frozen_of hb 0
    have hf1 := frozen_of hb 1
    have HW := Lib.hid (Still.trans ((Only.refl _ _ w).alloc _ : Still w _) hs)
    clear hb hs
    go_wp2
    exact bodyPost_ret (v := faultV r1 r2) (by simp [results, Tryd.results71, go_sem, *]) rfl ⟨rfl, (((HW.out.setCell (p := ⟨w.heap.size, 0, none⟩) (.inr (Nat.le_refl _)) _).setCell (p := ⟨w.heap.size, 1, none⟩) (.inr (Nat.le_refl _)) _).alloc _)⟩
end Go.Proofs.YtiniadochjeieaaDoor

namespace Go.Proofs.YtiniadochjeieaaDoor
open Go Go.RowKit

theorem SpaceAt.setNew {w : World} {L : Lay} {s : St} (h : SpaceAt w L s) {b : Nat} (hb : L.hi ≤ b) (o : Nat) (u : Value) : SpaceAt (w.setCell ⟨b, o, none⟩ u) L s :=
  h.kept (only_cell w b o u) (.inl hb) (by have := h.ok.inn 0 (by omega); have := h.ok.lo0; omega)
set_option maxHeartbeats 3200000 in
theorem read_bad (w : World) (L : Lay) (s : St) (h : SpaceAt w L s) (a i : Int) (hwf : (Lit.int .i64 a).wf = true) (hf : s.Fine) (hb : (s.wrd a i).1 ≠ 0) :
    Calls Tryd.prog 37 #[.pointer (some ⟨L.sb, 0, none⟩), .int .i64 a, .int .i64 i] w fun e w' => e = .returned (.tuple #[.int .i64 0, faultV (s.wrd a i).1 (s.wrd a i).2]) ∧ Still w w' := by
  have HC := Lib.hid (fun o => word_any (w.alloc o) L s (h.alloc o) a i hwf hf)
  have hlt := h.sblt
  obtain ⟨⟨r1, r2⟩, hr⟩ : ∃ r, s.wrd a i = r := ⟨_, rfl⟩
  rw [hr] at HC hb ⊢
  dsimp only at HC hb ⊢
  have hb0 : (r1 != 0) = true := by simpa using hb
  clear h hwf hf hr hb
  go_enter Tryd.func37, Tryd.ntmps37
  go_wp2_with fail
  refine (HC.out _).mono ?_
  rintro e w1 ⟨rfl, hs⟩
  have hb := still_new hs
  have hlt1 := new_lt hs
  have hz0 := cell_of (v := .int .i64 0) hb 0 rfl
  have hz1 := cell_of (v := .int .i64 0) hb 1 rfl
  have hf0 := frozen_of hb 0
  have hf1 := frozen_of hb 1
  have HW := Lib.hid (Still.trans ((Only.refl _ _ w).alloc _ : Still w _) hs)
  clear hb hs
  go_wp2
  go_region
  all_goals
    go_wp2
    exact bodyPost_ret (v := .tuple #[.int .i64 0, faultV r1 r2]) (by simp [results, Tryd.results37, go_sem, *]) rfl ⟨rfl, by
      repeat first | exact HW.out | apply Only.drew | (refine Only.setCell ?_ (.inr (Nat.le_refl _)) _) | apply Only.alloc⟩

set_option maxHeartbeats 3200000 in
theorem read_ok (w : World) (L : Lay) (s : St) (h : SpaceAt w L s) (a i : Nat) (hf : s.Fine) (hb : s.wrd a i = (0, 0)) (hin : a + i < 64 * s.n) :
    Calls Tryd.prog 37 #[.pointer (some ⟨L.sb, 0, none⟩), .int .i64 (a : Int), .int .i64 (i : Int)] w fun e w' => e = .returned (.tuple #[.int .i64 (s.W (a + i)), faultV 0 0]) ∧ Still w w' := by
  have hn2 := h.n2
  have HC := Lib.hid (fun o => word_any (w.alloc o) L s (h.alloc o) a i (wf_of (by omega)) hf)
  have HS := Lib.hid h
  have hlt := h.sblt
  have hwlt := h.words.lt
  rw [hb] at HC
  dsimp only at HC
  have hs0 : (0 : Int) ≤ (a : Int) + (i : Int) := by omega
  have hs1 : (a : Int) + (i : Int) < ((64 * s.n : Nat) : Int) := by omega
  have hs2 : (a : Int) + (i : Int) ≤ 9223372036854775807 := by omega
  have hww : IntKind.i64.wrap ((a : Int) + (i : Int)) = (a : Int) + (i : Int) := by rw [IntKind.wrap_i64]; omega
  have htn : ((a : Int) + (i : Int)).toNat = a + i := by omega
  obtain ⟨N, hN⟩ : ∃ N, 64 * s.n = N := ⟨_, rfl⟩
  have hcell : Hid (∀ w1, SpaceAt w1 L s → w1.cell? ⟨L.sb, 0, none⟩ = some (.slice (some ⟨L.wb, 0, none⟩) N N) ∧ w1.cell? ⟨L.wb, a + i, none⟩ = some (.int .i64 (s.W (a + i)))) := Lib.hid fun w1 h1 => ⟨by rw [← hN]; exact h1.c0, h1.words.cell _ hin⟩
  rw [hN] at hs1
  generalize s.W (a + i) = x at *
  clear h hf hb hin hN hn2
  go_enter Tryd.func37, Tryd.ntmps37
  go_wp2_with fail
  refine (HC.out _).mono ?_
  rintro e w1 ⟨rfl, hs⟩
  have hb := still_new hs
  have hlt1 := new_lt hs
  obtain ⟨hc0, hcw⟩ := hcell.out w1 ((HS.out.alloc _).still hs)
  have hl1 : L.sb < w1.heap.size := by omega
  have hl2 : L.wb < w1.heap.size := by omega
  have hz0 := cell_of (v := .int .i64 0) hb 0 rfl
  have hz1 := cell_of (v := .int .i64 0) hb 1 rfl
  have hf0 := frozen_of hb 0
  have hf1 := frozen_of hb 1
  have HW := Lib.hid (Still.trans ((Only.refl _ _ w).alloc _ : Still w _) hs)
  clear hb hs
  go_wp2
  go_region
  all_goals
    go_wp2
    exact bodyPost_ret (v := .tuple #[.int .i64 x, faultV 0 0]) (by simp [results, Tryd.results37, go_sem, *]) rfl ⟨rfl, by
      repeat first | exact HW.out | apply Only.drew | (refine Only.setCell ?_ (.inr (Nat.le_refl _)) _) | apply Only.alloc⟩

set_option maxHeartbeats 3200000 in
theorem write_bad (w : World) (L : Lay) (s : St) (h : SpaceAt w L s) (a i x : Int) (hwf : (Lit.int .i64 a).wf = true) (hf : s.Fine) (hb : (s.wrd a i).1 ≠ 0) :
    Calls Tryd.prog 47 #[.pointer (some ⟨L.sb, 0, none⟩), .int .i64 a, .int .i64 i, .int .i64 x] w fun e w' => e = .returned (faultV (s.wrd a i).1 (s.wrd a i).2) ∧ Still w w' := by
  have HC := Lib.hid (fun o => word_any (w.alloc o) L s (h.alloc o) a i hwf hf)
  have hlt := h.sblt
  obtain ⟨⟨r1, r2⟩, hr⟩ : ∃ r, s.wrd a i = r := ⟨_, rfl⟩
  rw [hr] at HC hb ⊢
  dsimp only at HC hb ⊢
  have hb0 : (r1 == 0) = false := by simpa using hb
  clear h hwf hf hr hb
  go_enter Tryd.func47, Tryd.ntmps47
  go_wp2_with fail
  refine (HC.out _).mono ?_
  rintro e w1 ⟨rfl, hs⟩
  have hb := still_new hs
  have hlt1 := new_lt hs
  have hz0 := cell_of (v := .int .i64 0) hb 0 rfl
  have hz1 := cell_of (v := .int .i64 0) hb 1 rfl
  have hf0 := frozen_of hb 0
  have hf1 := frozen_of hb 1
  have HW := Lib.hid (Still.trans ((Only.refl _ _ w).alloc _ : Still w _) hs)
  clear hb hs
  go_wp2
  exact bodyPost_ret (v := faultV r1 r2) (by simp [results, Tryd.results47, go_sem, *]) rfl ⟨rfl, by
      repeat first | exact HW.out | apply Only.drew | (refine Only.setCell ?_ (.inr (Nat.le_refl _)) _) | apply Only.alloc⟩

set_option maxHeartbeats 3200000 in
theorem write_ok (w : World) (L : Lay) (s : St) (h : SpaceAt w L s) (a i : Nat) (x : Int) (hf : s.Fine) (hb : s.wrd a i = (0, 0)) (hin : a + i < 64 * s.n) (Q : Ending → World → Prop)
    (hQ : ∀ w', SpaceAt w' L { s with W := setW s.W (a + i) x } → Only L.lo L.hi w w' → Q (.returned (faultV 0 0)) w') :
    Calls Tryd.prog 47 #[.pointer (some ⟨L.sb, 0, none⟩), .int .i64 (a : Int), .int .i64 (i : Int), .int .i64 x] w Q := by
  have hn2 := h.n2
  have HC := Lib.hid (fun o => word_any (w.alloc o) L s (h.alloc o) a i (wf_of (by omega)) hf)
  have HS := Lib.hid h
  have HQ := Lib.hid hQ
  have hlt := h.sblt
  have hwlt := h.words.lt
  rw [hb] at HC
  dsimp only at HC
  have hs0 : (0 : Int) ≤ (a : Int) + (i : Int) := by omega
  have hs1 : (a : Int) + (i : Int) < ((64 * s.n : Nat) : Int) := by omega
  have hs2 : (a : Int) + (i : Int) ≤ 9223372036854775807 := by omega
  obtain ⟨N, hN⟩ : ∃ N, 64 * s.n = N := ⟨_, rfl⟩
  have hcell : Hid (∀ w1, SpaceAt w1 L s → w1.cell? ⟨L.sb, 0, none⟩ = some (.slice (some ⟨L.wb, 0, none⟩) N N) ∧ w1.cell? ⟨L.wb, a + i, none⟩ = some (.int .i64 (s.W (a + i))) ∧ w1.frozen? ⟨L.wb, a + i, none⟩ = false) := Lib.hid fun w1 h1 => ⟨by rw [← hN]; exact h1.c0, h1.words.cell _ hin, h1.words.frozen _⟩
  rw [hN] at hs1
  obtain ⟨y, hy⟩ : ∃ y, s.W (a + i) = y := ⟨_, rfl⟩
  rw [hy] at hcell
  clear h hf hb hin hN hn2 hy hQ
  go_enter Tryd.func47, Tryd.ntmps47
  go_wp2_with fail
  refine (HC.out _).mono ?_
  rintro e w1 ⟨rfl, hs⟩
  have hb := still_new hs
  have hlt1 := new_lt hs
  have HS1 := Lib.hid ((HS.out.alloc _).still hs)
  obtain ⟨hc0, hcw, hfw⟩ := hcell.out w1 HS1.out
  have hl1 : L.sb < w1.heap.size := by omega
  have hl2 : L.wb < w1.heap.size := by omega
  have hz0 := cell_of (v := .int .i64 0) hb 0 rfl
  have hz1 := cell_of (v := .int .i64 0) hb 1 rfl
  have hf0 := frozen_of hb 0
  have hf1 := frozen_of hb 1
  have HW := Lib.hid (Still.trans ((Only.refl _ _ w).alloc _ : Still w _) hs)
  clear hb hs
  go_wp2
  have htop : L.hi ≤ w.heap.size := HS.out.top
  refine bodyPost_ret (v := faultV 0 0) (by simp [results, Tryd.results47, go_sem, *]) rfl (HQ.out _ ((((HS1.out.setWord (a + i) x).setNew htop 0 _).setNew htop 1 _).alloc _) ?_)
  refine ((((?_ : Only L.lo L.hi w _).setCell (p := ⟨w.heap.size, 0, none⟩) (.inr (Nat.le_refl _)) _).setCell (p := ⟨w.heap.size, 1, none⟩) (.inr (Nat.le_refl _)) _).alloc _)
  exact (HW.out.any L.lo L.hi).trans (HS.out.only 1 (by omega) (only_cell w1 L.wb (a + i) (.int .i64 x)))
end Go.Proofs.YtiniadochjeieaaDoor
