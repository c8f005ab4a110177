/-
  The walk of hearthref8.NextFree.
-/
import Derived.Test.YtfbcdmhmpfijjaaGreatDoorQFA
namespace Go.Proofs.YtfbcdmhmpfijjaaGreatDoor
open Go Go.RowKit

/-- What the document's own calls lean on: the free blocks, the pages, the objects. -/
structure St.RefOk (s : St) : Prop where
  free : s.FreeOk
  page : ∀ p, p < s.n → ∀ c : Nat, (s.P p).k = 1 → (s.P p).c = (c : Int) → s.P p = ⟨1, c, 0⟩
  fine : ∀ a : Nat, s.B 0 a = true → s.FineAt a ∧ s.Fit (s.sh a).z a
theorem St.InvX.refOk {s : St} (h : s.Inv) : s.RefOk := by
  refine ⟨h.freeOk, fun p hp c h1 h2 => ?_, h.obj⟩
  rcases h.pages p hp with e | ⟨c', _, e⟩ | ⟨q, r, ⟨_, _, e, e2⟩, h3, h4⟩
  · rw [e] at h1; cases h1
  · rw [e] at h2 ⊢
    dsimp only at h2
    rw [h2]
  · by_cases hq : p = q
    · rw [hq, e] at h1; cases h1
    · rw [e2 p (by omega) (by omega)] at h1; cases h1
set_option maxHeartbeats 3200000 in
theorem rnext_any (w : World) (R : RLay) (s : St) (h : RefAt w R s) (hs : s.RefOk) (c : Nat) (hc : c < 8) (f : Nat) (hf : f ≤ 64 * s.n) :
    Calls Tryz.prog 81 #[.pointer (some ⟨R.rb, 0, none⟩), .int .i64 (c : Int), .int .i64 (f : Int)] w fun e w' => e = .returned (.int .i64 (Bm.next (s.B (c + 1)) (64 * s.n) f)) ∧ Still w w' := by
  have HR := Lib.hid (fun W (hw : Still w W) => h.still hw)
  have HS := Lib.hid hs
  have HB := Lib.hid (fun W => rblocks_any c hc W)
  have HT := Lib.hid (fun i hi W => rstart_any c hc i hi W)
  have hn1 := h.n1
  have hn2 := h.n2
  have hbl := (Sp.cw_le c hc).2.2
  have HW2 := Lib.hid (Sp.cw_le c hc).1
  have HCW := Lib.hid (fun i hi => Sp.cw_in c hc i hi)
  have hc0 : (0 : Int) ≤ (c : Int) := by omega
  have hf0 : (0 : Int) ≤ (f : Int) := by omega
  have hfI : (f : Int) ≤ 262144 := by omega
  obtain ⟨q, hq⟩ : ∃ q, f / 64 = q := ⟨_, rfl⟩
  have htd : (f : Int).tdiv 64 = (q : Int) := by rw [Int.tdiv_eq_ediv_of_nonneg (by omega), ← hq]; rfl
  obtain ⟨b, hb⟩ : ∃ b, Sp.bk c = b := ⟨_, rfl⟩
  rw [hb] at HB HT hbl HCW
  have hbI : (b : Int) ≤ 32 := by omega
  have HFB := Lib.hid (And.intro hb hq)
  clear h hs hb
  go_enter Tryz.func81, Tryz.ntmps81
  go_wp2_with fail
  go_loopw [7] (fun y W => ∃ p : Nat, y = .int .i64 (p : Int) ∧ f / 64 ≤ p ∧ p ≤ s.n ∧ (∀ x, f ≤ x → x < 64 * p → s.B (c + 1) x = false) ∧ Still w W) (fun y _ => s.n + 1 - (intOf y).toNat)
  case atStart => exact ⟨q, rfl, by omega, by omega, fun x h1 h2 => by omega, Only.refl _ _ _⟩
  case round =>
    obtain ⟨p, rfl, hp1, hp2, hno, hst⟩ := hrel
    have hp0 : (0 : Int) ≤ (p : Int) := by omega
    have HNO := Lib.hid hno
    have HST := Lib.hid hst
    have hr := HR.out _ hst
    have c1 := hr.c1
    have t0 := hr.t0
    obtain ⟨l1, l2, l3, l4, l5⟩ := hr.lts
    by_cases hpn : p < s.n
    · have hpI : (p : Int) < (s.n : Int) := by omega
      have hpM : (p : Int) < 4096 := by omega
      have p0 := hr.pages.cell hpn (d := 0) (by omega)
      have p1 := hr.pages.cell hpn (d := 1) (by omega)
      rw [Nat.add_zero] at p0
      change _ = some (Value.int IntKind.i64 (s.P p).k) at p0
      change _ = some (Value.int IntKind.i64 (s.P p).c) at p1
      by_cases hpc : (s.P p).k = 1 ∧ (s.P p).c = (c : Int)
      · obtain ⟨e1, e2⟩ := hpc
        have HP := Lib.hid (HS.out.page p hpn c e1 e2)
        rw [e1] at p0
        rw [e2] at p1
        clear hno hst hr e1 e2
        go_wp2_with fail
        go_loopw [8] (fun y W => ∃ i : Nat, y = .int .i64 (i : Int) ∧ i ≤ b ∧ (∀ x, f ≤ x → x < 64 * p + i * Sp.cw c → s.B (c + 1) x = false) ∧ Still w W) (fun y _ => b + 1 - (intOf y).toNat)
        case atStart => exact ⟨0, rfl, Nat.zero_le _, fun x h1 h2 => HNO.out x h1 (by omega), HST.out⟩
        case round =>
          obtain ⟨i, rfl, hi, hno, hst⟩ := hrel
          have hi0 : (0 : Int) ≤ (i : Int) := by omega
          have HN2 := Lib.hid hno
          have HS2 := Lib.hid hst
          clear hno hst c1 t0 p0 p1 l1 l2 l3 l4 l5
          go_wp2_with fail
          refine (HB.out _).mono ?_
          rintro e w1 ⟨rfl, rfl⟩
          by_cases hib : i < b
          · have hibI : (i : Int) < (b : Int) := by omega
            have hin := HCW.out i hib
            obtain ⟨a, ha⟩ : ∃ a, 64 * p + i * Sp.cw c = a := ⟨_, rfl⟩
            have HA := Lib.hid ha
            have haI : (p : Int) * 64 + ((i * Sp.cw c : Nat) : Int) = (a : Int) := by omega
            have ha1 : a < 64 * s.n := by have := HW2.out; omega
            have haN : (a : Int) < 64 * (s.n : Int) := by omega
            have haM : (a : Int) < ((64 * s.n : Nat) : Int) := by omega
            have ha0 : (0 : Int) ≤ (a : Int) := by omega
            obtain ⟨I, hI⟩ : ∃ I, i * Sp.cw c = I := ⟨_, rfl⟩
            have HTT : Hid (∀ W, Calls Tryz.prog 120 #[.int .i64 (c : Int), .int .i64 (i : Int)] W fun e w' => e = .returned (.int .i64 (I : Int)) ∧ W = w') := Lib.hid fun W => by have := HT.out i hib W; rwa [hI] at this
            rw [hI] at haI
            have hIM : (I : Int) ≤ 64 := by omega
            have hI0 : (0 : Int) ≤ (I : Int) := by omega
            have hr := HR.out _ HS2.out
            have c2 := hr.c2
            obtain ⟨l1, l2, l3, l4, l5⟩ := hr.lts
            have o1 := hr.objs.cell ha1 (d := 1) (by omega)
            have HBK : Hid (s.Blk c a) := Lib.hid ⟨p, i, hpn, by rw [HFB.out.1]; exact hib, by rw [← ha]; omega, HP.out⟩
            have HNX : Hid (s.B (c + 1) a = false ∨ a < f → ∀ x, f ≤ x → x < 64 * p + (i + 1) * Sp.cw c → s.B (c + 1) x = false) := Lib.hid fun hh x h1 h2 => by
              by_cases e : x < a
              · exact HN2.out x h1 (by rw [HA.out]; exact e)
              · by_cases e2 : x = a
                · rcases hh with hh | hh
                  · rw [e2]; exact hh
                  · omega
                · cases hbx : s.B (c + 1) x with
                  | false => rfl
                  | true => exact (((HS.out.free c hc x).1 hbx).1.between hc (p := p) (i := i) (by rw [HA.out]; omega) h2 (by rw [HFB.out.1]; exact hib)).elim
            clear hI ha hr
            by_cases haf : f ≤ a
            · have hafI : (f : Int) ≤ (a : Int) := by omega
              cases hb0 : s.B 0 a with
              | true =>
                have hk := (HS.out.fine a hb0).1.2.2.1
                have e : s.ro a 1 = (s.sh a).k := by unfold St.ro; rw [hb0]; rfl
                rw [e] at o1
                have hkn : ((s.sh a).k == 0) = false := by simp; omega
                have HF2 : Hid (s.B (c + 1) a = false) := Lib.hid (by
                  cases hbx : s.B (c + 1) a with
                  | false => rfl
                  | true => have := ((HS.out.free c hc a).1 hbx).2; rw [hb0] at this; cases this)
                generalize (s.sh a).k = kd at *
                clear e hk
                go_wp2_with fail
                refine (HTT.out _).mono ?_
                rintro e w1 ⟨rfl, rfl⟩
                go_wp2_with fail
                exact ⟨⟨i + 1, by go_num, hib, HNX.out (.inl HF2.out), HS2.out⟩, by simp [intOf]; omega⟩
              | false =>
                have e : s.ro a 1 = 0 := by unfold St.ro; rw [hb0]; rfl
                rw [e] at o1
                have hbt : s.B (c + 1) a = true := (HS.out.free c hc a).2 ⟨HBK.out, hb0⟩
                have hres : Bm.next (s.B (c + 1)) (64 * s.n) (f : Int) = (a : Int) := Bm.next_eq hafI ha1 hbt fun j h1 h2 => HN2.out j (by omega) (by rw [HA.out]; exact h2)
                have HRES := Lib.hid hres
                clear e hres hbt
                go_wp2_with fail
                refine (HTT.out _).mono ?_
                rintro e w1 ⟨rfl, rfl⟩
                go_wp2_with fail
                go_ret
                exact ⟨by rw [HRES.out]; rfl, HS2.out⟩
            · have hafI : (a : Int) < (f : Int) := by omega
              generalize s.ro a 1 = kd at *
              go_wp2_with fail
              refine (HTT.out _).mono ?_
              rintro e w1 ⟨rfl, rfl⟩
              go_wp2_with fail
              exact ⟨⟨i + 1, by go_num, hib, HNX.out (.inr (by omega)), HS2.out⟩, by simp [intOf]; omega⟩
          · obtain rfl : i = b := by omega
            have HNX : Hid (∀ x, f ≤ x → x < 64 * (p + 1) → s.B (c + 1) x = false) := Lib.hid fun x h1 h2 => by
              by_cases e : x < 64 * p + i * Sp.cw c
              · exact HN2.out x h1 e
              · cases hbx : s.B (c + 1) x with
                | false => rfl
                | true => exact (((HS.out.free c hc x).1 hbx).1.behind hc (p := p) (by rw [HFB.out.1]; omega) (by omega)).elim
            go_wp2_with fail
            exact ⟨⟨p + 1, by go_num, by omega, hpn, HNX.out, HS2.out⟩, by simp [intOf]; omega⟩
      · have HNX : Hid (∀ x, f ≤ x → x < 64 * (p + 1) → s.B (c + 1) x = false) := Lib.hid fun x h1 h2 => by
          by_cases e : x < 64 * p
          · exact HNO.out x h1 e
          · cases hbx : s.B (c + 1) x with
            | false => rfl
            | true =>
              have := ((HS.out.free c hc x).1 hbx).1.page hc (p := p) (by omega) (by omega)
              exact (hpc (by rw [this]; exact ⟨rfl, rfl⟩)).elim
        by_cases hk1 : (s.P p).k = 1
        · have hcn : ((s.P p).c != (c : Int)) = true := by simpa using fun e => hpc ⟨hk1, e⟩
          rw [hk1] at p0
          generalize (s.P p).c = cc at *
          clear hno hst hr hpc hk1
          go_wp2_with fail
          exact ⟨⟨p + 1, by go_num, by omega, hpn, HNX.out, HST.out⟩, by simp [intOf]; omega⟩
        · have hkn : ((s.P p).k != 1) = true := by simpa using hk1
          generalize (s.P p).c = cc at *
          generalize (s.P p).k = kk at *
          clear hno hst hr hpc hk1
          go_wp2_with fail
          exact ⟨⟨p + 1, by go_num, by omega, hpn, HNX.out, HST.out⟩, by simp [intOf]; omega⟩
    · obtain rfl : p = s.n := by omega
      have hres : Bm.next (s.B (c + 1)) (64 * s.n) (f : Int) = -1 := Bm.next_none fun j h1 h2 => HNO.out j (by omega) h2
      have HRES := Lib.hid hres
      clear hno hst hr hres
      go_wp2_with fail
      go_ret
      exact ⟨by rw [HRES.out]; rfl, HST.out⟩
end Go.Proofs.YtfbcdmhmpfijjaaGreatDoor

namespace Go.Proofs.YtfbcdmhmpfijjaaGreatDoor
open Go Go.RowKit

theorem rlink_any (n : Int) (w : World) (h1 : -1 ≤ n) (h2 : n < 262144) : Calls Tryz.prog 82 #[.int .i64 n] w fun e w' => e = .returned (.int .i64 (Sp.lnk n)) ∧ w = w' := by
  have hr : Sp.lnk n = n * 8 + 4 := by unfold Sp.lnk; rw [if_neg (by omega)]
  rw [hr]; clear hr
  go_enter Tryz.func82, Tryz.ntmps82
  go_wp2_with fail
  go_ret
  exact ⟨rfl, rfl⟩
theorem St.RefOk.lt {s : St} (hs : s.RefOk) {a : Nat} (h : s.B 0 a = true) : a < 64 * s.n := by
  have := (hs.fine a h).1.2.1
  omega
set_option maxRecDepth 100000 in
set_option maxHeartbeats 1600000 in
theorem rblock_no (w : World) (R : RLay) (s : St) (h : RefAt w R s) (a : Int) (hb : s.has a = false) :
    Calls Tryz.prog 54 #[.pointer (some ⟨R.rb, 0, none⟩), .int .i64 a] w fun e w' => e = .returned (.tuple #[block0, .bool false]) ∧ Still w w' := by
  have c2 := h.c2
  obtain ⟨l1, l2, l3, l4, l5⟩ := h.lts
  by_cases ha : a < 0
  · clear h hb
    go_enter Tryz.func54, Tryz.ntmps54
    go_wp2_with fail
    exact bodyPost_ret (v := .tuple #[block0, .bool false]) (by simp [results, Tryz.results54, go_sem]) rfl ⟨rfl, (Only.refl _ _ w).alloc _⟩
  · obtain ⟨m, rfl⟩ := Int.eq_ofNat_of_zero_le (show 0 ≤ a by omega)
    have hm0 : (0 : Int) ≤ (m : Int) := by omega
    by_cases hm : m < 64 * s.n
    · have hb0 : s.B 0 m = false := by
        unfold St.has at hb
        rw [decide_eq_true hm0, Bool.true_and, Int.toNat_natCast] at hb
        exact hb
      have o1 := h.objs.cell hm (d := 1) (by omega)
      have e : s.ro m 1 = 0 := by unfold St.ro; rw [hb0]; rfl
      rw [e] at o1
      obtain ⟨N, hN⟩ : ∃ N, 64 * s.n = N := ⟨_, rfl⟩
      rw [hN] at hm c2
      have hmI : (m : Int) < (N : Int) := by omega
      have hn2 := h.n2
      have hNM : (N : Int) ≤ 262144 := by omega
      clear h hb hb0 e ha hN hn2
      go_enter Tryz.func54, Tryz.ntmps54
      go_wp2_with fail
      exact bodyPost_ret (v := .tuple #[block0, .bool false]) (by simp [results, Tryz.results54, go_sem]) rfl ⟨rfl, (Only.refl _ _ w).alloc _⟩
    · obtain ⟨N, hN⟩ : ∃ N, 64 * s.n = N := ⟨_, rfl⟩
      rw [hN] at hm c2
      have hmI : (N : Int) ≤ (m : Int) := by omega
      clear h hb ha hN
      go_enter Tryz.func54, Tryz.ntmps54
      go_wp2_with fail
      exact bodyPost_ret (v := .tuple #[block0, .bool false]) (by simp [results, Tryz.results54, go_sem]) rfl ⟨rfl, (Only.refl _ _ w).alloc _⟩
set_option maxRecDepth 100000 in
set_option maxHeartbeats 1600000 in
theorem rblock_yes (w : World) (R : RLay) (s : St) (h : RefAt w R s) (hs : s.RefOk) (m : Nat) (hb : s.B 0 m = true) :
    Calls Tryz.prog 54 #[.pointer (some ⟨R.rb, 0, none⟩), .int .i64 (m : Int)] w fun e w' => e = .returned (.tuple #[blockV m (s.sh m), .bool true]) ∧ Still w w' := by
  have c2 := h.c2
  obtain ⟨l1, l2, l3, l4, l5⟩ := h.lts
  have hm := hs.lt hb
  have hk := (hs.fine m hb).1.2.2.1
  have o0 := h.objs.cell hm (d := 0) (by omega)
  have o1 := h.objs.cell hm (d := 1) (by omega)
  have o2 := h.objs.cell hm (d := 2) (by omega)
  have o3 := h.objs.cell hm (d := 3) (by omega)
  have o4 := h.objs.cell hm (d := 4) (by omega)
  have e : ∀ d, s.ro m d = if d = 0 then (m : Int) else if d = 1 then (s.sh m).k else if d = 2 then (s.sh m).z else if d = 3 then (s.sh m).s else (s.sh m).t := fun d => by unfold St.ro; rw [if_pos hb]
  rw [e, Nat.add_zero] at o0
  rw [e] at o1 o2 o3 o4
  change _ = some (Value.int IntKind.i64 (m : Int)) at o0
  change _ = some (Value.int IntKind.i64 (s.sh m).k) at o1
  change _ = some (Value.int IntKind.i64 (s.sh m).z) at o2
  change _ = some (Value.int IntKind.i64 (s.sh m).s) at o3
  change _ = some (Value.int IntKind.i64 (s.sh m).t) at o4
  obtain ⟨⟨k, z, r, t⟩, hx⟩ : ∃ x, s.sh m = x := ⟨_, rfl⟩
  rw [hx] at hk o1 o2 o3 o4 ⊢
  dsimp only at hk o1 o2 o3 o4
  have hkn : (k == 0) = false := by simp; omega
  have hm0 : (0 : Int) ≤ (m : Int) := by omega
  obtain ⟨N, hN⟩ : ∃ N, 64 * s.n = N := ⟨_, rfl⟩
  rw [hN] at hm c2
  have hmI : (m : Int) < (N : Int) := by omega
  have hn2 := h.n2
  have hNM : (N : Int) ≤ 262144 := by omega
  clear h hs hb e hx hN hn2
  go_enter Tryz.func54, Tryz.ntmps54
  go_wp2_with fail
  exact bodyPost_ret (v := .tuple #[blockV m ⟨k, z, r, t⟩, .bool true]) (by simp [results, Tryz.results54, go_sem]) rfl ⟨rfl, by
    repeat first | exact Only.refl _ _ _ | (refine Only.setCell ?_ (.inr (Nat.le_refl _)) _) | apply Only.alloc⟩
set_option maxRecDepth 100000 in
set_option maxHeartbeats 3200000 in
theorem rcheck_any (w : World) (R : RLay) (s : St) (h : RefAt w R s) (hs : s.RefOk) (a : Int) :
    Calls Tryz.prog 59 #[.pointer (some ⟨R.rb, 0, none⟩), .int .i64 a] w fun e w' => e = .returned (faultV (s.chk a).1 (s.chk a).2) ∧ Still w w' := by
  cases hh : s.has a with
  | false =>
    have hc : s.chk a = (22, 0) := by unfold St.chk; rw [hh]; rfl
    rw [hc]
    have HB := Lib.hid (rblock_no (w.alloc (.cells #[.int .i64 0, .int .i64 0] 100)) R s (h.alloc _) a hh)
    clear hh hc
    have hlt := h.lts.1
    go_enter Tryz.func59, Tryz.ntmps59
    go_wp2_with fail
    refine HB.out.mono ?_
    rintro e w1 ⟨rfl, hst⟩
    have hb := still_new hst
    have hl1 := new_lt hst
    have hf0 := frozen_of hb 0
    have hf1 := frozen_of hb 1
    have hz0 := cell_of (v := .int .i64 0) hb 0 rfl
    have hz1 := cell_of (v := .int .i64 0) hb 1 rfl
    have HW := Lib.hid (Still.trans ((Only.refl _ _ w).alloc _ : Still w _) hst)
    clear hst hb
    go_wp2_with fail
    exact bodyPost_ret (v := faultV 22 0) (by simp [results, Tryz.results59, go_sem, *]) rfl ⟨rfl, by
      repeat first | exact HW.out | (refine Only.setCell ?_ (.inr (Nat.le_refl _)) _) | apply Only.alloc⟩
  | true =>
    have hh2 := hh
    unfold St.has at hh2
    rw [Bool.and_eq_true, decide_eq_true_eq] at hh2
    obtain ⟨h0, hb0⟩ := hh2
    obtain ⟨m, rfl⟩ := Int.eq_ofNat_of_zero_le h0
    rw [Int.toNat_natCast] at hb0
    have hm := hs.lt hb0
    obtain ⟨f1, f2, f3, f4, f5, f6⟩ := (hs.fine m hb0).1
    have hc : s.chk (m : Int) = if s.W m = s.hd m then (0, 0) else (21, (m : Int)) := by unfold St.chk; rw [hh, if_pos rfl, Int.toNat_natCast]
    rw [hc]
    have HB := Lib.hid (rblock_yes (w.alloc (.cells #[.int .i64 0, .int .i64 0] 100)) R s (h.alloc _) hs m hb0)
    have hlt := h.lts.1
    have hn2 := h.n2
    have HWC : Hid (∀ W, Still w W → W.cell? ⟨R.rb, 0, none⟩ = some (.slice (some ⟨R.wb, 0, none⟩) (64 * s.n) R.cw) ∧ W.cell? ⟨R.wb, m, none⟩ = some (.int .i64 (s.W m)) ∧ R.rb < W.heap.size ∧ R.wb < W.heap.size) := Lib.hid fun W hw =>
      ⟨(h.still hw).c0, (h.still hw).word hm, (h.still hw).lts.1, (h.still hw).lts.2.2.1⟩
    unfold St.hd
    obtain ⟨⟨k, z, r, t⟩, hx⟩ : ∃ x, s.sh m = x := ⟨_, rfl⟩
    rw [hx] at f3 f4 f5 f6 HB ⊢
    dsimp only at f3 f4 f5 f6 ⊢
    obtain ⟨kn, rfl⟩ := Int.eq_ofNat_of_zero_le (show 0 ≤ k by omega)
    obtain ⟨zn, rfl⟩ := Int.eq_ofNat_of_zero_le (show 0 ≤ z by omega)
    have HMK := Lib.hid (fun w => rmake_any m kn zn (by omega) (by omega) (by omega) (by omega) (by omega) w)
    generalize Sp.hdr m kn zn = hv at *
    generalize s.W m = wa at *
    obtain ⟨N, hN⟩ : ∃ N, 64 * s.n = N := ⟨_, rfl⟩
    rw [hN] at hm HWC
    have hmI : (m : Int) < (N : Int) := by omega
    have hm0 : (0 : Int) ≤ (m : Int) := by omega
    have hNM : (N : Int) ≤ 262144 := by omega
    clear hh h0 hb0 hx hc hN hn2 h f1 f2
    by_cases he : wa = hv
    · subst he
      rw [if_pos rfl]
      go_enter Tryz.func59, Tryz.ntmps59
      go_wp2_with fail
      refine HB.out.mono ?_
      rintro e w1 ⟨rfl, hst⟩
      have hb := still_new hst
      have hl1 := new_lt hst
      have hf0 := frozen_of hb 0
      have hf1 := frozen_of hb 1
      have hz0 := cell_of (v := .int .i64 0) hb 0 rfl
      have hz1 := cell_of (v := .int .i64 0) hb 1 rfl
      have HW := Lib.hid (Still.trans ((Only.refl _ _ w).alloc _ : Still w _) hst)
      obtain ⟨x1, x2, x3, x4⟩ := HWC.out w1 HW.out
      clear hst hb HWC
      go_wp2_with fail
      go_quiet (((go_at_call 106; exact quiet_eq (HMK.out _))))
      go_wp2_with fail
      exact bodyPost_ret (v := faultV 0 0) (by simp [results, Tryz.results59, go_sem, *]) rfl ⟨rfl, by
        repeat first | exact HW.out | (refine Only.setCell ?_ (.inr (Nat.le_refl _)) _) | apply Only.alloc | apply Only.drewN⟩
    · rw [if_neg he]
      have hbn : (wa == hv) = false := beq_eq_false_iff_ne.2 he
      have hbn2 : (wa != hv) = true := by simp [bne, hbn]
      clear he
      go_enter Tryz.func59, Tryz.ntmps59
      go_wp2_with fail
      refine HB.out.mono ?_
      rintro e w1 ⟨rfl, hst⟩
      have hb := still_new hst
      have hl1 := new_lt hst
      have hf0 := frozen_of hb 0
      have hf1 := frozen_of hb 1
      have hz0 := cell_of (v := .int .i64 0) hb 0 rfl
      have hz1 := cell_of (v := .int .i64 0) hb 1 rfl
      have HW := Lib.hid (Still.trans ((Only.refl _ _ w).alloc _ : Still w _) hst)
      obtain ⟨x1, x2, x3, x4⟩ := HWC.out w1 HW.out
      clear hst hb HWC
      go_wp2_with fail
      go_quiet (((go_at_call 106; exact quiet_eq (HMK.out _))))
      go_wp2_with fail
      exact bodyPost_ret (v := faultV 21 m) (by simp [results, Tryz.results59, go_sem, *]) rfl ⟨rfl, by
        repeat first | exact HW.out | (refine Only.setCell ?_ (.inr (Nat.le_refl _)) _) | apply Only.alloc | apply Only.drewN⟩
end Go.Proofs.YtfbcdmhmpfijjaaGreatDoor
