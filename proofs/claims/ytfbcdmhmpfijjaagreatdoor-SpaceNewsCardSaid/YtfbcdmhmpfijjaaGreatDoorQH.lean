/-
  The walk of space.cut.
-/
import Derived.Test.YtfbcdmhmpfijjaaGreatDoorQG
namespace Go.Proofs.YtfbcdmhmpfijjaaGreatDoor
open Go Go.RowKit

/-- How many blocks of a class a page has. -/
def Sp.bk (c : Nat) : Nat := 64 / Sp.cw c
theorem Sp.cw_8 (c : Nat) (hc : c < 8) : Sp.cw c = 2 ∧ Sp.bk c = 32 ∨ Sp.cw c = 4 ∧ Sp.bk c = 16 ∨ Sp.cw c = 6 ∧ Sp.bk c = 10 ∨ Sp.cw c = 8 ∧ Sp.bk c = 8 ∨ Sp.cw c = 12 ∧ Sp.bk c = 5 ∨ Sp.cw c = 16 ∧ Sp.bk c = 4 ∨ Sp.cw c = 20 ∧ Sp.bk c = 3 ∨ Sp.cw c = 32 ∧ Sp.bk c = 2 := by
  have hc' : c = 0 ∨ c = 1 ∨ c = 2 ∨ c = 3 ∨ c = 4 ∨ c = 5 ∨ c = 6 ∨ c = 7 := by omega
  rcases hc' with rfl | rfl | rfl | rfl | rfl | rfl | rfl | rfl <;> decide
theorem Sp.cw_le (c : Nat) (hc : c < 8) : 2 ≤ Sp.cw c ∧ Sp.cw c ≤ 32 ∧ 1 ≤ Sp.bk c ∧ Sp.bk c ≤ 32 := by
  have := Sp.cw_8 c hc; omega
theorem Sp.cw_in (c : Nat) (hc : c < 8) (i : Nat) (hi : i < Sp.bk c) : i * Sp.cw c + Sp.cw c ≤ 64 := by
  have := Sp.cw_8 c hc
  rcases this with ⟨h1, h2⟩ | ⟨h1, h2⟩ | ⟨h1, h2⟩ | ⟨h1, h2⟩ | ⟨h1, h2⟩ | ⟨h1, h2⟩ | ⟨h1, h2⟩ | ⟨h1, h2⟩ <;> rw [h1] <;> omega
theorem Sp.bks_nat (c : Nat) (hc : c < 8) : Sp.bks (c : Int) = (Sp.bk c : Int) := by
  unfold Sp.bks Sp.bk; rw [if_pos (by omega)]; rfl
theorem Sp.cww_nat (c : Nat) (hc : c < 8) : Sp.cww (c : Int) = (Sp.cw c : Int) := by
  unfold Sp.cww; rw [if_pos (by omega)]; rfl

/-- One number is put in or taken out. -/
def setS (S : Nat → Bool) (a : Nat) (b : Bool) : Nat → Bool := fun i => if i = a then b else S i
theorem rangeS_one (S : Nat → Bool) (a : Nat) (b : Bool) : rangeS S (a : Int) ((a : Int) + 1) b = setS S a b := by
  funext i
  unfold rangeS setS
  by_cases h : i = a
  · rw [if_pos (by omega), if_pos h]
  · rw [if_neg (by omega), if_neg h]
def St.setB (s : St) (j : Nat) (S : Nat → Bool) : St := { s with B := fun k => if k = j then S else s.B k }
def St.setWs (s : St) (W : Nat → Int) : St := { s with W := W }
theorem SpaceAt.set {w : World} {L : Lay} {s : St} (h : SpaceAt w L s) (j : Nat) (hj : j < 9) (a : Nat) (ha : a < 64 * s.n) :
    Calls Tryz.prog 52 #[.pointer (some (L.m j)), .int .i64 (a : Int)] w fun e w' => e = .returned (.int .i64 0) ∧ SpaceAt w' L (s.setB j (setS (s.B j) a true)) ∧ Only L.lo L.hi w w' := by
  refine (set_yes _ _ _ _ _ (a : Int) w (h.maps j hj) (by omega) (by omega)).mono ?_
  rintro e w' ⟨rfl, hm, ho⟩
  rw [rangeS_one] at hm
  exact ⟨rfl, h.updB j hj ho hm, h.only (j + 5) (by omega) ho⟩
theorem SpaceAt.clear {w : World} {L : Lay} {s : St} (h : SpaceAt w L s) (j : Nat) (hj : j < 9) (a : Nat) (ha : a < 64 * s.n) :
    Calls Tryz.prog 99 #[.pointer (some (L.m j)), .int .i64 (a : Int)] w fun e w' => e = .returned (.int .i64 0) ∧ SpaceAt w' L (s.setB j (setS (s.B j) a false)) ∧ Only L.lo L.hi w w' := by
  refine (clear_yes _ _ _ _ _ (a : Int) w (h.maps j hj) (by omega) (by omega)).mono ?_
  rintro e w' ⟨rfl, hm, ho⟩
  rw [rangeS_one] at hm
  exact ⟨rfl, h.updB j hj ho hm, h.only (j + 5) (by omega) ho⟩

/-- The free blocks behind k of them have been cut. -/
def cutB (S : Nat → Bool) (f w : Nat) : Nat → (Nat → Bool)
  | 0 => S
  | k + 1 => setS (cutB S f w k) (f + k * w) true
/-- The words behind k links have been written. -/
def cutW (W : Nat → Int) (lk : Nat → Int) (f w : Nat) : Nat → (Nat → Int)
  | 0 => W
  | k + 1 => setW (cutW W lk f w k) (f + k * w) (lk (f + k * w))
def St.cut1 (s : St) (page c k : Nat) : St := (s.setWs (clrW s.W (page * 64) 64)).setB (c + 1) (cutB (s.B (c + 1)) (page * 64) (Sp.cw c) k)
def St.cut2 (s : St) (page c k : Nat) : St := (s.cut1 page c (Sp.bk c)).setWs (cutW (clrW s.W (page * 64) 64) (fun a => (s.cut1 page c (Sp.bk c)).link c a) (page * 64) (Sp.cw c) k)
def St.cut (s : St) (page c : Nat) : St := s.cut2 page c (Sp.bk c)
theorem St.cut1_zero (s : St) (page c : Nat) : s.cut1 page c 0 = s.setWs (clrW s.W (page * 64) 64) := by
  unfold St.cut1 St.setB cutB St.setWs
  congr 1
  funext k
  split
  · next h => subst h; rfl
  · rfl
theorem St.setB_setB (s : St) (j : Nat) (S T : Nat → Bool) : (s.setB j S).setB j T = s.setB j T := by
  unfold St.setB
  congr 1
  funext k
  dsimp only
  split <;> rfl
theorem St.setB_at (s : St) (j : Nat) (S : Nat → Bool) : (s.setB j S).B j = S := by unfold St.setB; simp
theorem St.cut1_succ (s : St) (page c k : Nat) : (s.cut1 page c k).setB (c + 1) (setS ((s.cut1 page c k).B (c + 1)) (page * 64 + k * Sp.cw c) true) = s.cut1 page c (k + 1) := by
  unfold St.cut1
  rw [St.setB_setB, St.setB_at]
  rfl
theorem t_lt {page a x N t : Nat} (h1 : page * 64 + 64 ≤ N) (h2 : a + x ≤ 64) (h3 : 2 ≤ x) (h4 : page * 64 + a = t) : t < N := by omega
theorem t_sum {page a t : Nat} (h1 : page ≤ 4096) (h2 : a ≤ 64) (h4 : page * 64 + a = t) : IntKind.i64.wrap ((page : Int) * 64 + (a : Int)) = (t : Int) ∧ wrap64 ((page : Int) * 64 + (a : Int)) = (t : Int) := by
  subst h4
  refine ⟨?_, ?_⟩
  · rw [IntKind.wrap_i64]; omega
  · rw [IntWalk.wrap64_in _ (by omega)]; omega
theorem t_sum3 {page a t : Nat} (h4 : page * 64 + a = t) : (page : Int) * 64 + (a : Int) = (t : Int) := by omega
theorem a_le {a x : Nat} (h2 : a + x ≤ 64) : a ≤ 64 := by omega
set_option maxHeartbeats 3200000 in
theorem cut_any (w : World) (L : Lay) (s : St) (h : SpaceAt w L s) (page c : Nat) (hp : page < s.n) (hc : c < 8) (Q : Ending → World → Prop)
    (hQ : ∀ w', SpaceAt w' L (s.cut page c) → Only L.lo L.hi w w' → Q (.returned (.tuple #[])) w') :
    Calls Tryz.prog 98 #[.pointer (some ⟨L.sb, 0, none⟩), .int .i64 (page : Int), .int .i64 (c : Int)] w Q := by
  have HQ := Lib.hid hQ; clear hQ
  have hn2 := h.n2
  have hc0 := h.c0
  have hcl := fun cc => h.words.run_clear (page * 64) 64 cc (by omega) (by omega)
  have h1 := h.clrWords (page * 64) 64
  have ho1 : Only L.lo L.hi w (w.setCells L.wb (page * 64) (List.replicate 64 z64)) := h.only 1 (by omega) (only_setCells ⟨Nat.le_refl _, Nat.lt_succ_self _⟩ _ _ _ (Only.refl _ _ _))
  generalize hw1 : w.setCells L.wb (page * 64) (List.replicate 64 z64) = w1 at *
  have H1 : Hid (SpaceAt w1 L (s.cut1 page c 0)) := Lib.hid (by rw [St.cut1_zero]; exact h1)
  have HO1 := Lib.hid ho1
  clear h1 ho1 hw1
  have HBL := Lib.hid (Sp.cw_le c hc)
  have HPN := Lib.hid (show page * 64 + 64 ≤ 64 * s.n by omega)
  have HPM := Lib.hid (show page ≤ 4096 by omega)
  have HIN := Lib.hid (Sp.cw_in c hc)
  have HB := Lib.hid (fun w => blocks_any (c : Int) w)
  rw [Sp.bks_nat c hc] at HB
  have HST : Hid (∀ (i : Nat) (w : World), i < Sp.bk c → Calls Tryz.prog 130 #[.int .i64 (c : Int), .int .i64 (i : Int)] w fun e w' => e = .returned (.int .i64 ((i * Sp.cw c : Nat) : Int)) ∧ Still w w') := Lib.hid fun i w hi => by
    have := start_any (c : Int) (i : Int) w (by omega) (by rw [Sp.bks_nat c hc]; omega)
    rw [Sp.cww_nat c hc] at this
    exact this
  clear h
  have hN1 : (page : Int) * 64 + 64 ≤ ((64 * s.n : Nat) : Int) := by omega
  have hp0 : (0 : Int) ≤ (page : Int) := by omega
  have hpM : (page : Int) ≤ 4096 := by omega
  obtain ⟨N, hN⟩ : ∃ N, 64 * s.n = N := ⟨_, rfl⟩
  have HN := Lib.hid hN
  have hNM : (N : Int) ≤ 262144 := by omega
  rw [hN] at hc0 hN1
  have hcl0 : (0 : Int) ≤ (c : Int) := by omega
  have hcl8 : (c : Int) < 8 := by omega
  rw [hN] at HPN
  clear hN hn2
  go_enter Tryz.func98, Tryz.ntmps98
  go_wp2_with fail
  refine (HB.out _).mono ?_
  rintro e w2 ⟨rfl, hs⟩
  have H2 := Lib.hid (H1.out.still hs)
  have HO2 := Lib.hid (HO1.out.andStill hs)
  clear hs H1 HO1 hcl hc0
  generalize hbkc : Sp.bk c = b at *
  have HBK := Lib.hid hbkc; clear hbkc
  have hb32 : b ≤ 32 := HBL.out.2.2.2
  go_wp2_with fail
  go_loopw [22] (fun y wr => ∃ i : Nat, y = .int .i64 (i : Int) ∧ i ≤ b ∧ SpaceAt wr L (s.cut1 page c i) ∧ Only L.lo L.hi w wr) (fun y _ => 100 - (intOf y).toNat)
  case atStart => exact ⟨0, rfl, Nat.zero_le _, H2.out, HO2.out⟩
  case round =>
    obtain ⟨i, rfl, hi, hsp, ho⟩ := hrel
    have HSP := Lib.hid hsp; have HO := Lib.hid ho
    clear hsp ho H2 HO2
    have hi0 : (0 : Int) ≤ (i : Int) := by omega
    by_cases hlt : i < b
    · have hil : (i : Int) < (b : Int) := by omega
      have hin := HIN.out i hlt
      obtain ⟨a, ha⟩ : ∃ a, i * Sp.cw c = a := ⟨_, rfl⟩
      obtain ⟨t, ht⟩ : ∃ t, page * 64 + a = t := ⟨_, rfl⟩
      have HSTi : Hid (∀ w, Calls Tryz.prog 130 #[.int .i64 (c : Int), .int .i64 (i : Int)] w fun e w' => e = .returned (.int .i64 (a : Int)) ∧ Still w w') := Lib.hid fun w => by
        have := HST.out i w hlt; rwa [ha] at this
      have HSU : Hid ((s.cut1 page c i).setB (c + 1) (setS ((s.cut1 page c i).B (c + 1)) t true) = s.cut1 page c (i + 1)) := Lib.hid (by rw [← ht, ← ha]; exact St.cut1_succ s page c i)
      rw [ha] at hin
      have HTN := Lib.hid (t_lt HPN.out hin HBL.out.1 ht)
      obtain ⟨hsum, hsum2⟩ := t_sum HPM.out (a_le hin) ht
      have HTS : Hid (t < 64 * s.n) := Lib.hid (by rw [HN.out]; exact HTN.out)
      clear ha ht hin
      have hc3 := HSP.out.c3 c hc
      go_wp2_with fail
      go_region_held3 (fun w' => w'.cell? ⟨L.sb, 3 + c, none⟩ = some (.pointer (some (L.m (c + 1))))) (first | exact hc3 | exact hd3 | exact he3)
        (first
          | (go_at_call 130; refine (HSTi.out _).mono ?_; rintro e w3 ⟨rfl, hs3⟩; have H3 := Lib.hid ((HSP.out.drewN 1).still hs3); have HO3 := Lib.hid ((HO.out.drewN 1).andStill hs3); clear hs3; have hd3 := H3.out.c3 c hc)
          | (go_at_call 52; refine (H3.out.set (c + 1) (by omega) t HTS.out).mono ?_; rintro e w4 ⟨rfl, h4, ho4⟩; rw [HSU.out] at h4; have H4 := Lib.hid h4; have HO4 := Lib.hid (HO3.out.trans ho4); clear h4 ho4; have he3 := H4.out.c3 c hc))
      go_wp2
      go_roundw
      case rel => exact ⟨i + 1, by go_num, hlt, H4.out, HO4.out⟩
      case measure => simp [intOf]; omega
    · obtain rfl : i = b := by omega
      have HSP2 : Hid (SpaceAt wr L (s.cut2 page c 0)) := HSP.out.words |> fun _ => Lib.hid (by
        have := HSP.out
        rw [← HBK.out] at this
        exact this)
      go_wp2_with fail
      refine (HB.out _).mono ?_
      rintro e w3 ⟨rfl, hs⟩
      have H2 := Lib.hid (HSP2.out.still hs)
      have HO2 := Lib.hid (HO.out.andStill hs)
      clear hs HSP2 HSP HO
      go_wp2_with fail
      go_loopw [40] (fun y wr => ∃ k : Nat, y = .int .i64 (k : Int) ∧ k ≤ i ∧ SpaceAt wr L (s.cut2 page c k) ∧ Only L.lo L.hi w wr) (fun y _ => 100 - (intOf y).toNat)
      case atStart => exact ⟨0, rfl, Nat.zero_le _, H2.out, HO2.out⟩
      case round =>
        clear H2 HO2
        obtain ⟨k, rfl, hk, hsp, ho⟩ := hrel
        have HSP := Lib.hid hsp; have HO := Lib.hid ho
        clear hsp ho
        have hk0 : (0 : Int) ≤ (k : Int) := by omega
        by_cases hlt2 : k < i
        · have hil : (k : Int) < (i : Int) := by omega
          have hin := HIN.out k hlt2
          obtain ⟨a, ha⟩ : ∃ a, k * Sp.cw c = a := ⟨_, rfl⟩
          obtain ⟨t, ht⟩ : ∃ t, page * 64 + a = t := ⟨_, rfl⟩
          have HSTi : Hid (∀ w, Calls Tryz.prog 130 #[.int .i64 (c : Int), .int .i64 (k : Int)] w fun e w' => e = .returned (.int .i64 (a : Int)) ∧ Still w w') := Lib.hid fun w => by
            have := HST.out k w hlt2; rwa [ha] at this
          have HSU : Hid ((s.cut2 page c k).setWs (setW (s.cut2 page c k).W t ((s.cut2 page c k).link c t)) = s.cut2 page c (k + 1)) := Lib.hid (by rw [← ht, ← ha]; rfl)
          rw [ha] at hin
          have HTN := Lib.hid (t_lt HPN.out hin HBL.out.1 ht)
          have hsum := t_sum3 ht
          have ha64 : (a : Int) ≤ 64 := by have := a_le hin; omega
          have hts := HTN.out
          have htN : (t : Int) < (N : Int) := by omega
          have ht0 : (0 : Int) ≤ (t : Int) := by omega
          have HTM : Hid ((t : Int) ≤ 262144) := Lib.hid (by omega)
          have HTS : Hid (t < 64 * s.n) := Lib.hid (by rw [HN.out]; exact HTN.out)
          clear ha ht hin hts
          go_wp2_with fail
          refine (HSTi.out _).mono ?_
          rintro e w4 ⟨rfl, hs4⟩
          have H4 := Lib.hid (HSP.out.still hs4)
          have HO4 := Lib.hid (HO.out.andStill hs4)
          clear hs4 HSP HO
          have hc0 : w4.cell? ⟨L.sb, 0, none⟩ = some (.slice (some ⟨L.wb, 0, none⟩) N N) := by rw [← HN.out]; exact H4.out.c0
          have hcw := H4.out.words.cell t HTS.out
          have hfw := H4.out.words.frozen t
          have hne : L.sb ≠ L.wb := by have := H4.out.ok.out 0 1 (by omega) (by omega) (by omega); simp only [Lay.a, Lay.b] at this; omega
          have hlk : Hid (∀ m, Calls Tryz.prog 80 #[.pointer (some ⟨L.sb, 0, none⟩), .int .i64 (c : Int), .int .i64 (t : Int)] (w4.drewN m) fun e w' => e = .returned (.int .i64 ((s.cut2 page c k).link c t)) ∧ ∃ m', w' = (w4.drewN m).drewN m') := Lib.hid fun m => slink_any _ L _ (H4.out.drewN m) c hc t (by omega) HTM.out
          obtain ⟨x, hx⟩ : ∃ x, (s.cut2 page c k).link c t = x := ⟨_, rfl⟩
          rw [hx] at hlk HSU
          obtain ⟨y, hy⟩ : ∃ y, (s.cut2 page c k).W t = y := ⟨_, rfl⟩
          rw [hy] at hcw
          clear hx hy
          go_wp2_with fail
          go_region_held3 (fun w' => w'.cell? ⟨L.sb, 0, none⟩ = some (.slice (some ⟨L.wb, 0, none⟩) N N) ∧ (∃ y, w'.cell? ⟨L.wb, t, none⟩ = some (.int .i64 y)) ∧ w'.frozen? ⟨L.wb, t, none⟩ = false) (first | exact ⟨hc0, ⟨_, hcw⟩, hfw⟩ | exact ⟨hd0, hdw, hdf⟩ | exact ⟨set_cell hc0 hne, ⟨_, World.cell?_setCell_same _ _ _ hcw⟩, (World.frozen?_setCell _ _ _ _).trans hfw⟩)
            (first
              | (go_at_call 80; refine (hlk.out 1).mono ?_; rintro e w5 ⟨rfl, m', rfl⟩; have hd0 : ((w4.drewN 1).drewN m').cell? ⟨L.sb, 0, none⟩ = some (.slice (some ⟨L.wb, 0, none⟩) N N) := hc0; have hdw : ∃ y, ((w4.drewN 1).drewN m').cell? ⟨L.wb, t, none⟩ = some (.int .i64 y) := ⟨_, hcw⟩; have hdf : ((w4.drewN 1).drewN m').frozen? ⟨L.wb, t, none⟩ = false := hfw))
          go_wp2
          go_roundw
          case rel => exact ⟨k + 1, by go_num, hlt2, by
            have := (H4.out.drewN (1 + m')).setWord t x
            rw [← HSU.out]
            exact this, (HO4.out.drewN (1 + m')).trans (H4.out.only 1 (by omega) (only_cell _ L.wb t _))⟩
          case measure => simp [intOf]; omega
        · obtain rfl : k = i := by omega
          go_wp2
          go_end0
          refine HQ.out _ ?_ HO.out
          have := HSP.out
          unfold St.cut
          rw [HBK.out]
          exact this
end Go.Proofs.YtfbcdmhmpfijjaaGreatDoor

namespace Go.Proofs.YtfbcdmhmpfijjaaGreatDoor
open Go Go.RowKit

/-- Where the lowest free page is. -/
def St.ff (s : St) : Nat := firstFree s.P s.n s.low
/-- The head of a class: the least free block; -1: none. -/
def St.hd0 (s : St) (c : Nat) : Int := Bm.next (s.B (c + 1)) (64 * s.n) 0
/-- A page is taken for a class, and cut. -/
def St.open (s : St) (c : Nat) : St := ({ s with P := setPg s.P s.ff ⟨1, c, 0⟩, low := s.ff } : St).cut s.ff c
/-- A free block is taken, if its link is right. -/
def St.pick (s : St) (c a : Nat) : St × Int × Int × Int :=
  if s.W a = s.link c a then (s.setB (c + 1) (setS (s.B (c + 1)) a false), (a : Int), 0, 0) else (s, 0, 21, (a : Int))
def St.runAt (s : St) (m : Nat) : Option Nat := seekRun s.P s.n m s.ff 0
/-- take: the space behind it, the place, the fault. -/
def St.take (s : St) (z : Int) : St × Int × Int × Int :=
  if Sp.cls z = 8 then
    match s.runAt (Sp.pgs z).toNat with
    | none => ({ s with low := s.ff }, 0, 20, 0)
    | some h => ({ s with P := runPg s.P h (Sp.pgs z).toNat, low := s.ff }, ((h * 64 : Nat) : Int), 0, 0)
  else
    if 0 ≤ s.hd0 (Sp.cls z).toNat then s.pick (Sp.cls z).toNat (s.hd0 (Sp.cls z).toNat).toNat
    else if s.ff = s.n then ({ s with low := s.ff }, 0, 20, 0)
    else (s.open (Sp.cls z).toNat).pick (Sp.cls z).toNat (s.ff * 64)

theorem only_new {lo hi : Nat} {w w1 : World} {o : Obj} (hs : Only lo hi (w.alloc o) w1) (hh : hi ≤ w.heap.size) : w1.heap[w.heap.size]? = some o := by
  rw [hs.block _ (by simp) (.inr hh)]
  exact heap_alloc_new w o
theorem Sp.cls_in {z : Int} (h1 : 1 ≤ z) (h2 : z ≤ 1024) : 0 ≤ Sp.cls z ∧ Sp.cls z ≤ 8 := by
  unfold Sp.cls
  rw [if_neg (by omega)]
  repeat' split
  all_goals omega
theorem seekRun_in (P : Nat → Pg) (n m : Nat) (hm : 1 ≤ m) : ∀ (d i g : Nat), n - i ≤ d → g ≤ i → g < m → ∀ h, seekRun P n m i g = some h → h + m ≤ n
  | 0, i, g, hd, hg, hgm, h, e => by
    rw [seekRun, dif_neg (by omega)] at e; cases e
  | d + 1, i, g, hd, hg, hgm, h, e => by
    rw [seekRun] at e
    split at e
    · split at e
      · split at e
        · injection e with e; omega
        · exact seekRun_in P n m hm d (i + 1) (g + 1) (by omega) (by omega) (by omega) h e
      · exact seekRun_in P n m hm d (i + 1) 0 (by omega) (by omega) (by omega) h e
    · cases e

set_option maxHeartbeats 3200000 in
theorem take_run (w : World) (L : Lay) (s : St) (h : SpaceAt w L s) (z : Int) (hz1 : 1 ≤ z) (hz2 : z ≤ 1024) (h8 : Sp.cls z = 8) (Q : Ending → World → Prop)
    (hQ : ∀ w', SpaceAt w' L (s.take z).1 → Only L.lo L.hi w w' → Q (.returned (.tuple #[.int .i64 (s.take z).2.1, faultV (s.take z).2.2.1 (s.take z).2.2.2])) w') :
    Calls Tryz.prog 48 #[.pointer (some ⟨L.sb, 0, none⟩), .int .i64 z] w Q := by
  have HQ := Lib.hid hQ; clear hQ
  unfold St.take at HQ
  rw [if_pos h8] at HQ
  have hpg : Sp.pgs z = (z + 63) / 64 := by unfold Sp.pgs; rw [if_pos h8]
  obtain ⟨m, hm⟩ : ∃ m : Nat, Sp.pgs z = (m : Int) := ⟨(Sp.pgs z).toNat, by omega⟩
  have hm1 : 1 ≤ m := by omega
  have hm2 : m ≤ 16 := by omega
  have HO := Lib.hid (fun w => of_any z w)
  have HP := Lib.hid (fun w => pages_any z w)
  rw [h8] at HO
  rw [hm] at HP HQ
  rw [Int.toNat_natCast] at HQ
  have hlow := h.lowle
  have hn2 := h.n2
  have htop := h.top
  have HT : Hid (∀ w1, SpaceAt w1 L s → ∀ R : Ending → World → Prop,
      (s.runAt m = none → ∀ w', SpaceAt w' L { s with low := s.ff } → Only L.lo L.hi w1 w' → R (.returned (.tuple #[.int .i64 0, .int .i64 20])) w') →
      (∀ r : Nat, s.runAt m = some r → ∀ w', SpaceAt w' L { s with P := runPg s.P r m, low := s.ff } → Only L.lo L.hi w1 w' → R (.returned (.tuple #[.int .i64 (r : Int), .int .i64 0])) w') →
      Calls Tryz.prog 64 #[.pointer (some ⟨L.tb, 0, none⟩), .int .i64 (m : Int)] w1 R) := Lib.hid fun w1 h1 R r1 r2 => by
    obtain ⟨free, ht⟩ := h1.table
    have hff : s.ff ≤ s.n := firstFree_le _ _ _ hlow
    refine takeRun_any _ _ _ _ _ _ _ m _ _ (s.runAt m) w1 ht hlow hm1 hm2 rfl R (fun e w' t o => r1 e w' ?_ (h1.only 2 (by omega) o)) (fun r e w' t o => r2 r e w' ?_ (h1.only 2 (by omega) o))
    · exact h1.updT o t hff
    · exact h1.updT o t hff
  have HS0 := Lib.hid (h.alloc (.cells #[.int .i64 0, .int .i64 0] 50))
  have hst : Still w (w.alloc (.cells #[.int .i64 0, .int .i64 0] 50)) := (Only.refl _ _ w).alloc _
  have HST := Lib.hid (hst.any L.lo L.hi)
  have HNEW : Hid (∀ w1, Only L.lo L.hi (w.alloc (.cells #[.int .i64 0, .int .i64 0] 50)) w1 → w1.heap[w.heap.size]? = some (.cells #[.int .i64 0, .int .i64 0] 50 (0, 0))) := Lib.hid fun w1 ho => only_new ho htop
  have HRI : Hid (∀ r, s.runAt m = some r → r + m ≤ s.n) := Lib.hid fun r hr => seekRun_in s.P s.n m hm1 _ _ 0 (Nat.le_refl _) (Nat.zero_le _) (by omega) r hr
  have HTOP := Lib.hid htop
  have hc1 := HS0.out.c1
  have HZ : w.heap.size < (w.alloc (.cells #[.int .i64 0, .int .i64 0] 50)).heap.size := by simp
  clear h hst h8 hpg hm htop
  go_enter Tryz.func48, Tryz.ntmps48
  go_wp2_with fail
  generalize w.alloc (.cells #[.int .i64 0, .int .i64 0] 50) = w0 at *
  refine (HO.out _).mono ?_
  rintro e w1 ⟨rfl, hs1⟩
  have H1 := Lib.hid (HS0.out.still hs1)
  have HO1 := Lib.hid (hs1.any L.lo L.hi); clear hs1
  have hc1 := H1.out.c1
  cases hr : s.runAt m with
  | none =>
    have HTN : Hid (∀ w1, SpaceAt w1 L s → Calls Tryz.prog 64 #[.pointer (some ⟨L.tb, 0, none⟩), .int .i64 (m : Int)] w1 fun e w' => e = .returned (.tuple #[.int .i64 0, .int .i64 20]) ∧ SpaceAt w' L { s with low := s.ff } ∧ Only L.lo L.hi w1 w') := Lib.hid fun w1 h1 =>
      HT.out w1 h1 _ (fun _ w' a b => ⟨rfl, a, b⟩) (fun r e => by rw [hr] at e; cases e)
    rw [hr] at HQ
    dsimp only at HQ
    clear HT HRI hr
    go_wp2_with fail
    go_region_held3 (fun w' => w'.cell? ⟨L.sb, 1, none⟩ = some (.pointer (some ⟨L.tb, 0, none⟩))) (first | exact hc1 | exact hd1 | exact he1)
      (first
        | (go_at_call 65; refine (HP.out _).mono ?_; rintro e w3 ⟨rfl, hs3⟩; have H3 := Lib.hid ((H1.out.drewN 1).still hs3); have HO3 := Lib.hid ((HO1.out.drewN 1).andStill hs3); clear hs3; have hd1 := H3.out.c1)
        | (go_at_call 64; refine (HTN.out _ H3.out).mono ?_; rintro e w4 ⟨rfl, h4, ho4⟩; have H4 := Lib.hid h4; have HO4 := Lib.hid (HO3.out.trans ho4); clear h4 ho4; have he1 := H4.out.c1))
    have hb := HNEW.out _ HO4.out
    have hlt1 := (Array.getElem?_eq_some_iff.1 hb).1
    have hz0 := cell_of (v := .int .i64 0) hb 0 rfl
    have hz1 := cell_of (v := .int .i64 0) hb 1 rfl
    have hf0 := frozen_of hb 0
    have hf1 := frozen_of hb 1
    clear hb
    go_wp2
    refine bodyPost_ret (v := .tuple #[.int .i64 0, faultV 20 0]) (by simp [results, Tryz.results48, go_sem, *]) rfl (HQ.out _ ((H4.out.setNew HTOP.out 0 _).setNew HTOP.out 1 _) ?_)
    exact ((HST.out.trans HO4.out).setCell (p := ⟨w.heap.size, 0, none⟩) (.inr (Nat.le_refl _)) _).setCell (p := ⟨w.heap.size, 1, none⟩) (.inr (Nat.le_refl _)) _
  | some r =>
    have HTN : Hid (∀ w1, SpaceAt w1 L s → Calls Tryz.prog 64 #[.pointer (some ⟨L.tb, 0, none⟩), .int .i64 (m : Int)] w1 fun e w' => e = .returned (.tuple #[.int .i64 (r : Int), .int .i64 0]) ∧ SpaceAt w' L { s with P := runPg s.P r m, low := s.ff } ∧ Only L.lo L.hi w1 w') := Lib.hid fun w1 h1 =>
      HT.out w1 h1 _ (fun e => by rw [hr] at e; cases e) (fun r' e w' a b => by
        rw [hr] at e
        obtain rfl : r = r' := Option.some.inj e
        exact ⟨rfl, a, b⟩)
    have hrin := HRI.out r hr
    have hr0 : (0 : Int) ≤ (r : Int) := by omega
    have hrM : (r : Int) ≤ 4096 := by omega
    rw [hr] at HQ
    dsimp only at HQ
    rw [show ((r * 64 : Nat) : Int) = (r : Int) * 64 by omega] at HQ
    clear HT HRI hr
    go_wp2_with fail
    go_region_held3 (fun w' => w'.cell? ⟨L.sb, 1, none⟩ = some (.pointer (some ⟨L.tb, 0, none⟩))) (first | exact hc1 | exact hd1 | exact he1)
      (first
        | (go_at_call 65; refine (HP.out _).mono ?_; rintro e w3 ⟨rfl, hs3⟩; have H3 := Lib.hid ((H1.out.drewN 1).still hs3); have HO3 := Lib.hid ((HO1.out.drewN 1).andStill hs3); clear hs3; have hd1 := H3.out.c1)
        | (go_at_call 64; refine (HTN.out _ H3.out).mono ?_; rintro e w4 ⟨rfl, h4, ho4⟩; have H4 := Lib.hid h4; have HO4 := Lib.hid (HO3.out.trans ho4); clear h4 ho4; have he1 := H4.out.c1))
    have hb := HNEW.out _ HO4.out
    have hlt1 := (Array.getElem?_eq_some_iff.1 hb).1
    have hz0 := cell_of (v := .int .i64 0) hb 0 rfl
    have hz1 := cell_of (v := .int .i64 0) hb 1 rfl
    have hf0 := frozen_of hb 0
    have hf1 := frozen_of hb 1
    clear hb
    go_wp2
    refine bodyPost_ret (v := .tuple #[.int .i64 ((r : Int) * 64), faultV 0 0]) (by simp [results, Tryz.results48, go_sem, *]) rfl (HQ.out _ ((H4.out.setNew HTOP.out 0 _).setNew HTOP.out 1 _) ?_)
    exact ((HST.out.trans HO4.out).setCell (p := ⟨w.heap.size, 0, none⟩) (.inr (Nat.le_refl _)) _).setCell (p := ⟨w.heap.size, 1, none⟩) (.inr (Nat.le_refl _)) _
end Go.Proofs.YtfbcdmhmpfijjaaGreatDoor
