/-
  The walks of (*hearthlaw3.pair).same and of hearthlaw3.BitmapNews.
-/
import Derived.Test.YtppeiljecgeifaaDoorL8
namespace Go.Proofs.YtppeiljecgeifaaDoor
open Go Go.RowKit

set_option maxHeartbeats 1600000 in
theorem same_any (lo hi n : Nat) (q : Addr) (S : Nat → Bool) (w : World) (hp : IsPair w lo hi q n S) (hT : Tab w) (h0 : 0 < w.heap.size) :
    Calls Tryd.prog 15 #[.pointer (some q)] w fun e w' => e = .returned (.bool true) ∧ Still w w' := by
  obtain ⟨qb, bx, pm, pr, a, b, c, d, rfl, hp⟩ := hp
  have hc0 := hp.c0
  have hc1 := hp.c1
  have HP := Lib.hid hp; clear hp
  have HT := Lib.hid hT; clear hT
  have hqs : Hid (qb < w.heap.size) := by have := HP.out.qhi; have := HP.out.top; exact (by omega : qb < w.heap.size)
  go_enter Tryd.func15, Tryd.ntmps15
  go_wp2_with fail
  refine (rlist_any _ _ n pr S _ HP.out.ref).mono ?_
  rintro e w1 ⟨ao, cp, rfl, hown, hs⟩
  have HO := Lib.hid hown; clear hown
  have HS := Lib.hid hs; clear hs
  have hc0 : w1.cell? ⟨qb, 0, none⟩ = some (.pointer (some pm)) := (HS.out.below.cell (p := ⟨qb, 0, none⟩) hqs.out).trans HP.out.c0
  have hc1 : w1.cell? ⟨qb, 1, none⟩ = some (.pointer (some pr)) := (HS.out.below.cell (p := ⟨qb, 1, none⟩) hqs.out).trans HP.out.c1
  have HM1 : Hid (IsMap w1 a b pm n S) := HP.out.map.still HS.out
  have HR1 : Hid (IsRef w1 c d pr n S) := HP.out.ref.still HS.out
  have HT1 : Hid (Tab w1) := HT.out.only HS.out h0
  obtain ⟨rb, ro, rc, rfl, hr⟩ := HR1.out
  have hcr := hr.cell0
  have hn := hr.nle
  clear hr HR1
  have HPL : Hid ((pre S n).length = Bm.cnt S 0 n) := pre_length S n
  have hLn := pre_le S n
  generalize hLL : (pre S n).length = L at *
  have HLL := Lib.hid hLL; clear hLL
  have HLEN : Hid (∀ m, Calls Tryd.prog 31 #[.pointer (some pm)] (w1.drewN m) fun e w' => e = .returned (.int .i64 (n : Int)) ∧ w1.drewN m = w') := fun m => len_any _ _ n pm S _ (HM1.out.drewN m)
  have HCNT : Hid (∀ m, Calls Tryd.prog 21 #[.pointer (some pm)] (w1.drewN m) fun e w' => e = .returned (.int .i64 (L : Int)) ∧ ∃ k, w' = (w1.drewN m).drewN k) := fun m => by
    rw [HPL.out]; exact count_any _ _ n pm S _ (HM1.out.drewN m)
  go_wp2_with fail
  go_quiet ((first | (go_at_call 31; exact quiet_eq (HLEN.out _)) | (go_at_call 21; exact Calls.quiet_of (HCNT.out _))))
  clear HLEN HCNT hcr
  go_wp2_with fail
  clear hc0 hc1
  go_loopw [4, 5] (fun y x wr => ∃ (y0 : Int) (a0 k : Nat), y = .int .i64 y0 ∧ x = .int .i64 k ∧ y0 + 1 = (a0 : Int) ∧ a0 ≤ n ∧ (pre S a0).length = k ∧ ∃ m, wr = w1.drewN m) (fun _ x _ => n + 1 - (intOf x).toNat)
  case atStart => exact ⟨-1, 0, 0, rfl, rfl, rfl, Nat.zero_le _, rfl, nq, rfl⟩
  case round =>
    obtain ⟨y0, a0, k, rfl, rfl, hy, ha, hk, m, hwm⟩ := hrel
    have hk0 : (0 : Int) ≤ (k : Int) := by omega
    have hc0 : wr.cell? ⟨qb, 0, none⟩ = some (.pointer (some pm)) := by rw [hwm]; exact (HS.out.below.cell (p := ⟨qb, 0, none⟩) hqs.out).trans HP.out.c0
    have hy1 : -1 ≤ y0 := by omega
    have hy2 : y0 ≤ 300000 := by omega
    have HMr : Hid (IsMap wr a b pm n S) := by rw [hwm]; exact HM1.out.drewN m
    have HTr : Hid (Tab wr) := by rw [hwm]; exact HT1.out
    have HY := Lib.hid hy; clear hy
    have HK := Lib.hid hk; clear hk
    have HNX : Hid (∀ m, Calls Tryd.prog 22 #[.pointer (some pm), .int .i64 (y0 + 1)] (wr.drewN m) fun e w' => e = .returned (.int .i64 (Bm.next S n (a0 : Int))) ∧ ∃ k, w' = (wr.drewN m).drewN k) := fun m => by
      rw [← HY.out]; exact next_any _ _ n pm S _ _ (HMr.out.drewN m) HTr.out (by omega)
    have hns := Bm.next_spec S n (a0 : Int)
    by_cases hlt : (k : Int) < (L : Int)
    · rcases hns with ⟨h1, h2⟩ | ⟨i, h1, h2, h3, h4, h5⟩
      · exfalso
        have := pre_end ha (fun j hj hj2 => h2 j (by omega) hj2)
        rw [← this, HLL.out] at HK
        have := HK.out
        omega
      · have hat := pre_at (a := a0) (by omega) h3 h4 (fun j hj hj2 => h5 j (by omega) hj2)
        have hpn := pre_next (a := a0) (by omega) h4 (fun j hj hj2 => h5 j (by omega) hj2)
        rw [HK.out] at hat
        have hLp : 0 < L := by omega
        have hrow : ∃ g, ao = some ⟨g, 0, none⟩ := by
          rcases HO.out.2 with ⟨_, h0'⟩ | ⟨g, cap', cur, hv, _⟩
          · omega
          · injection hv with e1 e2 e3; exact ⟨g, e1⟩
        obtain ⟨g, rfl⟩ := hrow
        have hck : wr.cell? ⟨g, k, none⟩ = some (.int .i64 (i : Int)) := by
          rw [hwm]
          have hc := HO.out.cells (g := g) rfl k (I i) (by rw [List.getElem?_map, hat]; rfl)
          have e : (⟨g, 0, none⟩ : Addr).add k = ⟨g, k, none⟩ := by unfold Addr.add; split <;> simp_all
          rwa [e] at hc
        have hi0 : (0 : Int) ≤ (i : Int) := by omega
        have HGT : Hid (∀ m, Calls Tryd.prog 23 #[.pointer (some pm), .int .i64 (i : Int)] (wr.drewN m) fun e w' => e = .returned (.bool true) ∧ wr.drewN m = w') := fun m =>
          get_any _ _ n pm S (i : Int) _ (HMr.out.drewN m) true (by rw [decide_eq_true hi0, Int.toNat_natCast, h4]; rfl)
        rw [h1] at HNX
        have HPN := Lib.hid hpn; clear hpn
        have HWM := Lib.hid hwm; clear hwm
        clear h1 h4 h5 hat
        go_wp2_with fail
        go_quiet ((first | (go_at_call 22; exact Calls.quiet_of (HNX.out _)) | (go_at_call 23; exact quiet_eq (HGT.out _))))
        clear HNX HGT
        go_wp2
        go_roundw
        case rel => first | exact ⟨i, i + 1, k + 1, rfl, by go_num, by omega, by omega, by rw [HPN.out, List.length_append, HK.out]; rfl, m + nq_1, by rw [HWM.out, World.drewN_drewN]⟩ | exact ⟨i, i + 1, k + 1, rfl, by go_num, by omega, by omega, by rw [HPN.out, List.length_append, HK.out]; rfl, m + nq, by rw [HWM.out, World.drewN_drewN]⟩
        case measure => simp [intOf]; omega
    · have HE : Hid (Bm.next S n (a0 : Int) = -1) := by
        rcases hns with ⟨h1, _⟩ | ⟨i, h1, h2, h3, h4, h5⟩
        · exact h1
        · exfalso
          have hat := pre_at (a := a0) (by omega) h3 h4 (fun j hj hj2 => h5 j (by omega) hj2)
          have := (List.getElem?_eq_some_iff.1 hat).1
          rw [HLL.out, HK.out] at this
          omega
      rw [HE.out] at HNX
      have HWM := Lib.hid hwm; clear hwm
      clear hns
      go_wp2_with fail
      refine (HNX.out 0).mono ?_
      rintro e w5 ⟨rfl, m5, hw5⟩
      have HS5 : Hid (Still w w5) := by rw [hw5, HWM.out]; exact (((HS.out.drewN m).drewN 0).drewN m5)
      clear hw5 HNX
      go_wp2
      go_ret
      exact ⟨rfl, HS5.out⟩

set_option maxHeartbeats 800000 in
theorem news_walk (n : Int) (w : World) (hn : (Lit.int .i64 n).wf = true) (hT : Tab w) (h0 : 0 < w.heap.size) :
    Calls Tryd.prog 3 #[.int .i64 n] w fun e w' => e = .returned (.bool true) ∧ Below w.heap.size w w' := by
  obtain ⟨hl1, hl2⟩ := wf_i64 hn
  clear hn
  have HT := Lib.hid hT; clear hT
  by_cases hmid : 20000 < n ∧ n < 262144
  · obtain ⟨hm1, hm2⟩ := hmid
    go_enter Tryd.func3, Tryd.ntmps3
    go_wp2_with fail
    refine (alive_any _ HT.out h0).mono ?_
    rintro e w1 ⟨rfl, hs⟩
    have HS := Lib.hid hs; clear hs
    go_wp2
    go_ret
    exact ⟨rfl, Still.below HS.out⟩
  · by_cases hout : n < 0 ∨ 262144 < n
    · have key : ∀ (h1 : 20000 < n → ¬ n < 262144), Calls Tryd.prog 3 #[.int .i64 n] w fun e w' => e = .returned (.bool true) ∧ Below w.heap.size w w' := by
        intro h1
        clear hmid
        have HO := Lib.hid hout; clear hout
        by_cases h2 : 20000 < n
        · have h3 := h1 h2
          clear h1
          go_enter Tryd.func3, Tryd.ntmps3
          go_wp2_with fail
          refine (made_no n _ HO.out).mono ?_
          rintro e w1 ⟨rfl, rfl⟩
          go_wp2_with fail
          refine (alive_any _ HT.out h0).mono ?_
          rintro e w1 ⟨rfl, hs⟩
          have HS := Lib.hid hs; clear hs
          go_wp2
          go_ret
          exact ⟨rfl, Still.below HS.out⟩
        · clear h1
          go_enter Tryd.func3, Tryd.ntmps3
          go_wp2_with fail
          refine (made_no n _ HO.out).mono ?_
          rintro e w1 ⟨rfl, rfl⟩
          go_wp2_with fail
          refine (alive_any _ HT.out h0).mono ?_
          rintro e w1 ⟨rfl, hs⟩
          have HS := Lib.hid hs; clear hs
          go_wp2
          go_ret
          exact ⟨rfl, Still.below HS.out⟩
      exact key (fun a b => hmid ⟨a, b⟩)
    · obtain ⟨N, rfl⟩ : ∃ k : Nat, n = k := ⟨n.toNat, by omega⟩
      have hN : N ≤ 262144 := by omega
      clear hout
      by_cases h2 : 20000 < (N : Int)
      · have h3 : ¬ (N : Int) < 262144 := fun h => hmid ⟨h2, h⟩
        clear hmid
        go_enter Tryd.func3, Tryd.ntmps3
        go_wp2_with fail
        refine (made_yes N _ hN HT.out h0).mono ?_
        rintro e w1 ⟨q, rfl, hp, hs⟩
        have HP := Lib.hid hp; clear hp
        have HS := Lib.hid hs; clear hs
        go_wp2_with fail
        refine (alive_any _ (HT.out.only HS.out h0) (by have := HS.out.size; omega)).mono ?_
        rintro e w2 ⟨rfl, hs2⟩
        have HS2 : Hid (Still w w2) := HS.out.trans' hs2 (.inr HS.out.size) (.inr HS.out.size)
        have HP2 := Lib.hid (HP.out.still hs2)
        clear hs2
        go_wp2_with fail
        refine (same_any _ _ N q _ _ HP2.out (HT.out.only HS2.out h0) (by have := HS2.out.size; omega)).mono ?_
        rintro e w3 ⟨rfl, hs3⟩
        have HS3 : Hid (Still w w3) := HS2.out.trans' hs3 (.inr HS2.out.size) (.inr HS2.out.size)
        clear hs3
        go_wp2
        go_ret
        exact ⟨rfl, Still.below HS3.out⟩
      · clear hmid
        go_enter Tryd.func3, Tryd.ntmps3
        go_wp2_with fail
        refine (made_yes N _ hN HT.out h0).mono ?_
        rintro e w1 ⟨q, rfl, hp, hs⟩
        have HP := Lib.hid hp; clear hp
        have HS := Lib.hid hs; clear hs
        go_wp2_with fail
        refine (alive_any _ (HT.out.only HS.out h0) (by have := HS.out.size; omega)).mono ?_
        rintro e w2 ⟨rfl, hs2⟩
        have HS2 : Hid (Still w w2) := HS.out.trans' hs2 (.inr HS.out.size) (.inr HS.out.size)
        have HP2 := Lib.hid (HP.out.still hs2)
        clear hs2
        go_wp2_with fail
        refine (same_any _ _ N q _ _ HP2.out (HT.out.only HS2.out h0) (by have := HS2.out.size; omega)).mono ?_
        rintro e w3 ⟨rfl, hs3⟩
        have HS3 : Hid (Still w w3) := HS2.out.trans' hs3 (.inr HS2.out.size) (.inr HS2.out.size)
        clear hs3
        go_wp2
        go_ret
        exact ⟨rfl, Still.below HS3.out⟩
end Go.Proofs.YtppeiljecgeifaaDoor
