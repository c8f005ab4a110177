/-
  The walk of looked: Dump.
-/
import Derived.Test.YtfbcdmhmpfijjaaGreatDoorQJA
import Derived.Test.YtfbcdmhmpfijjaaGreatDoorQFC
import Derived.Test.YtfbcdmhmpfijjaaGreatDoorQO
namespace Go.Proofs.YtfbcdmhmpfijjaaGreatDoor
open Go Go.RowKit

theorem Lists.lts {w : World} {B : Nat} {s : St} {v1 v2 v3 : Value} (h : Lists w B s v1 v2 v3) : (∀ g, v1.ownBlock = some g → g < w.heap.size) ∧ (∀ g, v2.ownBlock = some g → g < w.heap.size) ∧ ∀ g, v3.ownBlock = some g → g < w.heap.size :=
  ⟨fun g hg => (h.r1.lt g hg).2, fun g hg => (h.r2.lt g hg).2, fun g hg => (h.r3.lt g hg).2⟩
/-- A dump and the document's are kept. -/
theorem kd_step {wK wx : World} {M pb : Nat} {L : Lay} {R : RLay} {s : St} {own : Nat → Lb} {qf : Nat → Nat} {C : Nat} {v1 v2 v3 e1 e2 e3 : Value} (hp : PairAt wK pb L R s own qf C) (hs : Still wK wx) (hl : Lists wx wK.heap.size s v1 v2 v3)
    (hlt : (∀ g, v1.ownBlock = some g → g < M) ∧ (∀ g, v2.ownBlock = some g → g < M) ∧ ∀ g, v3.ownBlock = some g → g < M) (hM : wK.heap.size ≤ M) (hl2 : Lists wx M s e1 e2 e3) (hC : C + 24 ≤ 900000) (q : Bool) :
    Calls Tryz.prog 38 #[.pointer (some ⟨pb, 2, none⟩), dumpVal v1 v2 v3 s.hd0 s.ser, dumpVal e1 e2 e3 s.hd0 s.ser, .bool q] wx fun e w' => e = .returned (.bool true) ∧ ∃ own', PairAt w' pb L R s own' qf (C + 24) ∧ PFr L R wK own w' own' := by
  have hn := hp.n24
  have hb := s.blk_len (64 * s.n)
  have hb : s.blks.length ≤ 64 * s.n := hb
  have hpx := hp.still hs
  have q1 : QIn wx own wK.heap.size 0 v1 e1 (64 * s.n) (wdF s) := qin_of (by omega) hM hl.r1 hlt.1 hl2.r1 (wdF_at s) hp.olt
  have q2 : QIn wx own wK.heap.size 1 v2 e2 s.n (pgF s) := qin_of (by omega) hM hl.r2 hlt.2.1 hl2.r2 (pgF_at s) hp.olt
  have q3 : QIn wx own wK.heap.size 2 v3 e3 s.blks.length (blF s) := qin_of (by omega) hM hl.r3 hlt.2.2 hl2.r3 (blF_at s) hp.olt
  refine kdump_any wx pb _ _ own qf C wK.heap.size _ _ _ _ _ _ _ _ _ _ _ _ _ _ hpx.k q1 q2 q3 hs.size hC q _ fun w' own' hk hf => ⟨rfl, own', hpx.lists hk hf hp.rf.top, KFB.pfr hs hf⟩
set_option maxRecDepth 100000 in
set_option maxHeartbeats 6400000 in
theorem looked20 (w : World) (pb : Nat) (L : Lay) (R : RLay) (s : St) (own : Nat → Lb) (qf : Nat → Nat) (C : Nat) (h : PairAt w pb L R s own qf C) (hC48 : C + 48 ≤ 900000) (wh a b c : Int) (la : Option Addr) (ll lc : Nat) :
    Calls Tryz.prog 13 #[.pointer (some ⟨pb, 0, none⟩), opVal wh 20 a b c la ll lc] w fun e w' => e = .returned (.bool true) ∧ ∃ own', PairAt w' pb L R s own' qf (C + 48) ∧ PFr L R w own w' own' := by
  have HP := Lib.hid h
  have HD1 : Hid (∀ w', SpaceAt w' L s → Calls Tryz.prog 39 #[.pointer (some ⟨L.sb, 0, none⟩)] w' fun e w2 => (∃ v1 v2 v3, e = .returned (dumpVal v1 v2 v3 s.hd0 s.ser) ∧ Lists w2 w'.heap.size s v1 v2 v3) ∧ Still w' w2) := Lib.hid fun w' hs => dump_any w' L s hs _ fun v1 v2 v3 w2 h1 h2 => ⟨⟨v1, v2, v3, rfl, h1⟩, h2⟩
  have HD2 : Hid (∀ w', RefAt w' R s → Calls Tryz.prog 40 #[.pointer (some ⟨R.rb, 0, none⟩)] w' fun e w2 => (∃ v1 v2 v3, e = .returned (dumpVal v1 v2 v3 s.hd0 s.ser) ∧ Lists w2 w'.heap.size s v1 v2 v3) ∧ Still w' w2) := Lib.hid fun w' hs => rdump_any w' R s hs h.iv.refOk _ fun v1 v2 v3 w2 h1 h2 => ⟨⟨v1, v2, v3, rfl, h1⟩, h2⟩
  clear h
  go_enter Tryz.func13, Tryz.ntmps13
  go_upto_region 29 with fail
  have hsb : Still w (w.alloc (opObj wh 20 a b c la ll lc)) := (Only.refl _ _ w).alloc _
  generalize w.alloc (opObj wh 20 a b c la ll lc) = wK at *
  have hpK := HP.out.still hsb
  have hfK : PFr L R w own wK own := PFr.of hsb
  have hsC : Still wK wK := Only.refl _ _ _
  have k0 := hpK.c0
  have k1 := hpK.c1
  have hpl := hpK.lt
  clear hsb
  go_cut [4] from 223 to 252 (fun s4 wx => s4 = .bool true ∧ ∃ own', PairAt wx pb L R s own' qf (C + 48) ∧ PFr L R w own wx own')
  case first =>
    go_region_held3 (fun w' => w'.cell? ⟨pb, 0, none⟩ = some (.pointer (some ⟨L.sb, 0, none⟩)) ∧ w'.cell? ⟨pb, 1, none⟩ = some (.pointer (some ⟨R.rb, 0, none⟩)))
      (exact (fun (x : PairAt _ pb L R s _ qf _) => ⟨x.c0, x.c1⟩) (hpK.still (by (repeat first | with_reducible exact hsC | with_reducible exact Only.refl _ _ _ | with_reducible apply Only.drew | with_reducible apply Only.drewN | with_reducible apply Only.alloc))))
      (first
        | (go_at_call 39; refine (HD1.out _ (hpK.sp.still (by (repeat first | with_reducible exact hsC | with_reducible exact Only.refl _ _ _ | with_reducible apply Only.drew | with_reducible apply Only.drewN | with_reducible apply Only.alloc)))).mono ?_; rintro e wp ⟨⟨v1, v2, v3, rfl, hl⟩, hcall⟩; have hl : Lists wp wK.heap.size s v1 v2 v3 := hl.le (Only.size (lo := wK.heap.size) (hi := wK.heap.size) (w := wK) (by (repeat first | with_reducible exact hsC | with_reducible exact Only.refl _ _ _ | with_reducible apply Only.drew | with_reducible apply Only.drewN | with_reducible apply Only.alloc))); have hsC : Still wK wp := Still.trans (by (repeat first | with_reducible exact hsC | with_reducible exact Only.refl _ _ _ | with_reducible apply Only.drew | with_reducible apply Only.drewN | with_reducible apply Only.alloc)) hcall; have hlt := hl.lts; have hsP : Still wp wp := Only.refl _ _ _)
        | (go_at_call 40; refine (HD2.out _ (hpK.rf.still (by (repeat first | with_reducible exact hsC | with_reducible exact Only.refl _ _ _ | with_reducible apply Only.drew | with_reducible apply Only.drewN | with_reducible apply Only.alloc)))).mono ?_; rintro e wq ⟨⟨e1, e2, e3, rfl, hl2⟩, hcall⟩; have hl2 : Lists wq wp.heap.size s e1 e2 e3 := hl2.le (Only.size (lo := wp.heap.size) (hi := wp.heap.size) (w := wp) (by (repeat first | with_reducible exact hsP | with_reducible exact Only.refl _ _ _ | with_reducible apply Only.drew | with_reducible apply Only.drewN | with_reducible apply Only.alloc))); have hl : Lists wq wK.heap.size s v1 v2 v3 := hl.still (Still.trans (by (repeat first | with_reducible exact hsP | with_reducible exact Only.refl _ _ _ | with_reducible apply Only.drew | with_reducible apply Only.drewN | with_reducible apply Only.alloc)) hcall); have hMM : wK.heap.size ≤ wp.heap.size := hsC.size; have hsC : Still wK wq := Still.trans (by (repeat first | with_reducible exact hsC | with_reducible exact Only.refl _ _ _ | with_reducible apply Only.drew | with_reducible apply Only.drewN | with_reducible apply Only.alloc)) hcall; have hsQ : Still wq wq := Only.refl _ _ _)
        | (go_at_call 38; refine (kd_step hpK (by (repeat first | with_reducible exact hsC | with_reducible exact Only.refl _ _ _ | with_reducible apply Only.drew | with_reducible apply Only.drewN | with_reducible apply Only.alloc)) (hl.still (by (repeat first | with_reducible exact hsQ | with_reducible exact Only.refl _ _ _ | with_reducible apply Only.drew | with_reducible apply Only.drewN | with_reducible apply Only.alloc))) hlt hMM (hl2.still (by (repeat first | with_reducible exact hsQ | with_reducible exact Only.refl _ _ _ | with_reducible apply Only.drew | with_reducible apply Only.drewN | with_reducible apply Only.alloc))) (by omega) _).mono ?_; rintro e wN ⟨rfl, ownN, hpN, hfN⟩; have hfK := hfK.trans hfN; clear hpK hsC hl hlt hMM hl2 hsP hsQ; have hpK := hpN; have hsC : Still wN wN := Only.refl _ _ _; obtain ⟨wK, hwK⟩ : ∃ x, x = wN := ⟨_, rfl⟩; subst hwK))
    all_goals
      go_wp2_with fail
      go_meet
      exact ⟨rfl, _, hpK.still (by (repeat first | with_reducible exact hsC | with_reducible exact Only.refl _ _ _ | with_reducible apply Only.drew | with_reducible apply Only.drewN | with_reducible apply Only.alloc)), hfK.still (by (repeat first | with_reducible exact hsC | with_reducible exact Only.refl _ _ _ | with_reducible apply Only.drew | with_reducible apply Only.drewN | with_reducible apply Only.alloc))⟩
  case rest =>
    obtain ⟨rfl, own', hp', hf'⟩ := hcut
    have HE := Lib.hid (And.intro hp' hf')
    clear hp' hf' hpK hfK
    go_wp2_with fail
    go_ret
    exact ⟨rfl, own', HE.out⟩
end Go.Proofs.YtfbcdmhmpfijjaaGreatDoor

namespace Go.Proofs.YtfbcdmhmpfijjaaGreatDoor
open Go Go.RowKit

set_option maxRecDepth 100000 in
set_option maxHeartbeats 3200000 in
theorem whole_any (w : World) (pb : Nat) (L : Lay) (R : RLay) (s : St) (own : Nat → Lb) (C : Nat) (h : PairAt w pb L R s own (fun _ => 0) C) (hC : C + 900 ≤ 900000) :
    Calls Tryz.prog 14 #[.pointer (some ⟨pb, 0, none⟩)] w fun e w' => e = .returned (.bool true) ∧ ∃ own', PFr L R w own w' own' := by
  have HP := Lib.hid h
  have HL18 := Lib.hid (looked18 w pb L R s own _ C h)
  have hpl := h.lt
  clear h
  go_enter Tryz.func14, Tryz.ntmps14
  go_wp2_with fail
  refine (HL18.out _ _ _ _ _ _ _).mono ?_
  rintro e w1 ⟨rfl, hs1⟩
  have HS1 := Lib.hid hs1
  have HL20 := Lib.hid (looked20 w1 pb L R s own _ C (HP.out.still hs1) (by omega))
  clear hs1 HL18
  go_wp2_with fail
  refine (HL20.out _ _ _ _ _ _ _).mono ?_
  rintro e w2 ⟨rfl, own2, hp2, hf2⟩
  have HP2 := Lib.hid hp2
  have HF2 : Hid (PFr L R w own w2 own2) := Lib.hid ((PFr.of HS1.out).trans hf2)
  have HA := Lib.hid (fun Q hQ => kapart_any w2 pb _ _ own2 (C + 48) hp2.k (by omega) Q hQ)
  have hpl2 := hp2.lt
  clear hp2 hf2 HL20
  go_wp2_with fail
  refine HA.out _ (fun w3 own3 qf hk hf => ?_)
  have hp3 := HP2.out.lists hk hf HP2.out.rf.top
  have HF3 : Hid (PFr L R w own w3 own3) := Lib.hid (HF2.out.trans (KFB.pfr (Only.refl _ _ _) hf))
  have HL20 := Lib.hid (looked20 w3 pb L R s own3 qf (C + 48 + 800) hp3 (by omega))
  clear hk hf hp3 HA hpl2
  go_wp2_with fail
  refine (HL20.out _ _ _ _ _ _ _).mono ?_
  rintro e w4 ⟨rfl, own4, hp4, hf4⟩
  have HF4 : Hid (PFr L R w own w4 own4) := Lib.hid (HF3.out.trans hf4)
  clear hp4 hf4 HL20
  go_wp2_with fail
  go_ret
  exact ⟨rfl, own4, HF4.out⟩
theorem below_pfr {L : Lay} {R : RLay} {w0 w w' : World} {own own' : Nat → Lb} (h : PFr L R w own w' own') (hs : Still w0 w) (hl : w0.heap.size ≤ L.lo) (ho : ∀ g, own g ≠ Lno → w0.heap.size ≤ g) : Below w0.heap.size w0 w' :=
  ⟨h.kf.os.trans hs.os, h.kf.tape.trans hs.tape, h.kf.output.trans hs.output, Nat.le_trans hs.size h.kf.size, fun g hg => (h.kf.block g (Nat.lt_of_lt_of_le hg hs.size) fun hq => hq.elim (fun e => by have := ho g e; omega) fun e => by omega).trans (hs.block g hg (.inl hg))⟩
set_option maxRecDepth 100000 in
set_option maxHeartbeats 3200000 in
theorem news_any (n : Int) (w : World) (_hn : (Lit.int .i64 n).wf = true) (hT : Tab w) (h0 : 0 < w.heap.size) :
    Calls Tryz.prog 3 #[.int .i64 n] w fun e w' => e = .returned (.bool true) ∧ Below w.heap.size w w' := by
  have HM := Lib.hid (fun Q h1 h2 => made_any n w hT h0 Q h1 h2)
  have HT := Lib.hid hT
  have H0 := Lib.hid h0
  clear hT h0 _hn
  go_enter Tryz.func3, Tryz.ntmps3
  go_wp2_with fail
  refine HM.out _ (fun w1 hs1 => ?_) (fun m w1 L R pb hm hm1 hm2 hlo hlr hrp hsp hrf hpb hs1 => ?_)
  · have HA := Lib.hid (alive_any w1 (HT.out.only hs1 H0.out) (by have := hs1.size; have := H0.out; omega))
    have HS1 := Lib.hid hs1
    clear hs1 HM
    go_wp2_with fail
    refine HA.out.mono ?_
    rintro e w2 ⟨rfl, hs2⟩
    have HS2 := Lib.hid (Still.trans HS1.out hs2)
    clear hs2 HA
    go_wp2_with fail
    go_ret
    exact ⟨rfl, HS2.out.below⟩
  · have hp := pair_new hm1 hm2 hlr hrp hsp hrf hpb
    have HP := Lib.hid hp
    have HA := Lib.hid (alive_any w1 hsp.tab hsp.lo0)
    have HS1 := Lib.hid hs1
    have HLO := Lib.hid (And.intro hlo (And.intro hp.rlo hlr))
    clear hs1 HM hm hm1 hm2 hlo hlr hrp hsp hrf hpb hp
    go_wp2_with fail
    refine HA.out.mono ?_
    rintro e w2 ⟨rfl, hs2⟩
    have HS2 := Lib.hid (Still.trans HS1.out hs2)
    have hp2 := HP.out.still hs2
    have HL19 := Lib.hid (looked19 w2 pb L R _ _ _ _ hp2)
    have HP2 := Lib.hid hp2
    have hpl := hp2.lt
    clear hs2 HA hp2
    go_wp2_with fail
    refine (HL19.out _ _ _ _ _ _ _).mono ?_
    rintro e w3 ⟨rfl, hs3⟩
    have HS3 := Lib.hid (Still.trans HS2.out hs3)
    have HW := Lib.hid (whole_any w3 pb L R _ _ _ (HP2.out.still hs3) (by omega))
    clear hs3 HL19
    go_wp2_with fail
    refine HW.out.mono ?_
    rintro e w4 ⟨rfl, own4, hf4⟩
    have HF4 : Hid (Below w.heap.size w w4) := Lib.hid (below_pfr hf4 HS3.out (Nat.le_of_eq HLO.out.1.symm) fun g hg => by
      have e : g = pb := by
        by_cases e : g = pb
        · exact e
        · rw [if_neg e] at hg; exact absurd rfl hg
      have := HLO.out
      omega)
    clear hf4 HW
    go_wp2_with fail
    go_ret
    exact ⟨rfl, HF4.out⟩
end Go.Proofs.YtfbcdmhmpfijjaaGreatDoor
