/-
  The walk of turned: Alloc.
-/
import Derived.Laws.Rows
import Derived.Test.YtfbcdmhmpfijjaaGreatDoorQ41
set_option linter.unusedVariables false
set_option linter.unusedSimpArgs false
set_option linter.unusedSectionVars false
namespace Go.Proofs.YtfbcdmhmpfijjaaGreatDoor
open Go Go.RowKit
theorem cell2_set {W:World} {b:Nat} {cs:Array Value} {T:TypeId} {fr:Nat × Nat} (h:W.heap[b]?=some (.cells cs T fr)) (p:Nat) (v:Value):(W.setCell ⟨b,p,none⟩ v).heap[b]?=some (.cells (cs.setIfInBounds p v) T fr):=by
 simp only [World.setCell,Array.getElem?_modify,h,if_pos,Option.map_some,Option.isSome_none,Bool.false_eq_true,if_false]
theorem fresh2 {lo hi:Nat} {W w':World} (ho:Only lo hi W w') (w:World) (o:Obj) (hW:W.heap=(w.alloc o).heap) (h:hi ≤ w.heap.size):w'.heap[w.heap.size]?=some o :=
 (ho.block _ (by rw [hW];simp) (.inr h)).trans (by rw [hW];exact heap_alloc_new w o)
set_option maxRecDepth 100000 in
set_option maxHeartbeats 6400000 in
theorem turned1 (w:World) (pb:Nat) (L:Lay) (R:RLay) (s:St) (own:Nat → Lb) (qf:Nat → Nat) (C:Nat) (h:PairAt w pb L R s own qf C) (wh a b c:Int) (la:Option Addr) (ll lc:Nat) (hz:(Lit.int .i64 b).wf=true) (hac:s.acts + 2 ≤ 1000000000000) (Q:Ending → World → Prop)
 (hQ:∀ w' s',PairAt w' pb L R s' own qf C → s'.n=s.n → s'.acts ≤ s.acts + 2 → PFr L R w own w' own → Q (.returned (.bool true)) w') :
 Calls Tryz.prog 43 #[.pointer (some ⟨pb,0,none⟩),opVal wh 1 a b c la ll lc] w Q:=by
 have HQ:=Lib.hid hQ
 obtain ⟨x,e,f,s',hal⟩:=al_ex s a b c
 have HIN:=Lib.hid (hal.inv h.iv h.sp.lowle)
 have HIV:=Lib.hid h.iv
 have HLO:=Lib.hid h.sp.lowle
 have HN24:=Lib.hid h.n24
 have HA1:Hid (∀ W,SpaceAt W L s → ∀ Q:Ending → World → Prop,(∀ w',SpaceAt w' L s' → Only L.lo L.hi W w' → Q (.returned (.tuple #[.int .i64 x,faultV e f])) w') → Calls Tryz.prog 19 #[.pointer (some ⟨L.sb,0,none⟩),.int .i64 a,.int .i64 b,.int .i64 c] W Q):=Lib.hid fun W hW Q hQ => salloc_al W L s s' hW HIV.out a b c x e f hz hac hal Q hQ
 have HA2:Hid (∀ W,RefAt W R s → ∀ Q:Ending → World → Prop,(∀ w',RefAt w' R s' → Only R.lo R.hi W w' → Q (.returned (.tuple #[.int .i64 x,faultV e f])) w') → Calls Tryz.prog 91 #[.pointer (some ⟨R.rb,0,none⟩),.int .i64 a,.int .i64 b,.int .i64 c] W Q):=Lib.hid fun W hW Q hQ => ralloc_al W R s s' hW HIV.out HLO.out a b c x e f hz hac hal Q hQ
 have hp:=h.pr2
 obtain ⟨hl1,hl2,hl3⟩:=hp.lohi
 have hlr:=h.lr
 have HP:=Lib.hid hp
 clear h hal hQ hz hac hp
 go_enter Tryz.func43,Tryz.ntmps43
 go_upto_region 3 with fail
 have hbo:=heap_alloc_new w (opObj wh 1 a b c la ll lc)
 have hsb:Still w (w.alloc (opObj wh 1 a b c la ll lc)):=(Only.refl _ _ w).alloc _
 generalize w.alloc (opObj wh 1 a b c la ll lc)=w1 at *
 generalize hob:w.heap.size=ob at *
 have hob1:=(Array.getElem?_eq_some_iff.1 hbo).1
 have HP1:=Lib.hid (HP.out.still hsb)
 have HF1:Hid (PFr L R w own w1 own):=Lib.hid (PFr.of hsb)
 have HOP:Hid (∀ lo hi W,Only lo hi w1 W → hi ≤ ob ∨ ob < lo → W.cell? ⟨ob,2,none⟩=some (.int .i64 a) ∧ W.cell? ⟨ob,3,none⟩=some (.int .i64 b) ∧ W.cell? ⟨ob,4,none⟩=some (.int .i64 c) ∧ ob < W.heap.size):=Lib.hid fun lo hi W ho hh => by
  have hb:=(ho.block _ hob1 (by omega)).trans hbo
  exact ⟨cell_of (v:=.int .i64 a) hb 2 rfl,cell_of (v:=.int .i64 b) hb 3 rfl,cell_of (v:=.int .i64 c) hb 4 rfl,(Array.getElem?_eq_some_iff.1 hb).1⟩
 have HTOP:Hid (L.hi ≤ w1.heap.size ∧ R.hi ≤ w1.heap.size):=Lib.hid ⟨HP1.out.sp.top,HP1.out.rf.top⟩
 clear hsb hbo hob
 have hpK:=HP1.out
 have hsC:Only L.lo L.hi w1 w1:=Only.refl _ _ _
 have HK:Hid (∀ W,Only L.lo L.hi w1 W → W.cell? ⟨pb,0,none⟩=some (.pointer (some ⟨L.sb,0,none⟩)) ∧ W.cell? ⟨ob,2,none⟩=some (.int .i64 a) ∧ W.cell? ⟨ob,3,none⟩=some (.int .i64 b) ∧ W.cell? ⟨ob,4,none⟩=some (.int .i64 c)):=Lib.hid fun W hW => by
  obtain ⟨a1,a2,a3,_⟩:=HOP.out _ _ W hW (.inl (by omega))
  refine ⟨?_,a1,a2,a3⟩
  have hpb:=HP1.out.lt
  have hr:R.hi ≤ pb:=by
   obtain ⟨v,ls,hk⟩:=HP1.out.k
   exact HP1.out.ow pb (by rw [hk.hd.opb];intro e;cases e)
  exact (hW.cell (p:=⟨pb,0,none⟩) hpb (.inr (by show L.hi ≤ pb;omega))).trans HP1.out.c0
 obtain ⟨k0,k2,k3,k4⟩:=HK.out _ hsC
 have hpl:=HP1.out.lt
 go_cut [5,6] from 18 to 30 (fun s5 s6 wx => ∃ fb:Nat,s5=.int .i64 x ∧ s6=.pointer (some ⟨fb,0,none⟩) ∧ w1.heap.size ≤ fb ∧ wx.heap[fb]?=some (.cells #[.int .i64 e,.int .i64 f] 50 (0,0)) ∧ Only L.lo L.hi w1 wx ∧ SpaceAt wx L s')
 case first =>
  go_region_held3 (fun w' => w'.cell? ⟨pb,0,none⟩=some (.pointer (some ⟨L.sb,0,none⟩)) ∧ w'.cell? ⟨ob,2,none⟩=some (.int .i64 a) ∧ w'.cell? ⟨ob,3,none⟩=some (.int .i64 b) ∧ w'.cell? ⟨ob,4,none⟩=some (.int .i64 c))
   ((refine HK.out _ ?_;(repeat first | with_reducible exact hsC | with_reducible exact Only.refl _ _ _ | with_reducible apply Only.drew | with_reducible apply Only.drewN | with_reducible apply Only.alloc | (with_reducible refine Only.setCell ?_ (.inr (Nat.le_refl _)) _))))
   (first
     | (go_at_call 19;refine HA1.out _ (HP1.out.sp.still (by (repeat first | with_reducible exact Only.refl _ _ _ | with_reducible apply Only.drew | with_reducible apply Only.drewN | with_reducible apply Only.alloc))) _ ?_;intro wp hsp hcall;have hsC:Only L.lo L.hi w1 wp:=Only.trans (by (repeat first | with_reducible exact hsC | with_reducible exact Only.refl _ _ _ | with_reducible apply Only.drew | with_reducible apply Only.drewN | with_reducible apply Only.alloc | (with_reducible refine Only.setCell ?_ (.inr (Nat.le_refl _)) _))) hcall;(try (have hzb:=fresh2 hcall w1 (.cells #[.int .i64 0,.int .i64 0] 50) rfl HTOP.out.1;have hz0:=cell_of (v:=.int .i64 0) hzb 0 rfl;have hz1:=cell_of (v:=.int .i64 0) hzb 1 rfl;have hf0:=frozen_of hzb 0;have hf1:=frozen_of hzb 1;have hlz:=(Array.getElem?_eq_some_iff.1 hzb).1))))
  all_goals
   rename_i hHeld
   clear hHeld
   first
   | (have hres:∃ fb:Nat,(.pointer (some ⟨wp.heap.size,0,none⟩):Value)=.pointer (some ⟨fb,0,none⟩) ∧ w1.heap.size ≤ fb ∧ (wp.alloc (.cells #[.int .i64 e,.int .i64 f] 50)).heap[fb]?=some (.cells #[.int .i64 e,.int .i64 f] 50 (0,0)) ∧ Only L.lo L.hi w1 (wp.alloc (.cells #[.int .i64 e,.int .i64 f] 50)) ∧ SpaceAt (wp.alloc (.cells #[.int .i64 e,.int .i64 f] 50)) L s' :=
       ⟨wp.heap.size,rfl,hsC.size,heap_alloc_new wp _,hsC.alloc _,hsp.alloc _⟩
      have HRES:=Lib.hid hres
      clear hres hsp hcall
      go_wp2_with fail
      go_meet
      obtain ⟨fb,hh⟩:=HRES.out
      exact ⟨fb,rfl,hh⟩)
   | (have hres:∃ fb:Nat,(.pointer (some ⟨w1.heap.size,0,none⟩):Value)=.pointer (some ⟨fb,0,none⟩) ∧ w1.heap.size ≤ fb ∧ ((wp.setCell ⟨w1.heap.size,0,none⟩ (.int .i64 e)).setCell ⟨w1.heap.size,1,none⟩ (.int .i64 f)).heap[fb]?=some (.cells #[.int .i64 e,.int .i64 f] 50 (0,0)) ∧ Only L.lo L.hi w1 ((wp.setCell ⟨w1.heap.size,0,none⟩ (.int .i64 e)).setCell ⟨w1.heap.size,1,none⟩ (.int .i64 f)) ∧ SpaceAt ((wp.setCell ⟨w1.heap.size,0,none⟩ (.int .i64 e)).setCell ⟨w1.heap.size,1,none⟩ (.int .i64 f)) L s' :=
       ⟨w1.heap.size,rfl,Nat.le_refl _,cell2_set (cell2_set hzb 0 (.int .i64 e)) 1 (.int .i64 f),(hsC.setCell (p:=⟨w1.heap.size,0,none⟩) (.inr (Nat.le_refl _)) _).setCell (p:=⟨w1.heap.size,1,none⟩) (.inr (Nat.le_refl _)) _,(hsp.setNew HTOP.out.1 0 _).setNew HTOP.out.1 1 _⟩
      have HRES:=Lib.hid hres
      clear hres hsp hcall
      go_wp2_with fail
      go_meet
      obtain ⟨fb,hh⟩:=HRES.out
      exact ⟨fb,rfl,hh⟩)
 case rest =>
  obtain ⟨fb,rfl,rfl,hfb,hbx,ho1,hs1⟩:=hcut
  generalize wc=w2 at *
  have HP2:=Lib.hid (HP1.out.space ho1 hs1)
  have HO1:=Lib.hid ho1
  have HFB:=Lib.hid hfb
  have HBX:=Lib.hid hbx
  obtain ⟨a1,a2,a3,a4⟩:=HOP.out _ _ _ ho1 (.inl (by omega))
  have hopb:R.hi ≤ pb:=by
   obtain ⟨v,ls,hk⟩:=HP1.out.k
   exact HP1.out.ow pb (by rw [hk.hd.opb];intro e;cases e)
  have hob2:ob < w2.heap.size:=a4
  clear hsC k0 k2 k3 k4
  have hsC:Only R.lo R.hi w2 w2:=Only.refl _ _ _
  have HK2:Hid (∀ W,Only R.lo R.hi w2 W → W.cell? ⟨pb,1,none⟩=some (.pointer (some ⟨R.rb,0,none⟩)) ∧ W.cell? ⟨ob,2,none⟩=some (.int .i64 a) ∧ W.cell? ⟨ob,3,none⟩=some (.int .i64 b) ∧ W.cell? ⟨ob,4,none⟩=some (.int .i64 c)):=Lib.hid fun W hW => by
   have hx:∀ i,W.cell? ⟨ob,i,none⟩=w2.cell? ⟨ob,i,none⟩:=fun i => hW.cell (p:=⟨ob,i,none⟩) hob2 (.inr (by show R.hi ≤ ob;omega))
   exact ⟨(hW.cell (p:=⟨pb,1,none⟩) HP2.out.lt (.inr hopb)).trans HP2.out.c1,(hx 2).trans a1,(hx 3).trans a2,(hx 4).trans a3⟩
  obtain ⟨k1,k2,k3,k4⟩:=HK2.out _ hsC
  have hpl2:=HP2.out.lt
  have HTOP2:Hid (R.hi ≤ w2.heap.size):=Lib.hid HP2.out.rf.top
  clear ho1 hs1 hbx a1 a2 a3 hpl hob1
  go_wp2_with fail
  go_cut [7,8] from 31 to 44 (fun s7 s8 wx => ∃ gb:Nat,s7=.int .i64 x ∧ s8=.pointer (some ⟨gb,0,none⟩) ∧ w2.heap.size ≤ gb ∧ wx.heap[gb]?=some (.cells #[.int .i64 e,.int .i64 f] 100 (0,0)) ∧ Only R.lo R.hi w2 wx ∧ RefAt wx R s')
  case first =>
   go_region_held3 (fun w' => w'.cell? ⟨pb,1,none⟩=some (.pointer (some ⟨R.rb,0,none⟩)) ∧ w'.cell? ⟨ob,2,none⟩=some (.int .i64 a) ∧ w'.cell? ⟨ob,3,none⟩=some (.int .i64 b) ∧ w'.cell? ⟨ob,4,none⟩=some (.int .i64 c))
    ((refine HK2.out _ ?_;(repeat first | with_reducible exact hsC | with_reducible exact Only.refl _ _ _ | with_reducible apply Only.drew | with_reducible apply Only.drewN | with_reducible apply Only.alloc | (with_reducible refine Only.setCell ?_ (.inr (Nat.le_refl _)) _))))
    (first
      | (go_at_call 91;refine HA2.out _ (HP2.out.rf.still (by (repeat first | with_reducible exact Only.refl _ _ _ | with_reducible apply Only.drew | with_reducible apply Only.drewN | with_reducible apply Only.alloc))) _ ?_;intro wp hsp hcall;have hsC:Only R.lo R.hi w2 wp:=Only.trans (by (repeat first | with_reducible exact hsC | with_reducible exact Only.refl _ _ _ | with_reducible apply Only.drew | with_reducible apply Only.drewN | with_reducible apply Only.alloc | (with_reducible refine Only.setCell ?_ (.inr (Nat.le_refl _)) _))) hcall;(try (have hzb:=fresh2 hcall w2 (.cells #[.int .i64 0,.int .i64 0] 100) rfl HTOP2.out;have hz0:=cell_of (v:=.int .i64 0) hzb 0 rfl;have hz1:=cell_of (v:=.int .i64 0) hzb 1 rfl;have hf0:=frozen_of hzb 0;have hf1:=frozen_of hzb 1;have hlz:=(Array.getElem?_eq_some_iff.1 hzb).1))))
   all_goals
    rename_i hHeld
    clear hHeld
    first
    | (have hres:∃ fb:Nat,(.pointer (some ⟨wp.heap.size,0,none⟩):Value)=.pointer (some ⟨fb,0,none⟩) ∧ w2.heap.size ≤ fb ∧ (wp.alloc (.cells #[.int .i64 e,.int .i64 f] 100)).heap[fb]?=some (.cells #[.int .i64 e,.int .i64 f] 100 (0,0)) ∧ Only R.lo R.hi w2 (wp.alloc (.cells #[.int .i64 e,.int .i64 f] 100)) ∧ RefAt (wp.alloc (.cells #[.int .i64 e,.int .i64 f] 100)) R s' :=
        ⟨wp.heap.size,rfl,hsC.size,heap_alloc_new wp _,hsC.alloc _,hsp.alloc _⟩
       have HRES:=Lib.hid hres
       clear hres hsp hcall
       go_wp2_with fail
       go_meet
       obtain ⟨fb,hh⟩:=HRES.out
       exact ⟨fb,rfl,hh⟩)
    | (have hres:∃ fb:Nat,(.pointer (some ⟨w2.heap.size,0,none⟩):Value)=.pointer (some ⟨fb,0,none⟩) ∧ w2.heap.size ≤ fb ∧ ((wp.setCell ⟨w2.heap.size,0,none⟩ (.int .i64 e)).setCell ⟨w2.heap.size,1,none⟩ (.int .i64 f)).heap[fb]?=some (.cells #[.int .i64 e,.int .i64 f] 100 (0,0)) ∧ Only R.lo R.hi w2 ((wp.setCell ⟨w2.heap.size,0,none⟩ (.int .i64 e)).setCell ⟨w2.heap.size,1,none⟩ (.int .i64 f)) ∧ RefAt ((wp.setCell ⟨w2.heap.size,0,none⟩ (.int .i64 e)).setCell ⟨w2.heap.size,1,none⟩ (.int .i64 f)) R s' :=
        ⟨w2.heap.size,rfl,Nat.le_refl _,cell2_set (cell2_set hzb 0 (.int .i64 e)) 1 (.int .i64 f),(hsC.setCell (p:=⟨w2.heap.size,0,none⟩) (.inr (Nat.le_refl _)) _).setCell (p:=⟨w2.heap.size,1,none⟩) (.inr (Nat.le_refl _)) _,(hsp.kept (only_cell _ _ _ _) (.inl HTOP2.out)).kept (only_cell _ _ _ _) (.inl HTOP2.out)⟩
       have HRES:=Lib.hid hres
       clear hres hsp hcall
       go_wp2_with fail
       go_meet
       obtain ⟨fb,hh⟩:=HRES.out
       exact ⟨fb,rfl,hh⟩)
  case rest =>
   obtain ⟨gb,rfl,rfl,hgb,hbx2,ho2,hr2⟩:=hcut
   generalize wc=w3 at *
   have HP3:=Lib.hid (HP2.out.ref ho2 hr2)
   have HF3:Hid (PFr L R w own w3 own):=Lib.hid ((HF1.out.turn (HO1.out.mono (Nat.le_refl _) (by omega))).turn (ho2.mono (by omega) (Nat.le_refl _)))
   have hb1:=(ho2.block fb (Array.getElem?_eq_some_iff.1 HBX.out).1 (.inr (by have:=HTOP.out.2;have:=HFB.out;omega))).trans HBX.out
   have x0:=cell_of (v:=.int .i64 e) hb1 0 rfl
   have x1:=cell_of (v:=.int .i64 f) hb1 1 rfl
   have y0:=cell_of (v:=.int .i64 e) hbx2 0 rfl
   have y1:=cell_of (v:=.int .i64 f) hbx2 1 rfl
   have lx:=(Array.getElem?_eq_some_iff.1 hb1).1
   have ly:=(Array.getElem?_eq_some_iff.1 hbx2).1
   have HAL:=Lib.hid (alike_same e f w3)
   have hxx:(x == x)=true:=by simp
   clear hb1 hbx2 ho2 hr2 hgb hsC k1 k2 k3 k4
   go_wp2_with fail
   refine HAL.out.mono ?_
   rintro e' w4 ⟨rfl,hs4⟩
   have HE:Hid (Q (.returned (.bool true)) w4):=Lib.hid (HQ.out w4 s' ((HP3.out.still hs4).pair HIN.out.1 (by rw [HIN.out.2.1];exact HN24.out)) HIN.out.2.1 HIN.out.2.2 (HF3.out.still hs4))
   clear hs4
   go_wp2_with fail
   exact HE.out
end Go.Proofs.YtfbcdmhmpfijjaaGreatDoor
