/-
  The walks of whole and of SpaceNews.
-/
import Derived.Laws.Rows
import Derived.Test.YtfbcdmhmpfijjaaGreatDoorQ24
import Derived.Deep.Cut
import Derived.Deep.CutRange
import Derived.Test.YtfbcdmhmpfijjaaGreatDoorQ31
import Derived.Test.YtfbcdmhmpfijjaaGreatDoorQ19
set_option linter.unusedVariables false
set_option linter.unusedSimpArgs false
set_option linter.unusedSectionVars false
namespace Go.Proofs.YtfbcdmhmpfijjaaGreatDoor
open Go Go.RowKit
set_option maxRecDepth 100000 in
set_option maxHeartbeats 6400000 in
theorem rdump_any (w:World) (R:RLay) (s:St) (h:RefAt w R s) (hs:s.RefOk) (Q:Ending → World → Prop)
 (hQ:∀ v1 v2 v3 w',Lists w' w.heap.size s v1 v2 v3 → Still w w' → Q (.returned (.agg #[v1,v2,v3,.int .i64 (s.hd0 0),.int .i64 (s.hd0 1),.int .i64 (s.hd0 2),.int .i64 (s.hd0 3),.int .i64 (s.hd0 4),.int .i64 (s.hd0 5),.int .i64 (s.hd0 6),.int .i64 (s.hd0 7),.int .i64 s.ser])) w') :
 Calls Tryz.prog 40 #[.pointer (some ⟨R.rb,0,none⟩)] w Q:=by
 have HS:=Lib.hid h
 have HQ:=Lib.hid hQ
 clear hQ
 go_enter Tryz.func40,Tryz.ntmps40
 go_wp2_with fail
 have hb0:(w.alloc zero12).heap[w.heap.size]?=some zero12:=heap_alloc_new w _
 have hst:Still w (w.alloc zero12):=(Only.refl _ _ w).alloc _
 have H1:=Lib.hid (h.still hst)
 have hs1:R.hi ≤ (w.alloc zero12).heap.size:=H1.out.top
 unfold zero12 at *
 generalize w.alloc (.cells #[.slice none 0 0,.slice none 0 0,.slice none 0 0,.int .i64 0,.int .i64 0,.int .i64 0,.int .i64 0,.int .i64 0,.int .i64 0,.int .i64 0,.int .i64 0,.int .i64 0] 73)=w1 at *
 have HB0:=Lib.hid hb0
 have HST:=Lib.hid hst
 have c0:=H1.out.c0
 have c1:=H1.out.c1
 have c3:=H1.out.c3
 have t0:=H1.out.t0
 obtain ⟨l1,l2,l3,l4,l5⟩:=H1.out.lts
 have HAPP:=Lib.hid (fun w' (h:RefAt w' R s) => rwords_copy w' R s h)
 have HALL:=Lib.hid (fun w' (h:RefAt w' R s) => rpages_copy w' R s h)
 have HBLK:=Lib.hid (fun w' (h:RefAt w' R s) => rblocks_of w' R s h hs)
 obtain ⟨N,hN⟩:∃ N,64 * s.n=N:=⟨_,rfl⟩
 rw [hN] at c0 HAPP
 have HN:=Lib.hid hN
 obtain ⟨ser,hser⟩:∃ ser,s.ser=ser:=⟨_,rfl⟩
 rw [hser] at c3
 have HSE:=Lib.hid hser
 have HC:Hid (∀ w',Still w1 w' → w'.cell? ⟨R.rb,0,none⟩=some (.slice (some ⟨R.wb,0,none⟩) N R.cw) ∧ w'.cell? ⟨R.rb,1,none⟩=some (.pointer (some ⟨R.tb,0,none⟩)) ∧ w'.cell? ⟨R.tb,0,none⟩=some (.slice (some ⟨R.pb,0,none⟩) s.n R.cp) ∧ w'.cell? ⟨R.rb,3,none⟩=some (.int .i64 ser)):=Lib.hid fun w' hs => by
  have:=H1.out.still hs
  have h1:=this.c0
  have h2:=this.c3
  rw [hN] at h1
  rw [hser] at h2
  exact ⟨h1,this.c1,this.t0,h2⟩
 have HRO:=Lib.hid hs
 have HW1:Hid (w.heap.size < w1.heap.size):=Lib.hid (Array.getElem?_eq_some_iff.1 hb0).1
 clear h hb0 hst hN hser hs
 go_cut [3] from 5 to 24 (fun s3 wx => ∃ db v1 v2 v3,s3=.pointer (some ⟨db,0,none⟩) ∧ DmpAt w1 w1.heap.size s db v1 v2 v3 (fun _ => 0) wx)
 case first =>
  have hsC:Still w1 w1:=Only.refl _ _ _
  clear hs1
  go_region_held3 (fun w' => w'.cell? ⟨R.rb,0,none⟩=some (.slice (some ⟨R.wb,0,none⟩) N R.cw) ∧ w'.cell? ⟨R.rb,1,none⟩=some (.pointer (some ⟨R.tb,0,none⟩)) ∧ w'.cell? ⟨R.tb,0,none⟩=some (.slice (some ⟨R.pb,0,none⟩) s.n R.cp) ∧ w'.cell? ⟨R.rb,3,none⟩=some (.int .i64 ser))
   (first | with_reducible exact ⟨k0,k1,k2,k3⟩ | (refine HC.out _ ?_;repeat first | with_reducible exact hsC | with_reducible exact Only.refl _ _ _ | with_reducible apply Only.drew | with_reducible apply Only.drewN | with_reducible apply Only.alloc | (with_reducible refine Only.setCell ?_ (.inr ?_) _;rotate_left;(dsimp only;omega))))
   (first
     | (refine step_append_some rfl _ _ 27 rfl _ _ rfl rfl (HAPP.out _ (H1.out.still (by (repeat first | exact hsC | exact Only.refl _ _ _ | apply Only.drew | apply Only.drewN | apply Only.alloc)))) (fun v1 wa hR => ?_);obtain ⟨hr1,hcall⟩:=hR;obtain ⟨a1,n1,p1,rfl⟩:=own_slice hr1;have hr1:=ownsRow_le hr1 (Only.size (lo:=w1.heap.size) (hi:=w1.heap.size) (w:=w1) (by (repeat first | exact hsC | exact Only.refl _ _ _ | apply Only.drew | apply Only.drewN | apply Only.alloc)));(try have hr2:=ownsRow_still hr2 (Still.trans (by (repeat first | exact hsC | exact Only.refl _ _ _ | apply Only.drew | apply Only.drewN | apply Only.alloc)) hcall));(try have hr3:=ownsRow_still hr3 (Still.trans (by (repeat first | exact hsC | exact Only.refl _ _ _ | apply Only.drew | apply Only.drewN | apply Only.alloc)) hcall));(try (first | (have hzb:=at_only hcall hzb (.inl (Array.getElem?_eq_some_iff.1 hzb).1)) | (have hzb:=fresh_still hcall rfl));have hz0:=cell_of (v:=.slice none 0 0) hzb 0 rfl;have hf0:=frozen_of hzb 0;have hz1:=cell_of (v:=.slice none 0 0) hzb 1 rfl;have hf1:=frozen_of hzb 1;have hz2:=cell_of (v:=.slice none 0 0) hzb 2 rfl;have hf2:=frozen_of hzb 2;have hz3:=cell_of (v:=.int .i64 0) hzb 3 rfl;have hf3:=frozen_of hzb 3;have hz4:=cell_of (v:=.int .i64 0) hzb 4 rfl;have hf4:=frozen_of hzb 4;have hz5:=cell_of (v:=.int .i64 0) hzb 5 rfl;have hf5:=frozen_of hzb 5;have hz6:=cell_of (v:=.int .i64 0) hzb 6 rfl;have hf6:=frozen_of hzb 6;have hz7:=cell_of (v:=.int .i64 0) hzb 7 rfl;have hf7:=frozen_of hzb 7;have hz8:=cell_of (v:=.int .i64 0) hzb 8 rfl;have hf8:=frozen_of hzb 8;have hz9:=cell_of (v:=.int .i64 0) hzb 9 rfl;have hf9:=frozen_of hzb 9;have hz10:=cell_of (v:=.int .i64 0) hzb 10 rfl;have hf10:=frozen_of hzb 10;have hz11:=cell_of (v:=.int .i64 0) hzb 11 rfl;have hf11:=frozen_of hzb 11;have hlz:=(Array.getElem?_eq_some_iff.1 hzb).1);have hsC:Still w1 wa:=Still.trans (by (repeat first | exact hsC | exact Only.refl _ _ _ | apply Only.drew | apply Only.drewN | apply Only.alloc)) hcall;have hszC:=hsC.size;obtain ⟨k0,k1,k2,k3⟩:=HC.out _ hsC)
     | (refine step_append_some rfl _ _ 70 rfl _ _ rfl rfl (HALL.out _ (H1.out.still (by (repeat first | exact hsC | exact Only.refl _ _ _ | apply Only.drew | apply Only.drewN | apply Only.alloc)))) (fun v2 wp hR => ?_);obtain ⟨hr2,hcall⟩:=hR;obtain ⟨a2,n2,p2,rfl⟩:=own_slice hr2;have hr2:=ownsRow_le hr2 (Only.size (lo:=w1.heap.size) (hi:=w1.heap.size) (w:=w1) (by (repeat first | exact hsC | exact Only.refl _ _ _ | apply Only.drew | apply Only.drewN | apply Only.alloc)));(try have hr1:=ownsRow_still hr1 (Still.trans (by (repeat first | exact hsC | exact Only.refl _ _ _ | apply Only.drew | apply Only.drewN | apply Only.alloc)) hcall));(try have hr3:=ownsRow_still hr3 (Still.trans (by (repeat first | exact hsC | exact Only.refl _ _ _ | apply Only.drew | apply Only.drewN | apply Only.alloc)) hcall));(try (first | (have hzb:=at_only hcall hzb (.inl (Array.getElem?_eq_some_iff.1 hzb).1)) | (have hzb:=fresh_still hcall rfl));have hz0:=cell_of (v:=.slice none 0 0) hzb 0 rfl;have hf0:=frozen_of hzb 0;have hz1:=cell_of (v:=.slice none 0 0) hzb 1 rfl;have hf1:=frozen_of hzb 1;have hz2:=cell_of (v:=.slice none 0 0) hzb 2 rfl;have hf2:=frozen_of hzb 2;have hz3:=cell_of (v:=.int .i64 0) hzb 3 rfl;have hf3:=frozen_of hzb 3;have hz4:=cell_of (v:=.int .i64 0) hzb 4 rfl;have hf4:=frozen_of hzb 4;have hz5:=cell_of (v:=.int .i64 0) hzb 5 rfl;have hf5:=frozen_of hzb 5;have hz6:=cell_of (v:=.int .i64 0) hzb 6 rfl;have hf6:=frozen_of hzb 6;have hz7:=cell_of (v:=.int .i64 0) hzb 7 rfl;have hf7:=frozen_of hzb 7;have hz8:=cell_of (v:=.int .i64 0) hzb 8 rfl;have hf8:=frozen_of hzb 8;have hz9:=cell_of (v:=.int .i64 0) hzb 9 rfl;have hf9:=frozen_of hzb 9;have hz10:=cell_of (v:=.int .i64 0) hzb 10 rfl;have hf10:=frozen_of hzb 10;have hz11:=cell_of (v:=.int .i64 0) hzb 11 rfl;have hf11:=frozen_of hzb 11;have hlz:=(Array.getElem?_eq_some_iff.1 hzb).1);have hsC:Still w1 wp:=Still.trans (by (repeat first | exact hsC | exact Only.refl _ _ _ | apply Only.drew | apply Only.drewN | apply Only.alloc)) hcall;have hszC:=hsC.size;obtain ⟨k0,k1,k2,k3⟩:=HC.out _ hsC)
     | (go_at_call 32;refine (HBLK.out _ (H1.out.still (by (repeat first | exact hsC | exact Only.refl _ _ _ | apply Only.drew | apply Only.drewN | apply Only.alloc)))).mono ?_;rintro e wq ⟨⟨v3,rfl,hr3⟩,hcall⟩;obtain ⟨a3,n3,p3,rfl⟩:=own_slice hr3;have hr3:=ownsRow_le hr3 (Only.size (lo:=w1.heap.size) (hi:=w1.heap.size) (w:=w1) (by (repeat first | exact hsC | exact Only.refl _ _ _ | apply Only.drew | apply Only.drewN | apply Only.alloc)));(try have hr1:=ownsRow_still hr1 (Still.trans (by (repeat first | exact hsC | exact Only.refl _ _ _ | apply Only.drew | apply Only.drewN | apply Only.alloc)) hcall));(try have hr2:=ownsRow_still hr2 (Still.trans (by (repeat first | exact hsC | exact Only.refl _ _ _ | apply Only.drew | apply Only.drewN | apply Only.alloc)) hcall));(try (first | (have hzb:=at_only hcall hzb (.inl (Array.getElem?_eq_some_iff.1 hzb).1)) | (have hzb:=fresh_still hcall rfl));have hz0:=cell_of (v:=.slice none 0 0) hzb 0 rfl;have hf0:=frozen_of hzb 0;have hz1:=cell_of (v:=.slice none 0 0) hzb 1 rfl;have hf1:=frozen_of hzb 1;have hz2:=cell_of (v:=.slice none 0 0) hzb 2 rfl;have hf2:=frozen_of hzb 2;have hz3:=cell_of (v:=.int .i64 0) hzb 3 rfl;have hf3:=frozen_of hzb 3;have hz4:=cell_of (v:=.int .i64 0) hzb 4 rfl;have hf4:=frozen_of hzb 4;have hz5:=cell_of (v:=.int .i64 0) hzb 5 rfl;have hf5:=frozen_of hzb 5;have hz6:=cell_of (v:=.int .i64 0) hzb 6 rfl;have hf6:=frozen_of hzb 6;have hz7:=cell_of (v:=.int .i64 0) hzb 7 rfl;have hf7:=frozen_of hzb 7;have hz8:=cell_of (v:=.int .i64 0) hzb 8 rfl;have hf8:=frozen_of hzb 8;have hz9:=cell_of (v:=.int .i64 0) hzb 9 rfl;have hf9:=frozen_of hzb 9;have hz10:=cell_of (v:=.int .i64 0) hzb 10 rfl;have hf10:=frozen_of hzb 10;have hz11:=cell_of (v:=.int .i64 0) hzb 11 rfl;have hf11:=frozen_of hzb 11;have hlz:=(Array.getElem?_eq_some_iff.1 hzb).1);have hsC:Still w1 wq:=Still.trans (by (repeat first | exact hsC | exact Only.refl _ _ _ | apply Only.drew | apply Only.drewN | apply Only.alloc)) hcall;have hszC:=hsC.size;obtain ⟨k0,k1,k2,k3⟩:=HC.out _ hsC))
  all_goals
   rename_i hHeld
   clear hHeld
   first
   | (have hfin:DmpAt w1 w1.heap.size s wq.heap.size (.slice a1 n1 p1) (.slice a2 n2 p2) (.slice a3 n3 p3) (fun _ => 0) (wq.alloc (.cells #[.slice a1 n1 p1,.slice a2 n2 p2,.slice a3 n3 p3,.int .i64 0,.int .i64 0,.int .i64 0,.int .i64 0,.int .i64 0,.int .i64 0,.int .i64 0,.int .i64 0,.int .i64 ser] 73)):=by
       refine ⟨hsC.alloc _,?_,hszC,⟨?_,ownsRow_still hr2 ((Only.refl _ _ wq).alloc _),ownsRow_still hr3 ((Only.refl _ _ wq).alloc _)⟩⟩
       ·rw [HSE.out];exact heap_alloc_new wq _
       ·rw [HN.out];exact ownsRow_still hr1 ((Only.refl _ _ wq).alloc _)
      go_wp2_with fail
      go_meet
      exact ⟨_,_,_,_,rfl,hfin⟩)
   | (go_wp2_with fail
      go_meet
      refine ⟨_,.slice a1 n1 p1,.slice a2 n2 p2,.slice a3 n3 p3,rfl,?_⟩
      refine ⟨only_dump hsC (.inr (by omega)) _ _ _ _ _ _ _ _ _ _ _ _,?_,(by omega),⟨?_,?_,?_⟩⟩
      ·rw [HSE.out];exact dump_box hzb _ _ _ _ _ _ _ _ _ _ _ _
      ·rw [HN.out];exact ownsRow_of_block hr1 (fun g hg => dump_box_ne (own_ne hr1 hzb (by decide) g hg) _ _ _ _ _ _ _ _ _ _ _ _)
      ·exact ownsRow_of_block hr2 (fun g hg => dump_box_ne (own_ne hr2 hzb (by decide) g hg) _ _ _ _ _ _ _ _ _ _ _ _)
      ·exact ownsRow_of_block hr3 (fun g hg => dump_box_ne (own_ne hr3 hzb (by decide) g hg) _ _ _ _ _ _ _ _ _ _ _ _))
 case rest =>
  obtain ⟨db,v1,v2,v3,rfl,hd⟩:=hcut
  have HD:=Lib.hid hd
  have HM:=Lib.hid (fun w' (h:RefAt w' R s) (c:Nat) (hc:c < 8) => rnext_any w' R s h HRO.out c hc 0 (Nat.zero_le _))
  clear hd hs1 c0 c1 c3 t0 l1 l2 l3 l4 l5
  go_wp2_with fail
  go_loopw [4] (fun x wr => ∃ c:Nat,x=.int .i64 (c:Int) ∧ c ≤ 8 ∧ DmpAt w1 w1.heap.size s db v1 v2 v3 (fun j => if j < c then s.hd0 j else 0) wr) (fun x _ => 8 - (intOf x).toNat)
  case atStart => exact ⟨0,rfl,by omega,HD.out⟩
  case round =>
   obtain ⟨c,rfl,hc,hdm⟩:=hrel
   have hc0:(0:Int) ≤ (c:Int):=by omega
   by_cases hlt:c < 8
   ·have hc8:(c:Int) < 8:=by omega
    have HDM:=Lib.hid hdm
    have hnx:=HM.out wr (H1.out.still hdm.st) c hlt
    have HNX:=Lib.hid hnx
    clear hdm hnx
    go_wp2_with fail
    refine HNX.out.mono ?_
    rintro e w4 ⟨rfl,hs4⟩
    have hdm4:DmpAt w1 w1.heap.size s db v1 v2 v3 (fun j => if j < c then s.hd0 j else 0) w4:=⟨Still.trans HDM.out.st hs4,at_only hs4 HDM.out.box (.inl (Array.getElem?_eq_some_iff.1 HDM.out.box).1),HDM.out.lo,HDM.out.li.still hs4⟩
    have HD4:=Lib.hid hdm4
    obtain ⟨z0,zf⟩:=dump_cell hdm4.box c hlt
    have zl:=(Array.getElem?_eq_some_iff.1 hdm4.box).1
    clear hdm4 hs4
    go_wp2_with fail
    go_roundw
    case rel =>
     refine ⟨c + 1,by go_num,hlt,?_⟩
     have:=HD4.out.turn (Nat.le_refl _) c hlt (Bm.next (s.B (c + 1)) (64 * s.n) 0)
     have e:updH (fun j => if j < c then s.hd0 j else 0) c (Bm.next (s.B (c + 1)) (64 * s.n) 0)=fun j => if j < c + 1 then s.hd0 j else 0:=by
      funext j
      unfold updH
      by_cases ej:j=c
      ·subst ej;rw [if_pos rfl,if_pos (by omega)];rfl
      ·rw [if_neg ej]
       dsimp only
       by_cases hj:j < c
       ·rw [if_pos hj,if_pos (by omega)]
       ·rw [if_neg hj,if_neg (by omega)]
     rw [e] at this
     exact this
    case measure => simp [intOf];omega
   ·have:c=8:=by omega
    subst this
    obtain ⟨⟨a1,n1,p1,rfl⟩,⟨a2,n2,p2,rfl⟩,⟨a3,n3,p3,rfl⟩⟩:=And.intro (own_slice hdm.li.r1) (And.intro (own_slice hdm.li.r2) (own_slice hdm.li.r3))
    have hb:wr.heap[db]?=some (dumpObj (.slice a1 n1 p1) (.slice a2 n2 p2) (.slice a3 n3 p3) s.hd0 s.ser):=hdm.box
    have hb2:wr.heap[w.heap.size]?=some zero12:=at_only hdm.st HB0.out (.inl HW1.out)
    have HDM:=Lib.hid hdm
    have HB2:=Lib.hid hb2
    clear hdm
    have z0:=cell_of (v:=.slice a1 n1 p1) hb 0 rfl
    have z1:=cell_of (v:=.slice a2 n2 p2) hb 1 rfl
    have z2:=cell_of (v:=.slice a3 n3 p3) hb 2 rfl
    have z3:=cell_of (v:=.int .i64 (s.hd0 0)) hb 3 rfl
    have z4:=cell_of (v:=.int .i64 (s.hd0 1)) hb 4 rfl
    have z5:=cell_of (v:=.int .i64 (s.hd0 2)) hb 5 rfl
    have z6:=cell_of (v:=.int .i64 (s.hd0 3)) hb 6 rfl
    have z7:=cell_of (v:=.int .i64 (s.hd0 4)) hb 7 rfl
    have z8:=cell_of (v:=.int .i64 (s.hd0 5)) hb 8 rfl
    have z9:=cell_of (v:=.int .i64 (s.hd0 6)) hb 9 rfl
    have z10:=cell_of (v:=.int .i64 (s.hd0 7)) hb 10 rfl
    have z11:=cell_of (v:=.int .i64 s.ser) hb 11 rfl
    have y0:=cell_of (v:=.slice none 0 0) hb2 0 rfl
    have f0:=frozen_of hb2 0
    have y1:=cell_of (v:=.slice none 0 0) hb2 1 rfl
    have f1:=frozen_of hb2 1
    have y2:=cell_of (v:=.slice none 0 0) hb2 2 rfl
    have f2:=frozen_of hb2 2
    have y3:=cell_of (v:=.int .i64 0) hb2 3 rfl
    have f3:=frozen_of hb2 3
    have y4:=cell_of (v:=.int .i64 0) hb2 4 rfl
    have f4:=frozen_of hb2 4
    have y5:=cell_of (v:=.int .i64 0) hb2 5 rfl
    have f5:=frozen_of hb2 5
    have y6:=cell_of (v:=.int .i64 0) hb2 6 rfl
    have f6:=frozen_of hb2 6
    have y7:=cell_of (v:=.int .i64 0) hb2 7 rfl
    have f7:=frozen_of hb2 7
    have y8:=cell_of (v:=.int .i64 0) hb2 8 rfl
    have f8:=frozen_of hb2 8
    have y9:=cell_of (v:=.int .i64 0) hb2 9 rfl
    have f9:=frozen_of hb2 9
    have y10:=cell_of (v:=.int .i64 0) hb2 10 rfl
    have f10:=frozen_of hb2 10
    have y11:=cell_of (v:=.int .i64 0) hb2 11 rfl
    have f11:=frozen_of hb2 11
    have zl:=(Array.getElem?_eq_some_iff.1 hb).1
    have yl:=(Array.getElem?_eq_some_iff.1 hb2).1
    clear hb hb2 HD HM
    go_wp2_with fail
    obtain ⟨st,_,lo,li⟩:=HDM.out
    refine bodyPost_ret (v:=.agg #[.slice a1 n1 p1,.slice a2 n2 p2,.slice a3 n3 p3,.int .i64 (s.hd0 0),.int .i64 (s.hd0 1),.int .i64 (s.hd0 2),.int .i64 (s.hd0 3),.int .i64 (s.hd0 4),.int .i64 (s.hd0 5),.int .i64 (s.hd0 6),.int .i64 (s.hd0 7),.int .i64 s.ser]) (by simp [results,Tryz.results40,go_sem, *]) rfl ?_
    refine HQ.out _ _ _ _ ((li.kept HB2.out fun k hk => dump_box_ne hk _ _ _ _ _ _ _ _ _ _ _ _).le (Nat.le_of_lt HW1.out)) ?_
    exact only_dump (Still.trans HST.out st) (.inr (Nat.le_refl _)) _ _ _ _ _ _ _ _ _ _ _ _
end Go.Proofs.YtfbcdmhmpfijjaaGreatDoor
namespace Go.Proofs.YtfbcdmhmpfijjaaGreatDoor
open Go Go.RowKit
theorem Lists.lts {w:World} {B:Nat} {s:St} {v1 v2 v3:Value} (h:Lists w B s v1 v2 v3):(∀ g,v1.ownBlock=some g → g < w.heap.size) ∧ (∀ g,v2.ownBlock=some g → g < w.heap.size) ∧ ∀ g,v3.ownBlock=some g → g < w.heap.size :=
 ⟨fun g hg => (h.r1.lt g hg).2,fun g hg => (h.r2.lt g hg).2,fun g hg => (h.r3.lt g hg).2⟩
theorem kd_step {wK wx:World} {M pb:Nat} {L:Lay} {R:RLay} {s:St} {own:Nat → Lb} {qf:Nat → Nat} {C:Nat} {v1 v2 v3 e1 e2 e3:Value} (hp:PairAt wK pb L R s own qf C) (hs:Still wK wx) (hl:Lists wx wK.heap.size s v1 v2 v3)
 (hlt:(∀ g,v1.ownBlock=some g → g < M) ∧ (∀ g,v2.ownBlock=some g → g < M) ∧ ∀ g,v3.ownBlock=some g → g < M) (hM:wK.heap.size ≤ M) (hl2:Lists wx M s e1 e2 e3) (hC:C + 24 ≤ 900000) (q:Bool) :
 Calls Tryz.prog 38 #[.pointer (some ⟨pb,2,none⟩),dumpVal v1 v2 v3 s.hd0 s.ser,dumpVal e1 e2 e3 s.hd0 s.ser,.bool q] wx fun e w' => e=.returned (.bool true) ∧ ∃ own',PairAt w' pb L R s own' qf (C + 24) ∧ PFr L R wK own w' own':=by
 have hn:=hp.n24
 have hb:=s.blk_len (64 * s.n)
 have hb:s.blks.length ≤ 64 * s.n:=hb
 have hpx:=hp.still hs
 have q1:QIn wx own wK.heap.size 0 v1 e1 (64 * s.n) (wdF s):=qin_of (by omega) hM hl.r1 hlt.1 hl2.r1 (wdF_at s) hp.olt
 have q2:QIn wx own wK.heap.size 1 v2 e2 s.n (pgF s):=qin_of (by omega) hM hl.r2 hlt.2.1 hl2.r2 (pgF_at s) hp.olt
 have q3:QIn wx own wK.heap.size 2 v3 e3 s.blks.length (blF s):=qin_of (by omega) hM hl.r3 hlt.2.2 hl2.r3 (blF_at s) hp.olt
 refine kdump_any wx pb _ _ own qf C wK.heap.size _ _ _ _ _ _ _ _ _ _ _ _ _ _ hpx.k q1 q2 q3 hs.size hC q _ fun w' own' hk hf => ⟨rfl,own',hpx.lists hk hf hp.rf.top,KFB.pfr hs hf⟩
set_option maxRecDepth 100000 in
set_option maxHeartbeats 6400000 in
theorem looked20 (w:World) (pb:Nat) (L:Lay) (R:RLay) (s:St) (own:Nat → Lb) (qf:Nat → Nat) (C:Nat) (h:PairAt w pb L R s own qf C) (hC48:C + 48 ≤ 900000) (wh a b c:Int) (la:Option Addr) (ll lc:Nat) :
 Calls Tryz.prog 13 #[.pointer (some ⟨pb,0,none⟩),opVal wh 20 a b c la ll lc] w fun e w' => e=.returned (.bool true) ∧ ∃ own',PairAt w' pb L R s own' qf (C + 48) ∧ PFr L R w own w' own':=by
 have HP:=Lib.hid h
 have HD1:Hid (∀ w',SpaceAt w' L s → Calls Tryz.prog 39 #[.pointer (some ⟨L.sb,0,none⟩)] w' fun e w2 => (∃ v1 v2 v3,e=.returned (dumpVal v1 v2 v3 s.hd0 s.ser) ∧ Lists w2 w'.heap.size s v1 v2 v3) ∧ Still w' w2):=Lib.hid fun w' hs => dump_any w' L s hs _ fun v1 v2 v3 w2 h1 h2 => ⟨⟨v1,v2,v3,rfl,h1⟩,h2⟩
 have HD2:Hid (∀ w',RefAt w' R s → Calls Tryz.prog 40 #[.pointer (some ⟨R.rb,0,none⟩)] w' fun e w2 => (∃ v1 v2 v3,e=.returned (dumpVal v1 v2 v3 s.hd0 s.ser) ∧ Lists w2 w'.heap.size s v1 v2 v3) ∧ Still w' w2):=Lib.hid fun w' hs => rdump_any w' R s hs h.iv.refOk _ fun v1 v2 v3 w2 h1 h2 => ⟨⟨v1,v2,v3,rfl,h1⟩,h2⟩
 clear h
 go_enter Tryz.func13,Tryz.ntmps13
 go_upto_region 29 with fail
 have hsb:Still w (w.alloc (opObj wh 20 a b c la ll lc)):=(Only.refl _ _ w).alloc _
 generalize w.alloc (opObj wh 20 a b c la ll lc)=wK at *
 have hpK:=HP.out.still hsb
 have hfK:PFr L R w own wK own:=PFr.of hsb
 have hsC:Still wK wK:=Only.refl _ _ _
 have k0:=hpK.c0
 have k1:=hpK.c1
 have hpl:=hpK.lt
 clear hsb
 go_cut [4] from 223 to 252 (fun s4 wx => s4=.bool true ∧ ∃ own',PairAt wx pb L R s own' qf (C + 48) ∧ PFr L R w own wx own')
 case first =>
  go_region_held3 (fun w' => w'.cell? ⟨pb,0,none⟩=some (.pointer (some ⟨L.sb,0,none⟩)) ∧ w'.cell? ⟨pb,1,none⟩=some (.pointer (some ⟨R.rb,0,none⟩)))
   (exact (fun (x:PairAt _ pb L R s _ qf _) => ⟨x.c0,x.c1⟩) (hpK.still (by (repeat first | with_reducible exact hsC | with_reducible exact Only.refl _ _ _ | with_reducible apply Only.drew | with_reducible apply Only.drewN | with_reducible apply Only.alloc))))
   (first
     | (go_at_call 39;refine (HD1.out _ (hpK.sp.still (by (repeat first | with_reducible exact hsC | with_reducible exact Only.refl _ _ _ | with_reducible apply Only.drew | with_reducible apply Only.drewN | with_reducible apply Only.alloc)))).mono ?_;rintro e wp ⟨⟨v1,v2,v3,rfl,hl⟩,hcall⟩;have hl:Lists wp wK.heap.size s v1 v2 v3:=hl.le (Only.size (lo:=wK.heap.size) (hi:=wK.heap.size) (w:=wK) (by (repeat first | with_reducible exact hsC | with_reducible exact Only.refl _ _ _ | with_reducible apply Only.drew | with_reducible apply Only.drewN | with_reducible apply Only.alloc)));have hsC:Still wK wp:=Still.trans (by (repeat first | with_reducible exact hsC | with_reducible exact Only.refl _ _ _ | with_reducible apply Only.drew | with_reducible apply Only.drewN | with_reducible apply Only.alloc)) hcall;have hlt:=hl.lts;have hsP:Still wp wp:=Only.refl _ _ _)
     | (go_at_call 40;refine (HD2.out _ (hpK.rf.still (by (repeat first | with_reducible exact hsC | with_reducible exact Only.refl _ _ _ | with_reducible apply Only.drew | with_reducible apply Only.drewN | with_reducible apply Only.alloc)))).mono ?_;rintro e wq ⟨⟨e1,e2,e3,rfl,hl2⟩,hcall⟩;have hl2:Lists wq wp.heap.size s e1 e2 e3:=hl2.le (Only.size (lo:=wp.heap.size) (hi:=wp.heap.size) (w:=wp) (by (repeat first | with_reducible exact hsP | with_reducible exact Only.refl _ _ _ | with_reducible apply Only.drew | with_reducible apply Only.drewN | with_reducible apply Only.alloc)));have hl:Lists wq wK.heap.size s v1 v2 v3:=hl.still (Still.trans (by (repeat first | with_reducible exact hsP | with_reducible exact Only.refl _ _ _ | with_reducible apply Only.drew | with_reducible apply Only.drewN | with_reducible apply Only.alloc)) hcall);have hMM:wK.heap.size ≤ wp.heap.size:=hsC.size;have hsC:Still wK wq:=Still.trans (by (repeat first | with_reducible exact hsC | with_reducible exact Only.refl _ _ _ | with_reducible apply Only.drew | with_reducible apply Only.drewN | with_reducible apply Only.alloc)) hcall;have hsQ:Still wq wq:=Only.refl _ _ _)
     | (go_at_call 38;refine (kd_step hpK (by (repeat first | with_reducible exact hsC | with_reducible exact Only.refl _ _ _ | with_reducible apply Only.drew | with_reducible apply Only.drewN | with_reducible apply Only.alloc)) (hl.still (by (repeat first | with_reducible exact hsQ | with_reducible exact Only.refl _ _ _ | with_reducible apply Only.drew | with_reducible apply Only.drewN | with_reducible apply Only.alloc))) hlt hMM (hl2.still (by (repeat first | with_reducible exact hsQ | with_reducible exact Only.refl _ _ _ | with_reducible apply Only.drew | with_reducible apply Only.drewN | with_reducible apply Only.alloc))) (by omega) _).mono ?_;rintro e wN ⟨rfl,ownN,hpN,hfN⟩;have hfK:=hfK.trans hfN;clear hpK hsC hl hlt hMM hl2 hsP hsQ;have hpK:=hpN;have hsC:Still wN wN:=Only.refl _ _ _;obtain ⟨wK,hwK⟩:∃ x,x=wN:=⟨_,rfl⟩;subst hwK))
  all_goals
   go_wp2_with fail
   go_meet
   exact ⟨rfl,_,hpK.still (by (repeat first | with_reducible exact hsC | with_reducible exact Only.refl _ _ _ | with_reducible apply Only.drew | with_reducible apply Only.drewN | with_reducible apply Only.alloc)),hfK.still (by (repeat first | with_reducible exact hsC | with_reducible exact Only.refl _ _ _ | with_reducible apply Only.drew | with_reducible apply Only.drewN | with_reducible apply Only.alloc))⟩
 case rest =>
  obtain ⟨rfl,own',hp',hf'⟩:=hcut
  have HE:=Lib.hid (And.intro hp' hf')
  clear hp' hf' hpK hfK
  go_wp2_with fail
  go_ret
  exact ⟨rfl,own',HE.out⟩
end Go.Proofs.YtfbcdmhmpfijjaaGreatDoor
namespace Go.Proofs.YtfbcdmhmpfijjaaGreatDoor
open Go Go.RowKit
set_option maxRecDepth 100000 in
set_option maxHeartbeats 3200000 in
theorem whole_any (w:World) (pb:Nat) (L:Lay) (R:RLay) (s:St) (own:Nat → Lb) (C:Nat) (h:PairAt w pb L R s own (fun _ => 0) C) (hC:C + 900 ≤ 900000) :
 Calls Tryz.prog 14 #[.pointer (some ⟨pb,0,none⟩)] w fun e w' => e=.returned (.bool true) ∧ ∃ own',PFr L R w own w' own':=by
 have HP:=Lib.hid h
 have HL18:=Lib.hid (looked18 w pb L R s own _ C h)
 have hpl:=h.lt
 clear h
 go_enter Tryz.func14,Tryz.ntmps14
 go_wp2_with fail
 refine (HL18.out _ _ _ _ _ _ _).mono ?_
 rintro e w1 ⟨rfl,hs1⟩
 have HS1:=Lib.hid hs1
 have HL20:=Lib.hid (looked20 w1 pb L R s own _ C (HP.out.still hs1) (by omega))
 clear hs1 HL18
 go_wp2_with fail
 refine (HL20.out _ _ _ _ _ _ _).mono ?_
 rintro e w2 ⟨rfl,own2,hp2,hf2⟩
 have HP2:=Lib.hid hp2
 have HF2:Hid (PFr L R w own w2 own2):=Lib.hid ((PFr.of HS1.out).trans hf2)
 have HA:=Lib.hid (fun Q hQ => kapart_any w2 pb _ _ own2 (C + 48) hp2.k (by omega) Q hQ)
 have hpl2:=hp2.lt
 clear hp2 hf2 HL20
 go_wp2_with fail
 refine HA.out _ (fun w3 own3 qf hk hf => ?_)
 have hp3:=HP2.out.lists hk hf HP2.out.rf.top
 have HF3:Hid (PFr L R w own w3 own3):=Lib.hid (HF2.out.trans (KFB.pfr (Only.refl _ _ _) hf))
 have HL20:=Lib.hid (looked20 w3 pb L R s own3 qf (C + 48 + 800) hp3 (by omega))
 clear hk hf hp3 HA hpl2
 go_wp2_with fail
 refine (HL20.out _ _ _ _ _ _ _).mono ?_
 rintro e w4 ⟨rfl,own4,hp4,hf4⟩
 have HF4:Hid (PFr L R w own w4 own4):=Lib.hid (HF3.out.trans hf4)
 clear hp4 hf4 HL20
 go_wp2_with fail
 go_ret
 exact ⟨rfl,own4,HF4.out⟩
end Go.Proofs.YtfbcdmhmpfijjaaGreatDoor
