/-
  The walk of space.Alloc.
-/
import Derived.Test.YtfbcdmhmpfijjaaGreatDoorQ09
set_option linter.unusedVariables false
set_option linter.unusedSimpArgs false
set_option linter.unusedSectionVars false
namespace Go.Proofs.YtfbcdmhmpfijjaaGreatDoor
open Go Go.RowKit
theorem SpaceAt.takeClass {w:World} {L:Lay} {s:St} (h:SpaceAt w L s) (c:Nat) (hc:c < 8) (hf:s.ff < s.n) :
 Calls Tryz.prog 67 #[.pointer (some ⟨L.tb,0,none⟩),.int .i64 (c:Int)] w fun e w' => e=.returned (.tuple #[.int .i64 (s.ff:Int),.int .i64 0]) ∧ SpaceAt w' L { s with P:=setPg s.P s.ff ⟨1,c,0⟩,low:=s.ff } ∧ Only L.lo L.hi w w':=by
 obtain ⟨free,ht⟩:=h.table
 refine (takeClass_yes _ _ _ _ _ _ s.low s.ff (c:Int) _ _ w ht h.lowle (by omega) rfl hf).mono ?_
 rintro e w' ⟨rfl,t,o⟩
 exact ⟨rfl,h.updT o t (Nat.le_of_lt hf),h.only 2 (by omega) o⟩
theorem SpaceAt.takeNone {w:World} {L:Lay} {s:St} (h:SpaceAt w L s) (c:Nat) (hc:c < 8) (hf:s.ff=s.n) :
 Calls Tryz.prog 67 #[.pointer (some ⟨L.tb,0,none⟩),.int .i64 (c:Int)] w fun e w' => e=.returned (.tuple #[.int .i64 0,.int .i64 20]) ∧ SpaceAt w' L { s with low:=s.ff } ∧ Only L.lo L.hi w w':=by
 obtain ⟨free,ht⟩:=h.table
 refine (takeClass_none _ _ _ _ _ _ s.low (c:Int) _ _ w ht h.lowle (by omega) hf).mono ?_
 rintro e w' ⟨rfl,t,o⟩
 exact ⟨rfl,h.updT o (low:=s.ff) (by rw [hf];exact t) (Nat.le_of_eq hf),h.only 2 (by omega) o⟩
theorem SpaceAt.next {w:World} {L:Lay} {s:St} (h:SpaceAt w L s) (j:Nat) (hj:j < 9) (f:Int) (hf:f ≤ 9223372036854775807) :
 Calls Tryz.prog 89 #[.pointer (some (L.m j)),.int .i64 f] w fun e w' => e=.returned (.int .i64 (Bm.next (s.B j) (64 * s.n) f)) ∧ ∃ m,w'=w.drewN m :=
 next_any _ _ _ _ _ f w (h.maps j hj) h.tab hf
set_option maxHeartbeats 3200000 in
theorem take_free (w:World) (L:Lay) (s:St) (h:SpaceAt w L s) (z:Int) (c:Nat) (hc:c < 8) (hcz:Sp.cls z=(c:Int)) (t:Nat) (ht:s.hd0 c=(t:Int)) (htN:t < 64 * s.n) (Q:Ending → World → Prop)
 (hQ:∀ w',SpaceAt w' L (s.pick c t).1 → Only L.lo L.hi w w' → Q (.returned (.tuple #[.int .i64 (s.pick c t).2.1,faultV (s.pick c t).2.2.1 (s.pick c t).2.2.2])) w') :
 Calls Tryz.prog 48 #[.pointer (some ⟨L.sb,0,none⟩),.int .i64 z] w Q:=by
 have HQ:=Lib.hid hQ;clear hQ
 have HO:=Lib.hid (fun w => of_any z w)
 rw [hcz] at HO
 have hn2:=h.n2
 have HS0:=Lib.hid (h.alloc (.cells #[.int .i64 0,.int .i64 0] 50))
 have hst:Still w (w.alloc (.cells #[.int .i64 0,.int .i64 0] 50)):=(Only.refl _ _ w).alloc _
 have HST:=Lib.hid (hst.any L.lo L.hi)
 have HNEW:Hid (∀ w1,Only L.lo L.hi (w.alloc (.cells #[.int .i64 0,.int .i64 0] 50)) w1 → w1.heap[w.heap.size]?=some (.cells #[.int .i64 0,.int .i64 0] 50 (0,0))):=Lib.hid fun w1 ho => only_new ho h.top
 have HTOP:=Lib.hid h.top
 have hc8:((c:Int) == 8)=false:=beq_eq_false_iff_ne.2 (by omega)
 have hc0:(0:Int) ≤ (c:Int):=by omega
 have hc9:(c:Int) < 8:=by omega
 have HNX:Hid (Bm.next (s.B (c + 1)) (64 * s.n) 0=(t:Int)):=Lib.hid ht
 have HTS:=Lib.hid htN
 have HTM:Hid ((t:Int) ≤ 262144):=Lib.hid (by omega)
 obtain ⟨N,hN⟩:∃ N,64 * s.n=N:=⟨_,rfl⟩
 have HN:=Lib.hid hN
 have ht0:(0:Int) ≤ (t:Int):=by omega
 have ht1:(t:Int) < (N:Int):=by omega
 clear hN
 clear h hst hcz ht htN hn2
 go_enter Tryz.func48,Tryz.ntmps48
 go_wp2_with fail
 generalize w.alloc (.cells #[.int .i64 0,.int .i64 0] 50)=w0 at *
 refine (HO.out _).mono ?_
 rintro e w1 ⟨rfl,hs1⟩
 have H1:=Lib.hid (HS0.out.still hs1)
 have HO1:=Lib.hid (hs1.any L.lo L.hi);clear hs1
 have hc3:=H1.out.c3 c hc
 go_wp2_with fail
 refine (H1.out.next (c + 1) (by omega) 0 (by omega)).mono ?_
 rintro e w2 ⟨rfl,m,rfl⟩
 rw [HNX.out]
 have H3:=Lib.hid (H1.out.drewN m);have HO3:=Lib.hid (HO1.out.drewN m)
 clear HO1 H1 HS0
 generalize w1.drewN m=w3 at *
 have hcs:w3.cell? ⟨L.sb,0,none⟩=some (.slice (some ⟨L.wb,0,none⟩) N N):=by rw [← HN.out];exact H3.out.c0
 have hcw:=H3.out.words.cell t HTS.out
 have HLK:Hid (∀ m,Calls Tryz.prog 80 #[.pointer (some ⟨L.sb,0,none⟩),.int .i64 (c:Int),.int .i64 (t:Int)] (w3.drewN m) fun e w' => e=.returned (.int .i64 (s.link c t)) ∧ ∃ m',w'=(w3.drewN m).drewN m'):=Lib.hid fun m => slink_any _ L _ (H3.out.drewN m) c hc t (by omega) HTM.out
 have HPK:Hid (s.pick c t=if s.W t=s.link c t then (s.setB (c + 1) (setS (s.B (c + 1)) t false),(t:Int),0,0) else (s,0,21,(t:Int))):=Lib.hid rfl
 obtain ⟨x,hx⟩:∃ x,s.link c t=x:=⟨_,rfl⟩
 obtain ⟨y,hy⟩:∃ y,s.W t=y:=⟨_,rfl⟩
 rw [hx] at HLK HPK
 rw [hy] at hcw HPK
 clear hx hy
 by_cases hxy:y=x
 ·have hq:=HPK.out
  rw [if_pos hxy] at hq
  rw [hq] at HQ
  subst hxy
  clear hq HPK
  dsimp only at HQ
  go_wp2_with fail
  go_quiet ((go_at_call 80;exact Calls.quiet_of (HLK.out _)))
  have hc3':(w3.drewN nq).cell? ⟨L.sb,3 + c,none⟩=_:=H3.out.c3 c hc
  go_wp2_with fail
  refine ((H3.out.drewN nq).clear (c + 1) (by omega) t HTS.out).mono ?_
  rintro e w4 ⟨rfl,h4,ho4⟩
  have H4:=Lib.hid h4;have HO4:=Lib.hid ((HO3.out.drewN nq).trans ho4);clear h4 ho4
  have hb:=HNEW.out _ HO4.out
  have hlt1:=(Array.getElem?_eq_some_iff.1 hb).1
  have hz0:=cell_of (v:=.int .i64 0) hb 0 rfl
  have hz1:=cell_of (v:=.int .i64 0) hb 1 rfl
  have hf0:=frozen_of hb 0
  have hf1:=frozen_of hb 1
  clear hb
  go_wp2
  refine bodyPost_ret (v:=.tuple #[.int .i64 (t:Int),faultV 0 0]) (by simp [results,Tryz.results48,go_sem, *]) rfl (HQ.out _ ((H4.out.setNew HTOP.out 0 _).setNew HTOP.out 1 _) ?_)
  exact ((HST.out.trans HO4.out).setCell (p:=⟨w.heap.size,0,none⟩) (.inr (Nat.le_refl _)) _).setCell (p:=⟨w.heap.size,1,none⟩) (.inr (Nat.le_refl _)) _
 ·have hq:=HPK.out
  rw [if_neg hxy] at hq
  rw [hq] at HQ
  have hbn:(y == x)=false:=beq_eq_false_iff_ne.2 hxy
  have hbn2:(y != x)=true:=by simp [bne,hbn]
  clear hq HPK hxy
  dsimp only at HQ
  go_wp2_with fail
  go_quiet ((go_at_call 80;exact Calls.quiet_of (HLK.out _)))
  have H4:=Lib.hid (H3.out.drewN nq);have HO4:=Lib.hid (HO3.out.drewN nq)
  have hb:=HNEW.out _ HO4.out
  have hlt1:=(Array.getElem?_eq_some_iff.1 hb).1
  have hz0:=cell_of (v:=.int .i64 0) hb 0 rfl
  have hz1:=cell_of (v:=.int .i64 0) hb 1 rfl
  have hf0:=frozen_of hb 0
  have hf1:=frozen_of hb 1
  clear hb
  go_wp2
  refine bodyPost_ret (v:=.tuple #[.int .i64 0,faultV 21 t]) (by simp [results,Tryz.results48,go_sem, *]) rfl (HQ.out _ ((H4.out.setNew HTOP.out 0 _).setNew HTOP.out 1 _) ?_)
  exact ((HST.out.trans HO4.out).setCell (p:=⟨w.heap.size,0,none⟩) (.inr (Nat.le_refl _)) _).setCell (p:=⟨w.heap.size,1,none⟩) (.inr (Nat.le_refl _)) _
set_option maxHeartbeats 3200000 in
theorem take_none (w:World) (L:Lay) (s:St) (h:SpaceAt w L s) (z:Int) (c:Nat) (hc:c < 8) (hcz:Sp.cls z=(c:Int)) (ht:s.hd0 c=-1) (hff:s.ff=s.n) (Q:Ending → World → Prop)
 (hQ:∀ w',SpaceAt w' L (({ s with low:=s.ff },0,20,0):St × Int × Int × Int).1 → Only L.lo L.hi w w' → Q (.returned (.tuple #[.int .i64 (({ s with low:=s.ff },0,20,0):St × Int × Int × Int).2.1,faultV (({ s with low:=s.ff },0,20,0):St × Int × Int × Int).2.2.1 (({ s with low:=s.ff },0,20,0):St × Int × Int × Int).2.2.2])) w') :
 Calls Tryz.prog 48 #[.pointer (some ⟨L.sb,0,none⟩),.int .i64 z] w Q:=by
 have HQ:=Lib.hid hQ;clear hQ
 have HO:=Lib.hid (fun w => of_any z w)
 rw [hcz] at HO
 have hn2:=h.n2
 have HS0:=Lib.hid (h.alloc (.cells #[.int .i64 0,.int .i64 0] 50))
 have hst:Still w (w.alloc (.cells #[.int .i64 0,.int .i64 0] 50)):=(Only.refl _ _ w).alloc _
 have HST:=Lib.hid (hst.any L.lo L.hi)
 have HNEW:Hid (∀ w1,Only L.lo L.hi (w.alloc (.cells #[.int .i64 0,.int .i64 0] 50)) w1 → w1.heap[w.heap.size]?=some (.cells #[.int .i64 0,.int .i64 0] 50 (0,0))):=Lib.hid fun w1 ho => only_new ho h.top
 have HTOP:=Lib.hid h.top
 have hc8:((c:Int) == 8)=false:=beq_eq_false_iff_ne.2 (by omega)
 have hc0:(0:Int) ≤ (c:Int):=by omega
 have hc9:(c:Int) < 8:=by omega
 have HNX:Hid (Bm.next (s.B (c + 1)) (64 * s.n) 0=-1):=Lib.hid ht
 have HFF:=Lib.hid hff
 dsimp only at HQ
 clear h hst hcz ht hff hn2
 go_enter Tryz.func48,Tryz.ntmps48
 go_wp2_with fail
 generalize w.alloc (.cells #[.int .i64 0,.int .i64 0] 50)=w0 at *
 refine (HO.out _).mono ?_
 rintro e w1 ⟨rfl,hs1⟩
 have H1:=Lib.hid (HS0.out.still hs1)
 have HO1:=Lib.hid (hs1.any L.lo L.hi);clear hs1
 have hc3:=H1.out.c3 c hc
 go_wp2_with fail
 refine (H1.out.next (c + 1) (by omega) 0 (by omega)).mono ?_
 rintro e w2 ⟨rfl,m,rfl⟩
 rw [HNX.out]
 have H2:=Lib.hid (H1.out.drewN m);have HO2:=Lib.hid (HO1.out.drewN m)
 clear HO1 H1 HS0 hc3
 generalize w1.drewN m=w2 at *
 have hc1:=H2.out.c1
 go_wp2_with fail
 refine (H2.out.takeNone c hc HFF.out).mono ?_
 rintro e w3 ⟨rfl,h3,ho3⟩
 have H3:=Lib.hid h3;have HO3:=Lib.hid (HO2.out.trans ho3);clear h3 ho3
 have hb:=HNEW.out _ HO3.out
 have hlt1:=(Array.getElem?_eq_some_iff.1 hb).1
 have hz0:=cell_of (v:=.int .i64 0) hb 0 rfl
 have hz1:=cell_of (v:=.int .i64 0) hb 1 rfl
 have hf0:=frozen_of hb 0
 have hf1:=frozen_of hb 1
 clear hb
 go_wp2
 refine bodyPost_ret (v:=.tuple #[.int .i64 0,faultV 20 0]) (by simp [results,Tryz.results48,go_sem, *]) rfl (HQ.out _ ((H3.out.setNew HTOP.out 0 _).setNew HTOP.out 1 _) ?_)
 exact ((HST.out.trans HO3.out).setCell (p:=⟨w.heap.size,0,none⟩) (.inr (Nat.le_refl _)) _).setCell (p:=⟨w.heap.size,1,none⟩) (.inr (Nat.le_refl _)) _
set_option maxHeartbeats 3200000 in
theorem take_open (w:World) (L:Lay) (s:St) (h:SpaceAt w L s) (z:Int) (c:Nat) (hc:c < 8) (hcz:Sp.cls z=(c:Int)) (ht:s.hd0 c=-1) (hff:s.ff < s.n) (Q:Ending → World → Prop)
 (hQ:∀ w',SpaceAt w' L ((s.open c).pick c (s.ff * 64)).1 → Only L.lo L.hi w w' → Q (.returned (.tuple #[.int .i64 ((s.open c).pick c (s.ff * 64)).2.1,faultV ((s.open c).pick c (s.ff * 64)).2.2.1 ((s.open c).pick c (s.ff * 64)).2.2.2])) w') :
 Calls Tryz.prog 48 #[.pointer (some ⟨L.sb,0,none⟩),.int .i64 z] w Q:=by
 have HQ:=Lib.hid hQ;clear hQ
 have HO:=Lib.hid (fun w => of_any z w)
 rw [hcz] at HO
 have hn2:=h.n2
 have HS0:=Lib.hid (h.alloc (.cells #[.int .i64 0,.int .i64 0] 50))
 have hst:Still w (w.alloc (.cells #[.int .i64 0,.int .i64 0] 50)):=(Only.refl _ _ w).alloc _
 have HST:=Lib.hid (hst.any L.lo L.hi)
 have HNEW:Hid (∀ w1,Only L.lo L.hi (w.alloc (.cells #[.int .i64 0,.int .i64 0] 50)) w1 → w1.heap[w.heap.size]?=some (.cells #[.int .i64 0,.int .i64 0] 50 (0,0))):=Lib.hid fun w1 ho => only_new ho h.top
 have HTOP:=Lib.hid h.top
 have hc8:((c:Int) == 8)=false:=beq_eq_false_iff_ne.2 (by omega)
 have hc0:(0:Int) ≤ (c:Int):=by omega
 have hc9:(c:Int) < 8:=by omega
 have HNX:Hid (Bm.next (s.B (c + 1)) (64 * s.n) 0=-1):=Lib.hid ht
 have HFF:=Lib.hid hff
 obtain ⟨p,hp⟩:∃ p,s.ff=p:=⟨_,rfl⟩
 obtain ⟨S3,hS3⟩:∃ S3,s.open c=S3:=⟨_,rfl⟩
 have hn3:S3.n=s.n:=by rw [← hS3];rfl
 have HP:=Lib.hid hp
 rw [hp] at hff HQ HFF
 rw [hS3] at HQ
 obtain ⟨t,htp⟩:∃ t,p * 64=t:=⟨_,rfl⟩
 rw [htp] at HQ
 have HTS:Hid (t < 64 * S3.n):=Lib.hid (by omega)
 have HTM:Hid ((t:Int) ≤ 262144):=Lib.hid (by omega)
 obtain ⟨N,hN⟩:∃ N,64 * S3.n=N:=⟨_,rfl⟩
 have HN:=Lib.hid hN
 have ht0:(0:Int) ≤ (t:Int):=by omega
 have ht1:(t:Int) < (N:Int):=by omega
 have htp':(p:Int) * 64=(t:Int):=by omega
 have htm:(t:Int) ≤ 262144:=HTM.out
 have HS3:Hid (({ s with P:=setPg s.P p ⟨1,c,0⟩,low:=p }:St).cut p c=S3):=Lib.hid (by rw [← hS3,← hp];rfl)
 clear h hst hcz ht hff hn2 hS3 hn3 hN htp hp
 go_enter Tryz.func48,Tryz.ntmps48
 go_wp2_with fail
 generalize w.alloc (.cells #[.int .i64 0,.int .i64 0] 50)=w0 at *
 refine (HO.out _).mono ?_
 rintro e w1 ⟨rfl,hs1⟩
 have H1:=Lib.hid (HS0.out.still hs1)
 have HO1:=Lib.hid (hs1.any L.lo L.hi);clear hs1
 have hc3:=H1.out.c3 c hc
 go_wp2_with fail
 refine (H1.out.next (c + 1) (by omega) 0 (by omega)).mono ?_
 rintro e w2 ⟨rfl,m,rfl⟩
 rw [HNX.out]
 have H2:=Lib.hid (H1.out.drewN m);have HO2:=Lib.hid (HO1.out.drewN m)
 clear HO1 H1 HS0 hc3
 generalize w1.drewN m=w2 at *
 have hc1:=H2.out.c1
 have HTC:=Lib.hid (H2.out.takeClass c hc (by rw [HP.out];exact HFF.out))
 rw [HP.out] at HTC
 go_wp2_with fail
 refine HTC.out.mono ?_
 rintro e w4 ⟨rfl,h4,ho4⟩
 have H4:=Lib.hid h4;have HO4:=Lib.hid (HO2.out.trans ho4);clear h4 ho4
 go_wp2_with fail
 refine cut_any w4 L _ H4.out p c HFF.out hc _ ?_
 intro w3 h3 ho3
 rw [HS3.out] at h3
 have H3:=Lib.hid h3;have HO3:=Lib.hid (HO4.out.trans ho3);clear h3 ho3 HO4 H4 H2 HO2 HTC hc1
 have hcs:w3.cell? ⟨L.sb,0,none⟩=some (.slice (some ⟨L.wb,0,none⟩) N N):=by rw [← HN.out];exact H3.out.c0
 have hcw:=H3.out.words.cell t HTS.out
 have HLK:Hid (∀ m,Calls Tryz.prog 80 #[.pointer (some ⟨L.sb,0,none⟩),.int .i64 (c:Int),.int .i64 (t:Int)] (w3.drewN m) fun e w' => e=.returned (.int .i64 (S3.link c t)) ∧ ∃ m',w'=(w3.drewN m).drewN m'):=Lib.hid fun m => slink_any _ L _ (H3.out.drewN m) c hc t (by omega) HTM.out
 have HPK:Hid (S3.pick c t=if S3.W t=S3.link c t then (S3.setB (c + 1) (setS (S3.B (c + 1)) t false),(t:Int),0,0) else (S3,0,21,(t:Int))):=Lib.hid rfl
 obtain ⟨x,hx⟩:∃ x,S3.link c t=x:=⟨_,rfl⟩
 obtain ⟨y,hy⟩:∃ y,S3.W t=y:=⟨_,rfl⟩
 rw [hx] at HLK HPK
 rw [hy] at hcw HPK
 clear hx hy
 by_cases hxy:y=x
 ·have hq:=HPK.out
  rw [if_pos hxy] at hq
  rw [hq] at HQ
  subst hxy
  clear hq HPK
  dsimp only at HQ
  go_wp2_with fail
  go_quiet ((go_at_call 80;exact Calls.quiet_of (HLK.out _)))
  have hc3':(w3.drewN nq).cell? ⟨L.sb,3 + c,none⟩=_:=H3.out.c3 c hc
  go_wp2_with fail
  refine ((H3.out.drewN nq).clear (c + 1) (by omega) t HTS.out).mono ?_
  rintro e w4 ⟨rfl,h4,ho4⟩
  have H4:=Lib.hid h4;have HO4:=Lib.hid ((HO3.out.drewN nq).trans ho4);clear h4 ho4
  have hb:=HNEW.out _ HO4.out
  have hlt1:=(Array.getElem?_eq_some_iff.1 hb).1
  have hz0:=cell_of (v:=.int .i64 0) hb 0 rfl
  have hz1:=cell_of (v:=.int .i64 0) hb 1 rfl
  have hf0:=frozen_of hb 0
  have hf1:=frozen_of hb 1
  clear hb
  go_wp2
  refine bodyPost_ret (v:=.tuple #[.int .i64 (t:Int),faultV 0 0]) (by simp [results,Tryz.results48,go_sem, *]) rfl (HQ.out _ ((H4.out.setNew HTOP.out 0 _).setNew HTOP.out 1 _) ?_)
  exact ((HST.out.trans HO4.out).setCell (p:=⟨w.heap.size,0,none⟩) (.inr (Nat.le_refl _)) _).setCell (p:=⟨w.heap.size,1,none⟩) (.inr (Nat.le_refl _)) _
 ·have hq:=HPK.out
  rw [if_neg hxy] at hq
  rw [hq] at HQ
  have hbn:(y == x)=false:=beq_eq_false_iff_ne.2 hxy
  have hbn2:(y != x)=true:=by simp [bne,hbn]
  clear hq HPK hxy
  dsimp only at HQ
  go_wp2_with fail
  go_quiet ((go_at_call 80;exact Calls.quiet_of (HLK.out _)))
  have H4:=Lib.hid (H3.out.drewN nq);have HO4:=Lib.hid (HO3.out.drewN nq)
  have hb:=HNEW.out _ HO4.out
  have hlt1:=(Array.getElem?_eq_some_iff.1 hb).1
  have hz0:=cell_of (v:=.int .i64 0) hb 0 rfl
  have hz1:=cell_of (v:=.int .i64 0) hb 1 rfl
  have hf0:=frozen_of hb 0
  have hf1:=frozen_of hb 1
  clear hb
  go_wp2
  refine bodyPost_ret (v:=.tuple #[.int .i64 0,faultV 21 t]) (by simp [results,Tryz.results48,go_sem, *]) rfl (HQ.out _ ((H4.out.setNew HTOP.out 0 _).setNew HTOP.out 1 _) ?_)
  exact ((HST.out.trans HO4.out).setCell (p:=⟨w.heap.size,0,none⟩) (.inr (Nat.le_refl _)) _).setCell (p:=⟨w.heap.size,1,none⟩) (.inr (Nat.le_refl _)) _
theorem take_any (w:World) (L:Lay) (s:St) (h:SpaceAt w L s) (z:Int) (hz1:1 ≤ z) (hz2:z ≤ 1024) (Q:Ending → World → Prop)
 (hQ:∀ w',SpaceAt w' L (s.take z).1 → Only L.lo L.hi w w' → Q (.returned (.tuple #[.int .i64 (s.take z).2.1,faultV (s.take z).2.2.1 (s.take z).2.2.2])) w') :
 Calls Tryz.prog 48 #[.pointer (some ⟨L.sb,0,none⟩),.int .i64 z] w Q:=by
 by_cases h8:Sp.cls z=8
 ·exact take_run w L s h z hz1 hz2 h8 Q hQ
 ·have hc:=Sp.cls_in hz1 hz2
  obtain ⟨c,hcz⟩:∃ c:Nat,Sp.cls z=(c:Int):=⟨(Sp.cls z).toNat,by omega⟩
  have hc8:c < 8:=by omega
  unfold St.take at hQ
  rw [if_neg h8,hcz,Int.toNat_natCast] at hQ
  have hr:=Bm.next_spec (s.B (c + 1)) (64 * s.n) 0
  rcases hr with ⟨h1,_⟩ | ⟨i,h1,h2,h3,_⟩
  ·have h1':s.hd0 c=-1:=h1
   rw [if_neg (by omega)] at hQ
   by_cases hff:s.ff=s.n
   ·rw [if_pos hff] at hQ
    exact take_none w L s h z c hc8 hcz h1' hff Q hQ
   ·rw [if_neg hff] at hQ
    have:s.ff ≤ s.n:=firstFree_le _ _ _ h.lowle
    exact take_open w L s h z c hc8 hcz h1' (by omega) Q hQ
  ·have h1':s.hd0 c=(i:Int):=h1
   rw [if_pos (by omega),h1',Int.toNat_natCast] at hQ
   exact take_free w L s h z c hc8 hcz i h1' h3 Q hQ
end Go.Proofs.YtfbcdmhmpfijjaaGreatDoor
namespace Go.Proofs.YtfbcdmhmpfijjaaGreatDoor
open Go Go.RowKit
def St.put (s:St) (a:Nat) (k z t:Int):St :=
 { s with
  W:=setW (clrW s.W a (Sp.wide z).toNat) a (Sp.hdr a k z)
  ser:=if Sp.numbered k then s.ser + 1 else s.ser
  Q:=if Sp.numbered k then updM s.Q (s.ser + 1) (some (a:Int)) else s.Q
  S:=updM s.S a (some ⟨k,z,if Sp.numbered k then s.ser + 1 else 0,t⟩)
  B:=fun j => if j=0 then setS (s.B 0) a true else s.B j
  room:=s.room + Sp.wide z
  acts:=s.acts + 2 }
set_option maxHeartbeats 1600000 in
theorem alloc_shape (w:World) (L:Lay) (s:St) (_h:SpaceAt w L s) (k z t:Int) (hz:(Lit.int .i64 z).wf=true) (hf:Sp.fits k z=false) :
 Calls Tryz.prog 19 #[.pointer (some ⟨L.sb,0,none⟩),.int .i64 k,.int .i64 z,.int .i64 t] w fun e w' => e=.returned (.tuple #[.int .i64 0,faultV 24 0]) ∧ Still w w':=by
 obtain ⟨hz1,hz2⟩:=wf_i64 hz
 have HF:=Lib.hid (fun w => fits_any k z w hz1 hz2)
 rw [hf] at HF
 clear hz hf hz1 hz2
 go_enter Tryz.func19,Tryz.ntmps19
 go_wp2_with fail
 refine (HF.out _).mono ?_
 rintro e w1 ⟨rfl,rfl⟩
 go_wp2
 exact bodyPost_ret (v:=.tuple #[.int .i64 0,faultV 24 0]) (by simp [results,Tryz.results19,go_sem]) rfl ⟨rfl,(Only.refl _ _ w).alloc _⟩
theorem SpaceAt.drew {w:World} {L:Lay} {s:St} (h:SpaceAt w L s):SpaceAt w.drew L s:=h.still ((Only.refl _ _ w).drew)
theorem Sp.wide_pos {z:Int} (h1:1 ≤ z) (h2:z ≤ 1024):1 ≤ Sp.wide z:=by
 have hc:=Sp.cls_in h1 h2
 unfold Sp.wide
 split
 ·have:=Sp.pgs_le z;omega
 ·next hp =>
  by_cases h8:Sp.cls z=8
  ·unfold Sp.pgs at hp;rw [if_pos h8] at hp;omega
  ·have:=Sp.cww_8 (Sp.cls z) (by omega);omega
set_option maxHeartbeats 3200000 in
theorem alloc_full (w:World) (L:Lay) (s:St) (h:SpaceAt w L s) (k z t:Int) (hf:Sp.fits k z=true) (he:(s.take z).2.2.1 ≠ 0) (Q:Ending → World → Prop)
 (hQ:∀ w',SpaceAt w' L (s.take z).1 → Only L.lo L.hi w w' → Q (.returned (.tuple #[.int .i64 0,faultV (s.take z).2.2.1 (s.take z).2.2.2])) w') :
 Calls Tryz.prog 19 #[.pointer (some ⟨L.sb,0,none⟩),.int .i64 k,.int .i64 z,.int .i64 t] w Q:=by
 obtain ⟨hz1,hz2⟩:=Sp.fits_size hf
 have HF:=Lib.hid (fun w => fits_any k z w (by omega) (by omega))
 rw [hf] at HF
 have HQ:=Lib.hid hQ
 have HS0:=Lib.hid (h.alloc (.cells #[.int .i64 0,.int .i64 0] 50))
 have hst:Still w (w.alloc (.cells #[.int .i64 0,.int .i64 0] 50)):=(Only.refl _ _ w).alloc _
 have HST:=Lib.hid (hst.any L.lo L.hi)
 have HNEW:Hid (∀ w1,Only L.lo L.hi (w.alloc (.cells #[.int .i64 0,.int .i64 0] 50)) w1 → w1.heap[w.heap.size]?=some (.cells #[.int .i64 0,.int .i64 0] 50 (0,0))):=Lib.hid fun w1 ho => only_new ho h.top
 have HTOP:=Lib.hid h.top
 have HTK:=Lib.hid (fun Q => take_any _ L s HS0.out z hz1 hz2 Q)
 obtain ⟨⟨s1,a,e1,f1⟩,htk⟩:∃ r,s.take z=r:=⟨_,rfl⟩
 rw [htk] at HQ HTK he
 dsimp only at HQ HTK he
 have hb0:(e1 != 0)=true:=by simpa using he
 clear h hst hQ he htk hz1 hz2 hf
 go_enter Tryz.func19,Tryz.ntmps19
 go_wp2_with fail
 generalize w.alloc (.cells #[.int .i64 0,.int .i64 0] 50)=w0 at *
 refine (HF.out _).mono ?_
 rintro e w1 ⟨rfl,rfl⟩
 go_wp2_with fail
 refine HTK.out _ fun w1 h1 ho1 => ?_
 have hb:=HNEW.out _ ho1
 have H1:=Lib.hid h1;have HO1:=Lib.hid (HST.out.trans ho1);clear h1 ho1
 have hlt1:=(Array.getElem?_eq_some_iff.1 hb).1
 have hz0:=cell_of (v:=.int .i64 0) hb 0 rfl
 have hz1:=cell_of (v:=.int .i64 0) hb 1 rfl
 have hf0:=frozen_of hb 0
 have hf1:=frozen_of hb 1
 clear hb
 go_wp2
 go_region
 all_goals
  go_wp2
  refine bodyPost_ret (v:=.tuple #[.int .i64 0,faultV e1 f1]) (by simp [results,Tryz.results19,go_sem, *]) rfl (HQ.out _ ?_ ?_)
  ·exact (((H1.out.setNew HTOP.out 0 _).setNew HTOP.out 1 _).alloc _).drew
  ·repeat first | exact HO1.out | apply Only.drew | (refine Only.setCell ?_ (.inr (Nat.le_refl _)) _) | apply Only.alloc
theorem SpaceAt.putQ {w:World} {L:Lay} {s:St} (h:SpaceAt w L s) (ha:s.acts < 1000000000000) {x v:Int} (hx:(Lit.int .i64 x).wf=true) :
 ∃ w',(Instr.mapUpdate 80 (.map (some L.qm)) (.int .i64 x) (.int .i64 v)).run Tryz.prog w=.ok () w' ∧ SpaceAt w' L { s with Q:=updM s.Q x (some v),acts:=s.acts + 1 } ∧ Only L.lo L.hi w w':=by
 obtain ⟨w',hrun,hm,ho⟩:=h.places.put (by unfold maxLen;omega) Tryz.underlying80 hx (.int .i64 v)
 refine ⟨w',hrun,?_,h.only 4 (by omega) ho⟩
 have h2:=(h.mono (m:=s.acts + 1) (by omega) (by omega))
 refine h2.updQ ho (m:=s.acts + 1) ?_ (Nat.le_refl _)
 rw [show (fun y => Option.map (Value.int IntKind.i64) (updM s.Q x (some v) y))=updM (fun y => Option.map (Value.int IntKind.i64) (s.Q y)) x (some (.int .i64 v)) from (updM_map _ _ _ _).symm]
 exact hm
theorem SpaceAt.putS {w:World} {L:Lay} {s:St} (h:SpaceAt w L s) (ha:s.acts < 1000000000000) {x:Int} {v:Sh} (hx:(Lit.int .i64 x).wf=true) :
 ∃ w',(Instr.mapUpdate 79 (.map (some L.sm)) (.int .i64 x) v.v).run Tryz.prog w=.ok () w' ∧ SpaceAt w' L { s with S:=updM s.S x (some v),acts:=s.acts + 1 } ∧ Only L.lo L.hi w w':=by
 obtain ⟨w',hrun,hm,ho⟩:=h.shapes.put (by unfold maxLen;omega) Tryz.underlying79 hx v.v
 refine ⟨w',hrun,?_,h.only 3 (by omega) ho⟩
 have h2:=(h.mono (m:=s.acts + 1) (by omega) (by omega))
 refine h2.updS ho (m:=s.acts + 1) ?_ (Nat.le_refl _)
 rw [show (fun y => Option.map Sh.v (updM s.S x (some v) y))=updM (fun y => Option.map Sh.v (s.S y)) x (some v.v) from (updM_map _ _ _ _).symm]
 exact hm
end Go.Proofs.YtfbcdmhmpfijjaaGreatDoor
