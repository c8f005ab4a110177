/-
  The walk of keep.apart.
-/
import Derived.Laws.Rows
import Derived.Test.YtfbcdmhmpfijjaaGreatDoorQ29
import Derived.Deep.RegionHeld3
set_option linter.unusedVariables false
set_option linter.unusedSimpArgs false
set_option linter.unusedSectionVars false
namespace Go.Proofs.YtfbcdmhmpfijjaaGreatDoor
open Go Go.RowKit
theorem KHead.elem {W:World} {pb:Nat} {h0 h1:Value} {own:Nat → Lb} {v:Nat → Value} {ls:Nat → List Value} (h:KHead W pb h0 h1 own v ls) {j:Nat} (hj:j < 12) {i:Nat} (hi:i < (ls j).length) {u:Value} (hu:(ls j)[i]?=some u) :
 ∃ g c,v j=.slice (some ⟨g,0,none⟩) (ls j).length c ∧ g < W.heap.size ∧ W.cell? ⟨g,i,none⟩=some u:=by
 have hr:=h.rows j hj
 rcases hr.2 with ⟨_,e⟩ | ⟨g,cap,cur,hv,_,hg,_⟩
 ·omega
 ·refine ⟨g,cap,hv,(Array.getElem?_eq_some_iff.1 hg).1,?_⟩
  have:=hr.cells (g:=g) (by rw [hv];rfl) i u hu
  rwa [add_at] at this
theorem getD_some {α:Type} {l:List α} {i:Nat} {d:α} (h:i < l.length):l[i]?=some (l.getD i d):=by
 rw [List.getD_eq_getElem?_getD,List.getElem?_eq_getElem h];rfl
structure HoldF (W:World) (k n:Nat) (a:Option Addr) (m:Int):Prop where
 nle:n ≤ 9223372036854775807
 at':∀ j,j < n → ∃ g,a=some ⟨g,0,none⟩ ∧ g < W.heap.size ∧ W.cell? ⟨g,j * ek k + ed k,none⟩=some (.int .i64 m)
theorem HoldF.still {W W':World} {k n:Nat} {a:Option Addr} {m:Int} (h:HoldF W k n a m) (hs:Still W W'):HoldF W' k n a m :=
 ⟨h.nle,fun j hj => by
  obtain ⟨g,h1,h2,h3⟩:=h.at' j hj
  exact ⟨g,h1,Nat.lt_of_lt_of_le h2 hs.size,(hs.cell (p:=⟨g,j * ek k + ed k,none⟩) h2 (.inl h2)).trans h3⟩⟩
structure HoldI (W:World) (k i N:Nat) (v6 v9:Value) (n:Nat) (a:Option Addr) (c:Nat) (m:Int) (g6 c6 g9 c9:Nat):Prop where
 e6:v6=.slice (some ⟨g6,0,none⟩) N c6
 e9:v9=.slice (some ⟨g9,0,none⟩) N c9
 l6:g6 < W.heap.size
 l9:g9 < W.heap.size
 z6:W.cell? ⟨g6,i,none⟩=some (.slice a n c)
 z9:W.cell? ⟨g9,i,none⟩=some (.int .i64 m)
 hf:HoldF W k n a m
theorem HoldI.still {W W':World} {k i N:Nat} {v6 v9:Value} {n:Nat} {a:Option Addr} {c:Nat} {m:Int} {g6 c6 g9 c9:Nat} (h:HoldI W k i N v6 v9 n a c m g6 c6 g9 c9) (hs:Still W W'):HoldI W' k i N v6 v9 n a c m g6 c6 g9 c9 :=
 ⟨h.e6,h.e9,Nat.lt_of_lt_of_le h.l6 hs.size,Nat.lt_of_lt_of_le h.l9 hs.size,(hs.cell (p:=⟨g6,i,none⟩) h.l6 (.inl h.l6)).trans h.z6,(hs.cell (p:=⟨g9,i,none⟩) h.l9 (.inl h.l9)).trans h.z9,h.hf.still hs⟩
theorem hold_facts {W:World} {pb:Nat} {h0 h1:Value} {own:Nat → Lb} {v:Nat → Value} {ls:Nat → List Value} {qf:Nat → Nat} {C:Nat} (h:KHead W pb h0 h1 own v ls) (f:KFacts W own ls qf C) {k:Nat} (hk:k < 3) {i:Nat} (hi:i < (ls (6 + k)).length) :
 ∃ n a c m g6 c6 g9 c9,HoldI W k i (ls (6 + k)).length (v (6 + k)) (v (9 + k)) n a c m g6 c6 g9 c9:=by
 obtain ⟨m,q1,q2,_⟩:=f.full k hk i hi
 obtain ⟨⟨n,xs,x1,x2⟩,_⟩:=q2
 obtain ⟨a,c,e⟩:=own_form x1
 obtain ⟨g6,c6,a1,a2,a3⟩:=h.elem (j:=6 + k) (by omega) hi (getD_some hi)
 obtain ⟨g9,c9,b1,b2,b3⟩:=h.elem (j:=9 + k) (by omega) (i:=i) (by rw [f.sg k hk];exact hi) q1
 rw [e] at a3
 rw [f.sg k hk] at b1
 refine ⟨n,a,c,m,g6,c6,g9,c9,a1,b1,a2,b2,a3,b3,?_,fun j hj => ?_⟩
 ·rcases x1.2 with ⟨_,rfl⟩ | ⟨_,cap,_,_,_,_,hnc,hcm,_⟩
  ·omega
  ·unfold maxLen at hcm;omega
 ·rcases x1.2 with ⟨_,e2⟩ | ⟨g,cap,cur,hv,_,hg,_⟩
  ·omega
  ·rw [e] at hv
   injection hv with hv _ _
   refine ⟨g,hv,(Array.getElem?_eq_some_iff.1 hg).1,?_⟩
   have:=x1.cells (g:=g) (by rw [e,hv];rfl) _ _ (x2 j hj)
   rwa [add_at] at this
set_option maxRecDepth 100000 in
set_option maxHeartbeats 6400000 in
theorem khold_any (W:World) (pb:Nat) (h0 h1:Value) (own:Nat → Lb) (C:Nat) (v:Nat → Value) (ls:Nat → List Value) (qf:Nat → Nat) (h:KHead W pb h0 h1 own v ls) (f:KFacts W own ls qf C) (hC:C ≤ 900000) :
 Calls Tryz.prog 90 #[.pointer (some ⟨pb,2,none⟩)] W fun e w' => e=.returned (.bool true) ∧ Still W w':=by
 have HPL:Hid (∀ w,Still W w → pb < w.heap.size):=Lib.hid fun w hs => Nat.lt_of_lt_of_le h.lt hs.size
 obtain ⟨N0,hN0⟩:∃ N,(ls 6).length=N:=⟨_,rfl⟩
 have hl0:N0 ≤ C:=by rw [← hN0];exact f.cap 0 (by decide)
 have hM0:(N0:Int) ≤ 900000:=by omega
 have HF0:Hid (∀ w,Still W w → ∀ i,i < N0 → ∃ n a c m g6 c6 g9 c9,HoldI w 0 i N0 (v 6) (v 9) n a c m g6 c6 g9 c9):=Lib.hid fun w hs i hi => by
  obtain ⟨n,a,c,m,g6,c6,g9,c9,hh⟩:=hold_facts h f (k:=0) (by decide) (i:=i) (by rw [show (ls (6 + 0)).length=N0 from hN0];exact hi)
  rw [show (ls (6 + 0)).length=N0 from hN0] at hh
  exact ⟨n,a,c,m,g6,c6,g9,c9,hh.still hs⟩
 have HV0:Hid (∀ w,Still W w → ∃ a c,v 6=.slice a N0 c ∧ w.cell? ⟨pb,8,none⟩=some (v 6) ∧ w.cell? ⟨pb,11,none⟩=some (v 9)):=Lib.hid fun w hs => by
  obtain ⟨a,c,e⟩:=own_form (h.rows 6 (by decide))
  rw [hN0] at e
  exact ⟨a,c,e,(h.still hs).cell 6 (by decide),(h.still hs).cell 9 (by decide)⟩
 clear hN0 hl0
 obtain ⟨N1,hN1⟩:∃ N,(ls 7).length=N:=⟨_,rfl⟩
 have hl1:N1 ≤ C:=by rw [← hN1];exact f.cap 1 (by decide)
 have hM1:(N1:Int) ≤ 900000:=by omega
 have HF1:Hid (∀ w,Still W w → ∀ i,i < N1 → ∃ n a c m g6 c6 g9 c9,HoldI w 1 i N1 (v 7) (v 10) n a c m g6 c6 g9 c9):=Lib.hid fun w hs i hi => by
  obtain ⟨n,a,c,m,g6,c6,g9,c9,hh⟩:=hold_facts h f (k:=1) (by decide) (i:=i) (by rw [show (ls (6 + 1)).length=N1 from hN1];exact hi)
  rw [show (ls (6 + 1)).length=N1 from hN1] at hh
  exact ⟨n,a,c,m,g6,c6,g9,c9,hh.still hs⟩
 have HV1:Hid (∀ w,Still W w → ∃ a c,v 7=.slice a N1 c ∧ w.cell? ⟨pb,9,none⟩=some (v 7) ∧ w.cell? ⟨pb,12,none⟩=some (v 10)):=Lib.hid fun w hs => by
  obtain ⟨a,c,e⟩:=own_form (h.rows 7 (by decide))
  rw [hN1] at e
  exact ⟨a,c,e,(h.still hs).cell 7 (by decide),(h.still hs).cell 10 (by decide)⟩
 clear hN1 hl1
 obtain ⟨N2,hN2⟩:∃ N,(ls 8).length=N:=⟨_,rfl⟩
 have hl2:N2 ≤ C:=by rw [← hN2];exact f.cap 2 (by decide)
 have hM2:(N2:Int) ≤ 900000:=by omega
 have HF2:Hid (∀ w,Still W w → ∀ i,i < N2 → ∃ n a c m g6 c6 g9 c9,HoldI w 2 i N2 (v 8) (v 11) n a c m g6 c6 g9 c9):=Lib.hid fun w hs i hi => by
  obtain ⟨n,a,c,m,g6,c6,g9,c9,hh⟩:=hold_facts h f (k:=2) (by decide) (i:=i) (by rw [show (ls (6 + 2)).length=N2 from hN2];exact hi)
  rw [show (ls (6 + 2)).length=N2 from hN2] at hh
  exact ⟨n,a,c,m,g6,c6,g9,c9,hh.still hs⟩
 have HV2:Hid (∀ w,Still W w → ∃ a c,v 8=.slice a N2 c ∧ w.cell? ⟨pb,10,none⟩=some (v 8) ∧ w.cell? ⟨pb,13,none⟩=some (v 11)):=Lib.hid fun w hs => by
  obtain ⟨a,c,e⟩:=own_form (h.rows 8 (by decide))
  rw [hN2] at e
  exact ⟨a,c,e,(h.still hs).cell 8 (by decide),(h.still hs).cell 11 (by decide)⟩
 clear hN2 hl2
 clear h f hC
 have HS:=Lib.hid (show Still W W from Only.refl _ _ _)
 go_enter Tryz.func90,Tryz.ntmps90
 go_wp2_with fail
 go_loopw [3] (fun y w => ∃ i:Nat,y=.int .i64 (i:Int) ∧ i ≤ N0 ∧ Still W w) (fun y _ => N0 + 1 - (intOf y).toNat)
 case atStart => exact ⟨0,rfl,Nat.zero_le _,HS.out⟩
 case round =>
  obtain ⟨i,rfl,hi,hst⟩:=hrel
  have HST:=Lib.hid hst
  have hi0:(0:Int) ≤ (i:Int):=by omega
  obtain ⟨av,cv,hav,z1,z2⟩:=HV0.out _ hst
  have hpl:=HPL.out _ hst
  by_cases hin:i < N0
  ·have hiI:(i:Int) < (N0:Int):=by omega
   obtain ⟨n,a,c,m,g6,c6,g9,c9,hh⟩:=HF0.out _ hst i hin
   have HH:=Lib.hid hh
   have e6:=hh.e6
   have e9:=hh.e9
   have hnl:=hh.hf.nle
   have hn0:(0:Int) ≤ (n:Int):=by omega
   have hnM:(n:Int) ≤ 9223372036854775807:=by omega
   rw [e6] at z1
   clear hst z2 hav hh e6 e9
   go_wp2_with fail
   go_loopw [4] (fun y w => ∃ j:Nat,y=.int .i64 (j:Int) ∧ j ≤ n ∧ Still wr w) (fun y _ => n + 1 - (intOf y).toNat)
   case atStart => exact ⟨0,rfl,Nat.zero_le _,Only.refl _ _ _⟩
   case round =>
    obtain ⟨j,rfl,hj,hs2⟩:=hrel
    have HS2:=Lib.hid hs2
    have hj0:(0:Int) ≤ (j:Int):=by omega
    have hh:=HH.out.still hs2
    have hst2:=Still.trans HST.out hs2
    obtain ⟨av,cv,hav,z1,z2⟩:=HV0.out _ hst2
    have hpl:=HPL.out _ hst2
    obtain ⟨e6,e9,l6,l9,z6,z9,hf⟩:=hh
    rw [e6] at z1
    rw [e9] at z2
    by_cases hjn:j < n
    ·have hjI:(j:Int) < (n:Int):=by omega
     obtain ⟨g,rfl,lg,zc⟩:=hf.at' j hjn
     have zc:_=some (Value.int .i64 m):=zc
     change World.cell? _ ⟨g,j * 1 + 0,none⟩=_ at zc
     rw [Nat.mul_one,Nat.add_zero] at zc
     clear hs2 hst2 hf hav e6 e9
     go_wp2_with fail
     go_quiet (fail)
     go_wp2_with fail
     exact ⟨⟨j + 1,by go_num,hjn,HS2.out.drewN _⟩,by simp [intOf];omega⟩
    ·obtain rfl:j=n:=by omega
     clear hs2 hst2 hf hav e6 e9
     go_wp2_with fail
     exact ⟨⟨i + 1,by go_num,hin,Still.trans HST.out HS2.out⟩,by simp [intOf];omega⟩
  ·obtain rfl:i=N0:=by omega
   rw [hav] at z1
   clear z2 hav HS
   have HS:=Lib.hid hst
   clear hst
   go_wp2_with fail
   go_loopw [5] (fun y w => ∃ i:Nat,y=.int .i64 (i:Int) ∧ i ≤ N1 ∧ Still W w) (fun y _ => N1 + 1 - (intOf y).toNat)
   case atStart => exact ⟨0,rfl,Nat.zero_le _,HS.out⟩
   case round =>
    obtain ⟨i,rfl,hi,hst⟩:=hrel
    have HST:=Lib.hid hst
    have hi0:(0:Int) ≤ (i:Int):=by omega
    obtain ⟨av,cv,hav,z1,z2⟩:=HV1.out _ hst
    have hpl:=HPL.out _ hst
    by_cases hin:i < N1
    ·have hiI:(i:Int) < (N1:Int):=by omega
     obtain ⟨n,a,c,m,g6,c6,g9,c9,hh⟩:=HF1.out _ hst i hin
     have HH:=Lib.hid hh
     have e6:=hh.e6
     have e9:=hh.e9
     have hnl:=hh.hf.nle
     have hn0:(0:Int) ≤ (n:Int):=by omega
     have hnM:(n:Int) ≤ 9223372036854775807:=by omega
     rw [e6] at z1
     clear hst z2 hav hh e6 e9
     go_wp2_with fail
     go_loopw [6] (fun y w => ∃ j:Nat,y=.int .i64 (j:Int) ∧ j ≤ n ∧ Still wr w) (fun y _ => n + 1 - (intOf y).toNat)
     case atStart => exact ⟨0,rfl,Nat.zero_le _,Only.refl _ _ _⟩
     case round =>
      obtain ⟨j,rfl,hj,hs2⟩:=hrel
      have HS2:=Lib.hid hs2
      have hj0:(0:Int) ≤ (j:Int):=by omega
      have hh:=HH.out.still hs2
      have hst2:=Still.trans HST.out hs2
      obtain ⟨av,cv,hav,z1,z2⟩:=HV1.out _ hst2
      have hpl:=HPL.out _ hst2
      obtain ⟨e6,e9,l6,l9,z6,z9,hf⟩:=hh
      rw [e6] at z1
      rw [e9] at z2
      by_cases hjn:j < n
      ·have hjI:(j:Int) < (n:Int):=by omega
       obtain ⟨g,rfl,lg,zc⟩:=hf.at' j hjn
       have zc:_=some (Value.int .i64 m):=zc
       change World.cell? _ ⟨g,j * 3 + 0,none⟩=_ at zc
       rw [Nat.add_zero] at zc
       clear hs2 hst2 hf hav e6 e9
       go_wp2_with fail
       go_quiet (fail)
       go_wp2_with fail
       exact ⟨⟨j + 1,by go_num,hjn,HS2.out.drewN _⟩,by simp [intOf];omega⟩
      ·obtain rfl:j=n:=by omega
       clear hs2 hst2 hf hav e6 e9
       go_wp2_with fail
       exact ⟨⟨i + 1,by go_num,hin,Still.trans HST.out HS2.out⟩,by simp [intOf];omega⟩
    ·obtain rfl:i=N1:=by omega
     rw [hav] at z1
     clear z2 hav HS
     have HS:=Lib.hid hst
     clear hst
     go_wp2_with fail
     go_loopw [7] (fun y w => ∃ i:Nat,y=.int .i64 (i:Int) ∧ i ≤ N2 ∧ Still W w) (fun y _ => N2 + 1 - (intOf y).toNat)
     case atStart => exact ⟨0,rfl,Nat.zero_le _,HS.out⟩
     case round =>
      obtain ⟨i,rfl,hi,hst⟩:=hrel
      have HST:=Lib.hid hst
      have hi0:(0:Int) ≤ (i:Int):=by omega
      obtain ⟨av,cv,hav,z1,z2⟩:=HV2.out _ hst
      have hpl:=HPL.out _ hst
      by_cases hin:i < N2
      ·have hiI:(i:Int) < (N2:Int):=by omega
       obtain ⟨n,a,c,m,g6,c6,g9,c9,hh⟩:=HF2.out _ hst i hin
       have HH:=Lib.hid hh
       have e6:=hh.e6
       have e9:=hh.e9
       have hnl:=hh.hf.nle
       have hn0:(0:Int) ≤ (n:Int):=by omega
       have hnM:(n:Int) ≤ 9223372036854775807:=by omega
       rw [e6] at z1
       clear hst z2 hav hh e6 e9
       go_wp2_with fail
       go_loopw [8] (fun y w => ∃ j:Nat,y=.int .i64 (j:Int) ∧ j ≤ n ∧ Still wr w) (fun y _ => n + 1 - (intOf y).toNat)
       case atStart => exact ⟨0,rfl,Nat.zero_le _,Only.refl _ _ _⟩
       case round =>
        obtain ⟨j,rfl,hj,hs2⟩:=hrel
        have HS2:=Lib.hid hs2
        have hj0:(0:Int) ≤ (j:Int):=by omega
        have hh:=HH.out.still hs2
        have hst2:=Still.trans HST.out hs2
        obtain ⟨av,cv,hav,z1,z2⟩:=HV2.out _ hst2
        have hpl:=HPL.out _ hst2
        obtain ⟨e6,e9,l6,l9,z6,z9,hf⟩:=hh
        rw [e6] at z1
        rw [e9] at z2
        by_cases hjn:j < n
        ·have hjI:(j:Int) < (n:Int):=by omega
         obtain ⟨g,rfl,lg,zc⟩:=hf.at' j hjn
         have zc:_=some (Value.int .i64 m):=zc
         change World.cell? _ ⟨g,j * 5 + 1,none⟩=_ at zc
         skip
         clear hs2 hst2 hf hav e6 e9
         go_wp2_with fail
         go_quiet (fail)
         go_wp2_with fail
         exact ⟨⟨j + 1,by go_num,hjn,HS2.out.drewN _⟩,by simp [intOf];omega⟩
        ·obtain rfl:j=n:=by omega
         clear hs2 hst2 hf hav e6 e9
         go_wp2_with fail
         exact ⟨⟨i + 1,by go_num,hin,Still.trans HST.out HS2.out⟩,by simp [intOf];omega⟩
      ·obtain rfl:i=N2:=by omega
       rw [hav] at z1
       clear z2 hav HS
       have HS:=Lib.hid hst
       clear hst
       go_wp2_with fail
       go_ret
       exact ⟨rfl,HS.out⟩
end Go.Proofs.YtfbcdmhmpfijjaaGreatDoor
namespace Go.Proofs.YtfbcdmhmpfijjaaGreatDoor
open Go Go.RowKit
structure QF (W:World) (k i N:Nat) (v0 v1:Value) (n:Nat) (f:Nat → Nat → Int) (a b:Option Addr) (c c' g cg g' cg':Nat):Prop where
 e0:v0=.slice (some ⟨g,0,none⟩) N cg
 e1:v1=.slice (some ⟨g',0,none⟩) N cg'
 l0:g < W.heap.size
 l1:g' < W.heap.size
 z0:W.cell? ⟨g,i,none⟩=some (.slice a n c)
 z1:W.cell? ⟨g',i,none⟩=some (.slice b n c')
 r0:RowAt W (.slice a n c) n (ek k) f
 r1:RowAt W (.slice b n c') n (ek k) f
 le:n ≤ 300000
theorem QF.still {W W':World} {k i N:Nat} {v0 v1:Value} {n:Nat} {f:Nat → Nat → Int} {a b:Option Addr} {c c' g cg g' cg':Nat} (h:QF W k i N v0 v1 n f a b c c' g cg g' cg') (hs:Still W W'):QF W' k i N v0 v1 n f a b c c' g cg g' cg' :=
 ⟨h.e0,h.e1,Nat.lt_of_lt_of_le h.l0 hs.size,Nat.lt_of_lt_of_le h.l1 hs.size,(hs.cell (p:=⟨g,i,none⟩) h.l0 (.inl h.l0)).trans h.z0,(hs.cell (p:=⟨g',i,none⟩) h.l1 (.inl h.l1)).trans h.z1,h.r0.still hs,h.r1.still hs,h.le⟩
theorem qf_facts {W:World} {pb:Nat} {h0 h1:Value} {own:Nat → Lb} {v:Nat → Value} {ls:Nat → List Value} {qf:Nat → Nat} {C:Nat} (h:KHead W pb h0 h1 own v ls) (f:KFacts W own ls qf C) {k:Nat} (hk:k < 3) {i:Nat} (hq:qf k ≤ i) (hi:i < (ls (2 * k)).length) :
 ∃ n f a b c c' g cg g' cg',QF W k i (ls (2 * k)).length (v (2 * k)) (v (2 * k + 1)) n f a b c c' g cg g' cg':=by
 obtain ⟨n,fn,xs,q⟩:=f.quiet k hk i hq hi
 have hi2:i < (ls (2 * k + 1)).length:=by rw [f.l1 k hk];exact hi
 obtain ⟨a,c,e⟩:=own_form q.ra
 obtain ⟨b,c',e'⟩:=own_form q.rb
 obtain ⟨g,cg,a1,a2,a3⟩:=h.elem (j:=2 * k) (by omega) hi (getD_some (d:=nilV) hi)
 obtain ⟨g',cg',b1,b2,b3⟩:=h.elem (j:=2 * k + 1) (by omega) hi2 (getD_some (d:=nilV) hi2)
 have r0:=row_at q.ra q.hx
 have r1:=row_at q.rb q.hx
 rw [e] at a3 r0
 rw [e'] at b3 r1
 rw [f.l1 k hk] at b1
 exact ⟨n,fn,a,b,c,c',g,cg,g',cg',a1,b1,a2,b2,a3,b3,r0,r1,q.le⟩
def q3 (a b c:Nat):Nat → Nat
 | 0 => a | 1 => b | _ => c
theorem mark_facts {W:World} {pb:Nat} {h0 h1:Value} {own:Nat → Lb} {v:Nat → Value} {ls:Nat → List Value} {qf qf':Nat → Nat} {C:Nat} (h:KHead W pb h0 h1 own v ls) (f:KFacts W own ls qf C) {k:Nat} (hk:k < 3) {i:Nat} (hq:qf k ≤ i) (hi:i < (ls (2 * k)).length) (hq':i < qf' k) :
 ∃ n xs a c g cg,W.ownsRow 0 (eT k) (ek k) (.slice a n c) n xs ∧ n ≤ 300000 ∧ Spare W own qf' k (.slice a n c) ∧ v (2 * k)=.slice (some ⟨g,0,none⟩) (ls (2 * k)).length cg ∧ g < W.heap.size ∧ W.cell? ⟨g,i,none⟩=some (.slice a n c) ∧ ∀ x,(Value.slice a n c).ownBlock=some x → own x ≠ Lno ∨ W.heap.size ≤ x:=by
 obtain ⟨n,fn,xs,q⟩:=f.quiet k hk i hq hi
 obtain ⟨a,c,e⟩:=own_form q.ra
 obtain ⟨g,cg,a1,a2,a3⟩:=h.elem (j:=2 * k) (by omega) hi (getD_some (d:=nilV) hi)
 have ra:=q.ra
 have la:=q.la
 rw [e] at a3 ra la
 exact ⟨n,xs,a,c,g,cg,ra,q.le,fun x hx => ⟨(ra.lt x hx).2,.inr ⟨i,hq',.inl (la x hx)⟩⟩,a1,a2,a3,fun x hx => .inl (by rw [la x hx];intro e;cases e)⟩
structure ApS (pb:Nat) (h0 h1:Value) (W0:World) (own0:Nat → Lb) (ls0:Nat → List Value) (qf:Nat → Nat) (C:Nat) (W:World) (own:Nat → Lb) (v:Nat → Value) (ls:Nat → List Value):Prop where
 hd:KHead W pb h0 h1 own v ls
 fc:KFacts W own ls qf C
 fr:KFrm W0 own0 none W own
 eq:∀ j,j < 6 → ls j=ls0 j
set_option maxRecDepth 100000 in
set_option maxHeartbeats 6400000 in
theorem kapart_any (W:World) (pb:Nat) (h0 h1:Value) (own:Nat → Lb) (C:Nat) (hk:KeepAt W pb h0 h1 own (fun _ => 0) C) (hC:C + 800 ≤ 900000) (Q:Ending → World → Prop)
 (hQ:∀ W' own' qf,KeepAt W' pb h0 h1 own' qf (C + 800) → KFB W.heap.size W own W' own' → Q (.returned (.bool true)) W') :
 Calls Tryz.prog 41 #[.pointer (some ⟨pb,2,none⟩)] W Q:=by
 have HQ:=Lib.hid hQ
 obtain ⟨v,ls,hk⟩:=hk
 have HK:=Lib.hid hk
 obtain ⟨N,hN⟩:∃ N,(ls 0).length=N:=⟨_,rfl⟩
 obtain ⟨M,hM⟩:∃ M,(ls 4).length=M:=⟨_,rfl⟩
 have hN2:(ls 2).length=N:=hk.pgs.trans hN
 have hNM:N + M ≤ 32:=by rw [← hN,← hM];exact hk.mny
 have HL:Hid ((ls 0).length=N ∧ (ls 4).length=M ∧ (ls 2).length=N):=Lib.hid ⟨hN,hM,hN2⟩
 have hNI:(N:Int) ≤ 32:=by omega
 have hMI:(M:Int) ≤ 32:=by omega
 have HPL:Hid (∀ w,Still W w → pb < w.heap.size):=Lib.hid fun w hs => Nat.lt_of_lt_of_le hk.hd.lt hs.size
 have HV:Hid (∀ w,Still W w → (∃ a c,v 0=.slice a N c) ∧ (∃ a c,v 4=.slice a M c) ∧ w.cell? ⟨pb,2,none⟩=some (v 0) ∧ w.cell? ⟨pb,3,none⟩=some (v 1) ∧ w.cell? ⟨pb,4,none⟩=some (v 2) ∧ w.cell? ⟨pb,5,none⟩=some (v 3) ∧ w.cell? ⟨pb,6,none⟩=some (v 4) ∧ w.cell? ⟨pb,7,none⟩=some (v 5)):=Lib.hid fun w hs => by
  have hw:=hk.hd.still hs
  refine ⟨?_,?_,hw.cell 0 (by decide),hw.cell 1 (by decide),hw.cell 2 (by decide),hw.cell 3 (by decide),hw.cell 4 (by decide),hw.cell 5 (by decide)⟩
  ·rw [← hN];exact own_form (hk.hd.rows 0 (by decide))
  ·rw [← hM];exact own_form (hk.hd.rows 4 (by decide))
 have HF0:Hid (∀ w,Still W w → ∀ i,i < N → ∃ n f a b c c' g cg g' cg',QF w 0 i N (v 0) (v 1) n f a b c c' g cg g' cg'):=Lib.hid fun w hs i hi => by
  obtain ⟨n,f,a,b,c,c',g,cg,g',cg',h⟩:=qf_facts hk.hd hk.fc (k:=0) (by decide) (i:=i) (Nat.zero_le _) (by rw [show (ls (2 * 0)).length=N from hN];exact hi)
  rw [show (ls (2 * 0)).length=N from hN] at h
  exact ⟨n,f,a,b,c,c',g,cg,g',cg',h.still hs⟩
 have HF1:Hid (∀ w,Still W w → ∀ i,i < N → ∃ n f a b c c' g cg g' cg',QF w 1 i N (v 2) (v 3) n f a b c c' g cg g' cg'):=Lib.hid fun w hs i hi => by
  obtain ⟨n,f,a,b,c,c',g,cg,g',cg',h⟩:=qf_facts hk.hd hk.fc (k:=1) (by decide) (i:=i) (Nat.zero_le _) (by rw [show (ls (2 * 1)).length=N from hN2];exact hi)
  rw [show (ls (2 * 1)).length=N from hN2] at h
  exact ⟨n,f,a,b,c,c',g,cg,g',cg',h.still hs⟩
 have HF2:Hid (∀ w,Still W w → ∀ i,i < M → ∃ n f a b c c' g cg g' cg',QF w 2 i M (v 4) (v 5) n f a b c c' g cg g' cg'):=Lib.hid fun w hs i hi => by
  obtain ⟨n,f,a,b,c,c',g,cg,g',cg',h⟩:=qf_facts hk.hd hk.fc (k:=2) (by decide) (i:=i) (Nat.zero_le _) (by rw [show (ls (2 * 2)).length=M from hM];exact hi)
  rw [show (ls (2 * 2)).length=M from hM] at h
  exact ⟨n,f,a,b,c,c',g,cg,g',cg',h.still hs⟩
 have HS:=Lib.hid (show Still W W from Only.refl _ _ _)
 clear hk hN hM hN2 hQ
 go_enter Tryz.func41,Tryz.ntmps41
 go_wp2_with fail
 go_loopw [3] (fun y w => ∃ i:Nat,y=.int .i64 (i:Int) ∧ i ≤ N ∧ Still W w) (fun y _ => N + 1 - (intOf y).toNat)
 case atStart => exact ⟨0,rfl,Nat.zero_le _,HS.out⟩
 case round =>
  obtain ⟨i,rfl,hi,hst⟩:=hrel
  have HST:=Lib.hid hst
  have hi0:(0:Int) ≤ (i:Int):=by omega
  obtain ⟨⟨av,cv,hav⟩,_,z1,_,_,_,_,_⟩:=HV.out _ hst
  have hpl:=HPL.out _ hst
  by_cases hin:i < N
  ·have hiI:(i:Int) < (N:Int):=by omega
   obtain ⟨n0,f0,a0,b0,c0,c0',g0,cg0,g0',cg0',q0⟩:=HF0.out _ hst i hin
   obtain ⟨n1,f1,a1,b1,c1,c1',g1,cg1,g1',cg1',q1⟩:=HF1.out _ hst i hin
   have HQ0:=Lib.hid q0
   have HQ1:=Lib.hid q1
   have HSI:Hid (∀ w,Still wr w → Calls Tryz.prog 84 #[.slice a0 n0 c0,.slice b0 n0 c0'] w fun e w' => e=.returned (.bool true) ∧ Still w w'):=Lib.hid fun w hs => sameInts_eq w _ _ _ _ (q0.r0.still hs) (q0.r1.still hs) (by have:=q0.le;omega)
   have HSP:Hid (∀ w,Still wr w → Calls Tryz.prog 85 #[.slice a1 n1 c1,.slice b1 n1 c1'] w fun e w' => e=.returned (.bool true) ∧ Still w w'):=Lib.hid fun w hs => samePages_eq w _ _ _ _ (q1.r0.still hs) (q1.r1.still hs) (by have:=q1.le;omega)
   have e00:=q0.e0
   have e01:=q0.e1
   have e10:=q1.e0
   have e11:=q1.e1
   rw [e00] at z1
   have HC:Hid (∀ w,Still wr w → (w.cell? ⟨pb,2,none⟩=some (.slice (some ⟨g0,0,none⟩) N cg0) ∧ w.cell? ⟨pb,3,none⟩=some (.slice (some ⟨g0',0,none⟩) N cg0') ∧ w.cell? ⟨pb,4,none⟩=some (.slice (some ⟨g1,0,none⟩) N cg1) ∧ w.cell? ⟨pb,5,none⟩=some (.slice (some ⟨g1',0,none⟩) N cg1')) ∧
    w.cell? ⟨g0,i,none⟩=some (.slice a0 n0 c0) ∧ w.cell? ⟨g0',i,none⟩=some (.slice b0 n0 c0') ∧ w.cell? ⟨g1,i,none⟩=some (.slice a1 n1 c1) ∧ w.cell? ⟨g1',i,none⟩=some (.slice b1 n1 c1')):=Lib.hid fun w hs => by
    obtain ⟨_,_,y1,y2,y3,y4,_,_⟩:=HV.out _ (Still.trans HST.out hs)
    rw [e00] at y1
    rw [e01] at y2
    rw [e10] at y3
    rw [e11] at y4
    have x0:=HQ0.out.still hs
    have x1:=HQ1.out.still hs
    exact ⟨⟨y1,y2,y3,y4⟩,x0.z0,x0.z1,x1.z0,x1.z1⟩
   clear hst q0 q1 e00 e01 e10 e11 hav
   have hsC:Still wr wr:=Only.refl _ _ _
   obtain ⟨⟨k0,k1,k2,k3⟩,k4,k5,k6,k7⟩:=HC.out _ hsC
   go_upto_region 4 with fail
   go_cut [49] from 7 to 49 (fun s49 wx => s49=.bool false ∧ Still wr wx)
   case first =>
    go_region_held3 (fun w => (w.cell? ⟨pb,2,none⟩=some (.slice (some ⟨g0,0,none⟩) N cg0) ∧ w.cell? ⟨pb,3,none⟩=some (.slice (some ⟨g0',0,none⟩) N cg0') ∧ w.cell? ⟨pb,4,none⟩=some (.slice (some ⟨g1,0,none⟩) N cg1) ∧ w.cell? ⟨pb,5,none⟩=some (.slice (some ⟨g1',0,none⟩) N cg1')) ∧
     w.cell? ⟨g0,i,none⟩=some (.slice a0 n0 c0) ∧ w.cell? ⟨g0',i,none⟩=some (.slice b0 n0 c0') ∧ w.cell? ⟨g1,i,none⟩=some (.slice a1 n1 c1) ∧ w.cell? ⟨g1',i,none⟩=some (.slice b1 n1 c1'))
     ((refine HC.out _ ?_;(repeat first | with_reducible exact hsC | with_reducible exact Only.refl _ _ _ | with_reducible apply Only.drew | with_reducible apply Only.drewN | with_reducible apply Only.alloc)))
     (first
       | (go_at_call 84;refine (HSI.out _ (by (repeat first | with_reducible exact hsC | with_reducible exact Only.refl _ _ _ | with_reducible apply Only.drew | with_reducible apply Only.drewN | with_reducible apply Only.alloc))).mono ?_;rintro e wp ⟨rfl,hcall⟩;have hsC:Still wr wp:=Still.trans (by (repeat first | with_reducible exact hsC | with_reducible exact Only.refl _ _ _ | with_reducible apply Only.drew | with_reducible apply Only.drewN | with_reducible apply Only.alloc)) hcall)
       | (go_at_call 85;refine (HSP.out _ (by (repeat first | with_reducible exact hsC | with_reducible exact Only.refl _ _ _ | with_reducible apply Only.drew | with_reducible apply Only.drewN | with_reducible apply Only.alloc))).mono ?_;rintro e wq ⟨rfl,hcall⟩;have hsC:Still wr wq:=Still.trans (by (repeat first | with_reducible exact hsC | with_reducible exact Only.refl _ _ _ | with_reducible apply Only.drew | with_reducible apply Only.drewN | with_reducible apply Only.alloc)) hcall))
    all_goals
     go_wp2_with fail
     go_meet
     exact ⟨rfl,by (repeat first | with_reducible exact hsC | with_reducible exact Only.refl _ _ _ | with_reducible apply Only.drew | with_reducible apply Only.drewN | with_reducible apply Only.alloc)⟩
   case rest =>
    obtain ⟨rfl,hsc⟩:=hcut
    have HSC:=Lib.hid hsc
    clear hsc hsC HSI HSP HC HQ0 HQ1
    go_wp2_with fail
    exact ⟨⟨i + 1,by go_num,hin,Still.trans HST.out HSC.out⟩,by simp [intOf];omega⟩
  ·obtain rfl:N=i:=by omega
   rw [hav] at z1
   clear hav hst
   go_wp2_with fail
   go_loopw [4] (fun y w => ∃ j:Nat,y=.int .i64 (j:Int) ∧ j ≤ M ∧ Still W w) (fun y _ => M + 1 - (intOf y).toNat)
   case atStart => exact ⟨0,rfl,Nat.zero_le _,HST.out⟩
   case round =>
    obtain ⟨j,rfl,hj,hst⟩:=hrel
    have HST2:=Lib.hid hst
    have hj0:(0:Int) ≤ (j:Int):=by omega
    obtain ⟨_,⟨av,cv,hav⟩,_,_,_,_,z1,_⟩:=HV.out _ hst
    have hpl:=HPL.out _ hst
    by_cases hjm:j < M
    ·have hjI:(j:Int) < (M:Int):=by omega
     obtain ⟨n0,f0,a0,b0,c0,c0',g0,cg0,g0',cg0',q0⟩:=HF2.out _ hst j hjm
     have HQ0:=Lib.hid q0
     have HSB:Hid (∀ w,Still wr w → Calls Tryz.prog 72 #[.slice a0 n0 c0,.slice b0 n0 c0'] w fun e w' => e=.returned (.bool true) ∧ Still w w'):=Lib.hid fun w hs => sameBlocks_eq w _ _ _ _ (q0.r0.still hs) (q0.r1.still hs) (by have:=q0.le;omega)
     have e00:=q0.e0
     have e01:=q0.e1
     rw [e00] at z1
     have HC:Hid (∀ w,Still wr w → w.cell? ⟨pb,6,none⟩=some (.slice (some ⟨g0,0,none⟩) M cg0) ∧ w.cell? ⟨pb,7,none⟩=some (.slice (some ⟨g0',0,none⟩) M cg0') ∧ w.cell? ⟨g0,j,none⟩=some (.slice a0 n0 c0) ∧ w.cell? ⟨g0',j,none⟩=some (.slice b0 n0 c0')):=Lib.hid fun w hs => by
      obtain ⟨_,_,_,_,_,_,y1,y2⟩:=HV.out _ (Still.trans HST2.out hs)
      rw [e00] at y1
      rw [e01] at y2
      have x0:=HQ0.out.still hs
      exact ⟨y1,y2,x0.z0,x0.z1⟩
     clear hst q0 e00 e01 hav
     have hsC:Still wr wr:=Only.refl _ _ _
     obtain ⟨k0,k1,k2,k3⟩:=HC.out _ hsC
     go_upto_region 9 with fail
     go_cut [74] from 50 to 74 (fun s74 wx => s74=.bool false ∧ Still wr wx)
     case first =>
      go_region_held3 (fun w => w.cell? ⟨pb,6,none⟩=some (.slice (some ⟨g0,0,none⟩) M cg0) ∧ w.cell? ⟨pb,7,none⟩=some (.slice (some ⟨g0',0,none⟩) M cg0') ∧ w.cell? ⟨g0,j,none⟩=some (.slice a0 n0 c0) ∧ w.cell? ⟨g0',j,none⟩=some (.slice b0 n0 c0'))
       ((refine HC.out _ ?_;(repeat first | with_reducible exact hsC | with_reducible exact Only.refl _ _ _ | with_reducible apply Only.drew | with_reducible apply Only.drewN | with_reducible apply Only.alloc)))
       (first
         | (go_at_call 72;refine (HSB.out _ (by (repeat first | with_reducible exact hsC | with_reducible exact Only.refl _ _ _ | with_reducible apply Only.drew | with_reducible apply Only.drewN | with_reducible apply Only.alloc))).mono ?_;rintro e wp ⟨rfl,hcall⟩;have hsC:Still wr wp:=Still.trans (by (repeat first | with_reducible exact hsC | with_reducible exact Only.refl _ _ _ | with_reducible apply Only.drew | with_reducible apply Only.drewN | with_reducible apply Only.alloc)) hcall))
      all_goals
       go_wp2_with fail
       go_meet
       exact ⟨rfl,(by (repeat first | with_reducible exact hsC | with_reducible exact Only.refl _ _ _ | with_reducible apply Only.drew | with_reducible apply Only.drewN | with_reducible apply Only.alloc))⟩
     case rest =>
      obtain ⟨rfl,hsc⟩:=hcut
      have HSC:=Lib.hid hsc
      clear hsc hsC HSB HC HQ0
      go_wp2_with fail
      exact ⟨⟨j + 1,by go_num,hjm,Still.trans HST2.out HSC.out⟩,by simp [intOf];omega⟩
    ·obtain rfl:M=j:=by omega
     rw [hav] at z1
     have HA0:Hid (ApS pb h0 h1 W own ls (q3 0 0 0) C wr own v ls):=Lib.hid ⟨HK.out.hd.still hst,(HK.out.fc.still hst).drop (fun k => Nat.zero_le _),(KFrm.refl W own none).still hst,fun _ _ => rfl⟩
     clear hav hst HV HPL HF0 HF1 HF2 HST HST2 HS
     go_wp2_with fail
     go_loopw [5] (fun y w => ∃ i:Nat,y=.int .i64 (i:Int) ∧ i ≤ N ∧ ∃ own' v' ls',ApS pb h0 h1 W own ls (q3 i i 0) (C + 16 * i) w own' v' ls') (fun y _ => N + 1 - (intOf y).toNat)
     case atStart => exact ⟨0,rfl,Nat.zero_le _,_,_,_,HA0.out⟩
     case round =>
      obtain ⟨i,rfl,hi,own1,v1,ls1,ha⟩:=hrel
      have hi0:(0:Int) ≤ (i:Int):=by omega
      have hpl:=ha.hd.lt
      have z1:wr.cell? ⟨pb,2,none⟩=some (v1 0):=ha.hd.cell 0 (by decide)
      have l0:(ls1 0).length=N:=by rw [ha.eq 0 (by decide)];exact HL.out.1
      have l2:(ls1 2).length=N:=by rw [ha.eq 2 (by decide)];exact HL.out.2.2
      by_cases hin:i < N
      ·have hiI:(i:Int) < (N:Int):=by omega
       obtain ⟨n0,xs,a0,c0,g0,cg0,x1,x2,x3,x4,x5,x6,x7⟩:=mark_facts ha.hd ha.fc (k:=0) (by decide) (i:=i) (Nat.le_refl _) (by rw [show (ls1 (2 * 0)).length=N from l0];exact hin) (qf':=q3 (i + 1) i 0) (Nat.lt_succ_self i)
       have x4:v1 0=.slice (some ⟨g0,0,none⟩) N cg0:=by rw [← l0];exact x4
       rw [x4] at z1
       have HMW:=Lib.hid (fun Q hQ => markWords_any wr pb h0 h1 own1 v1 ls1 (q3 (i + 1) i 0) (C + 16 * i) ha.hd (ha.fc.drop (fun k => by rcases k with _ | _ | k <;> simp [q3])) _ n0 xs x1 x2 x3 (by omega) Q hQ)
       have HA:=Lib.hid ha
       have HL1:Hid ((ls1 2).length=N):=Lib.hid l2
       have HX7:=Lib.hid x7
       clear ha x1 x2 x3 x4 x7 l0 l2
       go_wp2_with fail
       refine HMW.out _ (fun W2 own2 v2 ls2 p1 p2 p3 p4 => ?_)
       have p3:=p3.cut HX7.out
       have hpl2:=p1.lt
       have z2:W2.cell? ⟨pb,4,none⟩=some (v2 2):=p1.cell 2 (by decide)
       have l2:(ls2 2).length=N:=by rw [p4 2 (by decide)];exact HL1.out
       obtain ⟨n1,xs1,a1,c1,g1,cg1,y1,y2,y3,y4,y5,y6,y7⟩:=mark_facts p1 p2 (k:=1) (by decide) (i:=i) (Nat.le_refl _) (by rw [show (ls2 (2 * 1)).length=N from l2];exact hin) (qf':=q3 (i + 1) (i + 1) 0) (Nat.lt_succ_self i)
       have y4:v2 2=.slice (some ⟨g1,0,none⟩) N cg1:=by rw [← l2];exact y4
       rw [y4] at z2
       have HMP:=Lib.hid (fun Q hQ => markPages_any W2 pb h0 h1 own2 v2 ls2 (q3 (i + 1) (i + 1) 0) (C + 16 * i + 8) p1 (p2.drop (fun k => by rcases k with _ | _ | k <;> simp [q3])) _ n1 xs1 y1 y2 y3 (by omega) Q hQ)
       have HP2:Hid (KFrm W own none W2 own2 ∧ ∀ j,j < 6 → ls2 j=ls j):=Lib.hid ⟨HA.out.fr.trans p3,fun j hj => (p4 j hj).trans (HA.out.eq j hj)⟩
       have HY7:=Lib.hid y7
       clear p1 p2 p3 p4 y1 y2 y3 y4 y7 l2 HMW z1 x5 x6 hpl
       go_wp2_with fail
       refine HMP.out _ (fun W3 own3 v3 ls3 p1 p2 p3 p4 => ?_)
       have HA3:Hid (ApS pb h0 h1 W own ls (q3 (i + 1) (i + 1) 0) (C + 16 * (i + 1)) W3 own3 v3 ls3):=Lib.hid ⟨p1,p2.mono (by omega),HP2.out.1.trans (p3.cut HY7.out),fun j hj => (p4 j hj).trans (HP2.out.2 j hj)⟩
       clear p1 p2 p3 p4 HMP z2 y5 y6 hpl2
       go_wp2_with fail
       exact ⟨⟨i + 1,by go_num,hin,_,_,_,HA3.out⟩,by simp [intOf];omega⟩
      ·obtain rfl:N=i:=by omega
       obtain ⟨av,cv,hav⟩:=own_form (ha.hd.rows 0 (by decide))
       rw [l0] at hav
       rw [hav] at z1
       have HA:=Lib.hid ha
       clear ha hav l0 l2 HA0
       go_wp2_with fail
       go_loopw [6] (fun y w => ∃ j:Nat,y=.int .i64 (j:Int) ∧ j ≤ M ∧ ∃ own' v' ls',ApS pb h0 h1 W own ls (q3 N N j) (C + 16 * N + 8 * j) w own' v' ls') (fun y _ => M + 1 - (intOf y).toNat)
       case atStart => exact ⟨0,rfl,Nat.zero_le _,_,_,_,HA.out⟩
       case round =>
        obtain ⟨j,rfl,hj,own2,v2,ls2,ha⟩:=hrel
        have hj0:(0:Int) ≤ (j:Int):=by omega
        have hpl:=ha.hd.lt
        have z1:wr.cell? ⟨pb,6,none⟩=some (v2 4):=ha.hd.cell 4 (by decide)
        have l4:(ls2 4).length=M:=by rw [ha.eq 4 (by decide)];exact HL.out.2.1
        by_cases hjm:j < M
        ·have hjI:(j:Int) < (M:Int):=by omega
         obtain ⟨n0,xs,a0,c0,g0,cg0,x1,x2,x3,x4,x5,x6,x7⟩:=mark_facts ha.hd ha.fc (k:=2) (by decide) (i:=j) (Nat.le_refl _) (by rw [show (ls2 (2 * 2)).length=M from l4];exact hjm) (qf':=q3 N N (j + 1)) (Nat.lt_succ_self j)
         have x4:v2 4=.slice (some ⟨g0,0,none⟩) M cg0:=by rw [← l4];exact x4
         rw [x4] at z1
         have HMB:=Lib.hid (fun Q hQ => markBlocks_any wr pb h0 h1 own2 v2 ls2 (q3 N N (j + 1)) (C + 16 * N + 8 * j) ha.hd (ha.fc.drop (fun k => by rcases k with _ | _ | k <;> simp [q3])) _ n0 xs x1 x2 x3 (by omega) Q hQ)
         have HA2:=Lib.hid ha
         have HX7:=Lib.hid x7
         clear ha x1 x2 x3 x4 x7 l4
         go_wp2_with fail
         refine HMB.out _ (fun W3 own3 v3 ls3 p1 p2 p3 p4 => ?_)
         have HA3:Hid (ApS pb h0 h1 W own ls (q3 N N (j + 1)) (C + 16 * N + 8 * (j + 1)) W3 own3 v3 ls3):=Lib.hid ⟨p1,p2.mono (by omega),HA2.out.fr.trans (p3.cut HX7.out),fun j hj => (p4 j hj).trans (HA2.out.eq j hj)⟩
         clear p1 p2 p3 p4 HMB z1 x5 x6 hpl
         go_wp2_with fail
         exact ⟨⟨j + 1,by go_num,hjm,_,_,_,HA3.out⟩,by simp [intOf];omega⟩
        ·obtain rfl:M=j:=by omega
         obtain ⟨av,cv,hav⟩:=own_form (ha.hd.rows 4 (by decide))
         rw [l4] at hav
         rw [hav] at z1
         have HHD:=Lib.hid (khold_any wr pb h0 h1 own2 _ v2 ls2 _ ha.hd ha.fc (by omega))
         have HA2:=Lib.hid ha
         clear ha hav l4 HA
         go_wp2_with fail
         refine HHD.out.mono ?_
         rintro e w9 ⟨rfl,hs9⟩
         have HS9:=Lib.hid hs9
         clear hs9 HHD
         go_wp2_with fail
         have h:=HA2.out
         refine HQ.out w9 own2 _ ⟨v2,ls2,h.hd.still HS9.out,(h.fc.still HS9.out).mono (by omega),?_,?_⟩ ?_
         ·rw [h.eq 0 (by decide),h.eq 4 (by decide)];exact HK.out.mny
         ·rw [h.eq 0 (by decide),h.eq 2 (by decide)];exact HK.out.pgs
         ·exact (h.fr.kfb (fun _ e => by cases e) (Nat.le_refl _)).still HS9.out
end Go.Proofs.YtfbcdmhmpfijjaaGreatDoor
