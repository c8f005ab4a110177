/-
  The walk of space.cut.
-/
import Derived.Test.YtfbcdmhmpfijjaaGreatDoorQ07
set_option linter.unusedVariables false
set_option linter.unusedSimpArgs false
set_option linter.unusedSectionVars false
namespace Go.Proofs.YtfbcdmhmpfijjaaGreatDoor
open Go Go.RowKit
def St.chk (s:St) (a:Int):Int × Int:=if s.has a then (if s.W a.toNat=s.hd a then (0,0) else (21,a)) else (22,0)
def St.wrd (s:St) (a i:Int):Int × Int:=if (s.chk a).1=0 then (if i < 1 ∨ (s.sh a).z ≤ i then (23,0) else (0,0)) else s.chk a
def St.Fine (s:St):Prop:=∀ a:Int,s.has a=true → s.FineAt a
theorem check_any (w:World) (L:Lay) (s:St) (h:SpaceAt w L s) (a:Int) (hf:s.Fine) :
 Calls Tryz.prog 58 #[.pointer (some ⟨L.sb,0,none⟩),.int .i64 a] w fun e w' => e=.returned (faultV (s.chk a).1 (s.chk a).2) ∧ Still w w':=by
 cases hb:s.has a with
 | false =>
  refine (check_no w L s h a hb).mono ?_
  rintro e w' ⟨rfl,hs⟩
  have:s.chk a=(22,0):=by unfold St.chk;rw [if_neg (by simp [hb])]
  rw [this]
  exact ⟨rfl,hs⟩
 | true =>
  have hfa:=hf a hb
  obtain ⟨n,rfl⟩:=Int.eq_ofNat_of_zero_le hfa.1
  refine check_yes w L s h n hb hfa _ ?_
  have:s.chk n=if s.W n=s.hd n then (0,0) else (21,(n:Int)):=by unfold St.chk;rw [if_pos hb];rfl
  rw [this]
  split <;> rfl
theorem Only.andStill {lo hi:Nat} {a b c:World} (h:Only lo hi a b) (k:Still b c):Only lo hi a c:=h.trans' k (.inr h.size) (.inr h.size)
theorem Still.trans {a b c:World} (h:Still a b) (k:Still b c):Still a c:=Only.andStill h k
theorem still_new {w w1:World} {o:Obj} (hs:Still (w.alloc o) w1):w1.heap[w.heap.size]?=some o:=by
 rw [hs.block _ (by simp) (.inl (by simp))]
 exact heap_alloc_new w o
theorem new_lt {w w1:World} {o:Obj} (hs:Still (w.alloc o) w1):w.heap.size < w1.heap.size:=by
 have:=hs.size;simp at this;omega
theorem cell_of {w:World} {b:Nat} {cs:Array Value} {T:TypeId} (h:w.heap[b]?=some (.cells cs T (0,0))) (j:Nat) {v:Value} (hv:cs[j]?=some v):w.cell? ⟨b,j,none⟩=some v:=by
 simp [World.cell?,h,hv]
theorem frozen_of {w:World} {b:Nat} {cs:Array Value} {T:TypeId} (h:w.heap[b]?=some (.cells cs T (0,0))) (j:Nat):w.frozen? ⟨b,j,none⟩=false:=by
 simp [World.frozen?,h]
theorem field_size (k z q t:Int) (w:World):(Instr.field 92 (.agg #[.int .i64 k,.int .i64 z,.int .i64 q,.int .i64 t]) 1).run Tryz.prog w=.ok (.int .i64 z) w:=by
 kernel_rfl
set_option maxHeartbeats 3200000 in
theorem word_any (w:World) (L:Lay) (s:St) (h:SpaceAt w L s) (a i:Int) (hwf:(Lit.int .i64 a).wf=true) (hf:s.Fine) :
 Calls Tryz.prog 104 #[.pointer (some ⟨L.sb,0,none⟩),.int .i64 a,.int .i64 i] w fun e w' => e=.returned (faultV (s.wrd a i).1 (s.wrd a i).2) ∧ Still w w':=by
 have HS:=Lib.hid h
 have hlt:=h.sblt
 have HC:=Lib.hid (fun o => check_any (w.alloc o) L s (h.alloc o) a hf)
 have HWF:=Lib.hid hwf
 clear h hwf hf
 obtain ⟨⟨c1,c2⟩,hc⟩:∃ c,s.chk a=c:=⟨_,rfl⟩
 obtain ⟨⟨k,z,q,t⟩,hx⟩:∃ x,s.sh a=x:=⟨_,rfl⟩
 obtain ⟨⟨r1,r2⟩,hr⟩:∃ r,s.wrd a i=r:=⟨_,rfl⟩
 have HX:=Lib.hid hx
 have HR:Hid ((r1,r2)=if c1=0 then (if i < 1 ∨ z ≤ i then ((23,0):Int × Int) else (0,0)) else (c1,c2)):=Lib.hid (by rw [← hr];unfold St.wrd;rw [hc,hx])
 have HC0:Hid (c1=0 → c2=0):=Lib.hid (by
  intro h0
  unfold St.chk at hc
  split at hc
  ·split at hc
   ·injection hc with _ h2;exact h2.symm
   ·injection hc with h1 h2;omega
  ·injection hc with h1 h2;omega)
 rw [hr]
 rw [hc] at HC
 clear hx hr hc
 dsimp only at HC ⊢
 by_cases h0:c1=0
 ·obtain rfl:=HC0.out h0
  subst h0
  have hr:=HR.out
  rw [if_pos rfl] at hr
  clear HC0 HR
  by_cases h1:i < 1
  ·rw [if_pos (.inl h1)] at hr
   injection hr with hr1 hr2
   subst hr1;subst hr2
   have hd1:decide (i < 1)=true:=decide_eq_true h1
   clear h1
   go_enter Tryz.func104,Tryz.ntmps104
   go_wp2_with fail
   refine (HC.out _).mono ?_
   rintro e w1 ⟨rfl,hs⟩
   have hb:=still_new hs
   have hlt1:=new_lt hs
   have hz0:=cell_of (v:=.int .i64 0) hb 0 rfl
   have hz1:=cell_of (v:=.int .i64 0) hb 1 rfl
   have hf0:=frozen_of hb 0
   have hf1:=frozen_of hb 1
   have HW:=Lib.hid (Still.trans ((Only.refl _ _ w).alloc _:Still w _) hs)
   clear hb hs
   go_wp2
   exact bodyPost_ret (v:=faultV 23 0) (by simp [results,Tryz.results104,go_sem, *]) rfl ⟨rfl,(((HW.out.setCell (p:=⟨w.heap.size,0,none⟩) (.inr (Nat.le_refl _)) _).setCell (p:=⟨w.heap.size,1,none⟩) (.inr (Nat.le_refl _)) _).alloc _)⟩
  ·have hd1:decide (i < 1)=false:=decide_eq_false h1
   by_cases h2:z ≤ i
   ·rw [if_pos (.inr h2)] at hr
    injection hr with hr1 hr2
    subst hr1;subst hr2
    have hd2:decide (z ≤ i)=true:=decide_eq_true h2
    clear h1 h2
    go_enter Tryz.func104,Tryz.ntmps104
    go_wp2_with fail
    refine (HC.out _).mono ?_
    rintro e w1 ⟨rfl,hs⟩
    have hb:=still_new hs
    have hlt1:=new_lt hs
    have hz0:=cell_of (v:=.int .i64 0) hb 0 rfl
    have hz1:=cell_of (v:=.int .i64 0) hb 1 rfl
    have hf0:=frozen_of hb 0
    have hf1:=frozen_of hb 1
    have hs2:=(HS.out.alloc _).still hs
    have hc11:=hs2.c11
    have hsb:=hs2.sblt
    have hl:=(hs2.alloc (.cells #[.int .i64 0,.int .i64 0] 50)).lookSh a HWF.out
    rw [HX.out] at hl
    dsimp only at hl
    have HW:=Lib.hid (Still.trans ((Only.refl _ _ w).alloc _:Still w _) hs)
    clear hb hs hs2
    have hfs:=field_size k z q t
    go_wp2
    exact bodyPost_ret (v:=faultV 23 0) (by simp [results,Tryz.results104,go_sem, *]) rfl ⟨rfl,(((HW.out.setCell (p:=⟨w.heap.size,0,none⟩) (.inr (Nat.le_refl _)) _).setCell (p:=⟨w.heap.size,1,none⟩) (.inr (Nat.le_refl _)) _).alloc _)⟩
   ·rw [if_neg (by omega)] at hr
    injection hr with hr1 hr2
    subst hr1;subst hr2
    have hd2:decide (z ≤ i)=false:=decide_eq_false h2
    clear h1 h2
    go_enter Tryz.func104,Tryz.ntmps104
    go_wp2_with fail
    refine (HC.out _).mono ?_
    rintro e w1 ⟨rfl,hs⟩
    have hb:=still_new hs
    have hlt1:=new_lt hs
    have hz0:=cell_of (v:=.int .i64 0) hb 0 rfl
    have hz1:=cell_of (v:=.int .i64 0) hb 1 rfl
    have hf0:=frozen_of hb 0
    have hf1:=frozen_of hb 1
    have hs2:=(HS.out.alloc _).still hs
    have hc11:=hs2.c11
    have hsb:=hs2.sblt
    have hl:=(hs2.alloc (.cells #[.int .i64 0,.int .i64 0] 50)).lookSh a HWF.out
    rw [HX.out] at hl
    dsimp only at hl
    have HW:=Lib.hid (Still.trans ((Only.refl _ _ w).alloc _:Still w _) hs)
    clear hb hs hs2
    have hfs:=field_size k z q t
    go_wp2
    exact bodyPost_ret (v:=faultV 0 0) (by simp [results,Tryz.results104,go_sem, *]) rfl ⟨rfl,(((HW.out.setCell (p:=⟨w.heap.size,0,none⟩) (.inr (Nat.le_refl _)) _).setCell (p:=⟨w.heap.size,1,none⟩) (.inr (Nat.le_refl _)) _).alloc _)⟩
 ·have hr:=HR.out
  rw [if_neg h0] at hr
  injection hr with hr1 hr2
  subst hr1;subst hr2
  have hb0:(r1 == 0)=false:=beq_eq_false_iff_ne.2 h0
  clear HC0 HR h0
  go_enter Tryz.func104,Tryz.ntmps104
  go_wp2_with fail
  refine (HC.out _).mono ?_
  rintro e w1 ⟨rfl,hs⟩
  have hb:=still_new hs
  have hlt1:=new_lt hs
  have hz0:=cell_of (v:=.int .i64 0) hb 0 rfl
  have hz1:=cell_of (v:=.int .i64 0) hb 1 rfl
  have hf0:=frozen_of hb 0
  have hf1:=frozen_of hb 1
  have HW:=Lib.hid (Still.trans ((Only.refl _ _ w).alloc _:Still w _) hs)
  clear hb hs
  go_wp2
  exact bodyPost_ret (v:=faultV r1 r2) (by simp [results,Tryz.results104,go_sem, *]) rfl ⟨rfl,(((HW.out.setCell (p:=⟨w.heap.size,0,none⟩) (.inr (Nat.le_refl _)) _).setCell (p:=⟨w.heap.size,1,none⟩) (.inr (Nat.le_refl _)) _).alloc _)⟩
end Go.Proofs.YtfbcdmhmpfijjaaGreatDoor
namespace Go.Proofs.YtfbcdmhmpfijjaaGreatDoor
open Go Go.RowKit
theorem SpaceAt.setNew {w:World} {L:Lay} {s:St} (h:SpaceAt w L s) {b:Nat} (hb:L.hi ≤ b) (o:Nat) (u:Value):SpaceAt (w.setCell ⟨b,o,none⟩ u) L s :=
 h.kept (only_cell w b o u) (.inl hb) (by have:=h.ok.inn 0 (by omega);have:=h.ok.lo0;omega)
set_option maxHeartbeats 3200000 in
theorem read_bad (w:World) (L:Lay) (s:St) (h:SpaceAt w L s) (a i:Int) (hwf:(Lit.int .i64 a).wf=true) (hf:s.Fine) (hb:(s.wrd a i).1 ≠ 0) :
 Calls Tryz.prog 55 #[.pointer (some ⟨L.sb,0,none⟩),.int .i64 a,.int .i64 i] w fun e w' => e=.returned (.tuple #[.int .i64 0,faultV (s.wrd a i).1 (s.wrd a i).2]) ∧ Still w w':=by
 have HC:=Lib.hid (fun o => word_any (w.alloc o) L s (h.alloc o) a i hwf hf)
 have hlt:=h.sblt
 obtain ⟨⟨r1,r2⟩,hr⟩:∃ r,s.wrd a i=r:=⟨_,rfl⟩
 rw [hr] at HC hb ⊢
 dsimp only at HC hb ⊢
 have hb0:(r1 != 0)=true:=by simpa using hb
 clear h hwf hf hr hb
 go_enter Tryz.func55,Tryz.ntmps55
 go_wp2_with fail
 refine (HC.out _).mono ?_
 rintro e w1 ⟨rfl,hs⟩
 have hb:=still_new hs
 have hlt1:=new_lt hs
 have hz0:=cell_of (v:=.int .i64 0) hb 0 rfl
 have hz1:=cell_of (v:=.int .i64 0) hb 1 rfl
 have hf0:=frozen_of hb 0
 have hf1:=frozen_of hb 1
 have HW:=Lib.hid (Still.trans ((Only.refl _ _ w).alloc _:Still w _) hs)
 clear hb hs
 go_wp2
 go_region
 all_goals
  go_wp2
  exact bodyPost_ret (v:=.tuple #[.int .i64 0,faultV r1 r2]) (by simp [results,Tryz.results55,go_sem, *]) rfl ⟨rfl,by
   repeat first | exact HW.out | apply Only.drew | (refine Only.setCell ?_ (.inr (Nat.le_refl _)) _) | apply Only.alloc⟩
set_option maxHeartbeats 3200000 in
theorem read_ok (w:World) (L:Lay) (s:St) (h:SpaceAt w L s) (a i:Nat) (hf:s.Fine) (hb:s.wrd a i=(0,0)) (hin:a + i < 64 * s.n) :
 Calls Tryz.prog 55 #[.pointer (some ⟨L.sb,0,none⟩),.int .i64 (a:Int),.int .i64 (i:Int)] w fun e w' => e=.returned (.tuple #[.int .i64 (s.W (a + i)),faultV 0 0]) ∧ Still w w':=by
 have hn2:=h.n2
 have HC:=Lib.hid (fun o => word_any (w.alloc o) L s (h.alloc o) a i (wf_of (by omega)) hf)
 have HS:=Lib.hid h
 have hlt:=h.sblt
 have hwlt:=h.words.lt
 rw [hb] at HC
 dsimp only at HC
 have hs0:(0:Int) ≤ (a:Int) + (i:Int):=by omega
 have hs1:(a:Int) + (i:Int) < ((64 * s.n:Nat):Int):=by omega
 have hs2:(a:Int) + (i:Int) ≤ 9223372036854775807:=by omega
 have hww:IntKind.i64.wrap ((a:Int) + (i:Int))=(a:Int) + (i:Int):=by rw [IntKind.wrap_i64];omega
 have htn:((a:Int) + (i:Int)).toNat=a + i:=by omega
 obtain ⟨N,hN⟩:∃ N,64 * s.n=N:=⟨_,rfl⟩
 have hcell:Hid (∀ w1,SpaceAt w1 L s → w1.cell? ⟨L.sb,0,none⟩=some (.slice (some ⟨L.wb,0,none⟩) N N) ∧ w1.cell? ⟨L.wb,a + i,none⟩=some (.int .i64 (s.W (a + i)))):=Lib.hid fun w1 h1 => ⟨by rw [← hN];exact h1.c0,h1.words.cell _ hin⟩
 rw [hN] at hs1
 generalize s.W (a + i)=x at *
 clear h hf hb hin hN hn2
 go_enter Tryz.func55,Tryz.ntmps55
 go_wp2_with fail
 refine (HC.out _).mono ?_
 rintro e w1 ⟨rfl,hs⟩
 have hb:=still_new hs
 have hlt1:=new_lt hs
 obtain ⟨hc0,hcw⟩:=hcell.out w1 ((HS.out.alloc _).still hs)
 have hl1:L.sb < w1.heap.size:=by omega
 have hl2:L.wb < w1.heap.size:=by omega
 have hz0:=cell_of (v:=.int .i64 0) hb 0 rfl
 have hz1:=cell_of (v:=.int .i64 0) hb 1 rfl
 have hf0:=frozen_of hb 0
 have hf1:=frozen_of hb 1
 have HW:=Lib.hid (Still.trans ((Only.refl _ _ w).alloc _:Still w _) hs)
 clear hb hs
 go_wp2
 go_region
 all_goals
  go_wp2
  exact bodyPost_ret (v:=.tuple #[.int .i64 x,faultV 0 0]) (by simp [results,Tryz.results55,go_sem, *]) rfl ⟨rfl,by
   repeat first | exact HW.out | apply Only.drew | (refine Only.setCell ?_ (.inr (Nat.le_refl _)) _) | apply Only.alloc⟩
set_option maxHeartbeats 3200000 in
theorem write_bad (w:World) (L:Lay) (s:St) (h:SpaceAt w L s) (a i x:Int) (hwf:(Lit.int .i64 a).wf=true) (hf:s.Fine) (hb:(s.wrd a i).1 ≠ 0) :
 Calls Tryz.prog 92 #[.pointer (some ⟨L.sb,0,none⟩),.int .i64 a,.int .i64 i,.int .i64 x] w fun e w' => e=.returned (faultV (s.wrd a i).1 (s.wrd a i).2) ∧ Still w w':=by
 have HC:=Lib.hid (fun o => word_any (w.alloc o) L s (h.alloc o) a i hwf hf)
 have hlt:=h.sblt
 obtain ⟨⟨r1,r2⟩,hr⟩:∃ r,s.wrd a i=r:=⟨_,rfl⟩
 rw [hr] at HC hb ⊢
 dsimp only at HC hb ⊢
 have hb0:(r1 == 0)=false:=by simpa using hb
 clear h hwf hf hr hb
 go_enter Tryz.func92,Tryz.ntmps92
 go_wp2_with fail
 refine (HC.out _).mono ?_
 rintro e w1 ⟨rfl,hs⟩
 have hb:=still_new hs
 have hlt1:=new_lt hs
 have hz0:=cell_of (v:=.int .i64 0) hb 0 rfl
 have hz1:=cell_of (v:=.int .i64 0) hb 1 rfl
 have hf0:=frozen_of hb 0
 have hf1:=frozen_of hb 1
 have HW:=Lib.hid (Still.trans ((Only.refl _ _ w).alloc _:Still w _) hs)
 clear hb hs
 go_wp2
 exact bodyPost_ret (v:=faultV r1 r2) (by simp [results,Tryz.results92,go_sem, *]) rfl ⟨rfl,by
  repeat first | exact HW.out | apply Only.drew | (refine Only.setCell ?_ (.inr (Nat.le_refl _)) _) | apply Only.alloc⟩
set_option maxHeartbeats 3200000 in
theorem write_ok (w:World) (L:Lay) (s:St) (h:SpaceAt w L s) (a i:Nat) (x:Int) (hf:s.Fine) (hb:s.wrd a i=(0,0)) (hin:a + i < 64 * s.n) (Q:Ending → World → Prop)
 (hQ:∀ w',SpaceAt w' L { s with W:=setW s.W (a + i) x } → Only L.lo L.hi w w' → Q (.returned (faultV 0 0)) w') :
 Calls Tryz.prog 92 #[.pointer (some ⟨L.sb,0,none⟩),.int .i64 (a:Int),.int .i64 (i:Int),.int .i64 x] w Q:=by
 have hn2:=h.n2
 have HC:=Lib.hid (fun o => word_any (w.alloc o) L s (h.alloc o) a i (wf_of (by omega)) hf)
 have HS:=Lib.hid h
 have HQ:=Lib.hid hQ
 have hlt:=h.sblt
 have hwlt:=h.words.lt
 rw [hb] at HC
 dsimp only at HC
 have hs0:(0:Int) ≤ (a:Int) + (i:Int):=by omega
 have hs1:(a:Int) + (i:Int) < ((64 * s.n:Nat):Int):=by omega
 have hs2:(a:Int) + (i:Int) ≤ 9223372036854775807:=by omega
 obtain ⟨N,hN⟩:∃ N,64 * s.n=N:=⟨_,rfl⟩
 have hcell:Hid (∀ w1,SpaceAt w1 L s → w1.cell? ⟨L.sb,0,none⟩=some (.slice (some ⟨L.wb,0,none⟩) N N) ∧ w1.cell? ⟨L.wb,a + i,none⟩=some (.int .i64 (s.W (a + i))) ∧ w1.frozen? ⟨L.wb,a + i,none⟩=false):=Lib.hid fun w1 h1 => ⟨by rw [← hN];exact h1.c0,h1.words.cell _ hin,h1.words.frozen _⟩
 rw [hN] at hs1
 obtain ⟨y,hy⟩:∃ y,s.W (a + i)=y:=⟨_,rfl⟩
 rw [hy] at hcell
 clear h hf hb hin hN hn2 hy hQ
 go_enter Tryz.func92,Tryz.ntmps92
 go_wp2_with fail
 refine (HC.out _).mono ?_
 rintro e w1 ⟨rfl,hs⟩
 have hb:=still_new hs
 have hlt1:=new_lt hs
 have HS1:=Lib.hid ((HS.out.alloc _).still hs)
 obtain ⟨hc0,hcw,hfw⟩:=hcell.out w1 HS1.out
 have hl1:L.sb < w1.heap.size:=by omega
 have hl2:L.wb < w1.heap.size:=by omega
 have hz0:=cell_of (v:=.int .i64 0) hb 0 rfl
 have hz1:=cell_of (v:=.int .i64 0) hb 1 rfl
 have hf0:=frozen_of hb 0
 have hf1:=frozen_of hb 1
 have HW:=Lib.hid (Still.trans ((Only.refl _ _ w).alloc _:Still w _) hs)
 clear hb hs
 go_wp2
 have htop:L.hi ≤ w.heap.size:=HS.out.top
 refine bodyPost_ret (v:=faultV 0 0) (by simp [results,Tryz.results92,go_sem, *]) rfl (HQ.out _ ((((HS1.out.setWord (a + i) x).setNew htop 0 _).setNew htop 1 _).alloc _) ?_)
 refine ((((?_:Only L.lo L.hi w _).setCell (p:=⟨w.heap.size,0,none⟩) (.inr (Nat.le_refl _)) _).setCell (p:=⟨w.heap.size,1,none⟩) (.inr (Nat.le_refl _)) _).alloc _)
 exact (HW.out.any L.lo L.hi).trans (HS.out.only 1 (by omega) (only_cell w1 L.wb (a + i) (.int .i64 x)))
end Go.Proofs.YtfbcdmhmpfijjaaGreatDoor
namespace Go.Proofs.YtfbcdmhmpfijjaaGreatDoor
open Go Go.RowKit
def Sp.bk (c:Nat):Nat:=64 / Sp.cw c
theorem Sp.cw_8 (c:Nat) (hc:c < 8):Sp.cw c=2 ∧ Sp.bk c=32 ∨ Sp.cw c=4 ∧ Sp.bk c=16 ∨ Sp.cw c=6 ∧ Sp.bk c=10 ∨ Sp.cw c=8 ∧ Sp.bk c=8 ∨ Sp.cw c=12 ∧ Sp.bk c=5 ∨ Sp.cw c=16 ∧ Sp.bk c=4 ∨ Sp.cw c=20 ∧ Sp.bk c=3 ∨ Sp.cw c=32 ∧ Sp.bk c=2:=by
 have hc':c=0 ∨ c=1 ∨ c=2 ∨ c=3 ∨ c=4 ∨ c=5 ∨ c=6 ∨ c=7:=by omega
 rcases hc' with rfl | rfl | rfl | rfl | rfl | rfl | rfl | rfl <;> decide
theorem Sp.cw_le (c:Nat) (hc:c < 8):2 ≤ Sp.cw c ∧ Sp.cw c ≤ 32 ∧ 1 ≤ Sp.bk c ∧ Sp.bk c ≤ 32:=by
 have:=Sp.cw_8 c hc;omega
theorem Sp.cw_in (c:Nat) (hc:c < 8) (i:Nat) (hi:i < Sp.bk c):i * Sp.cw c + Sp.cw c ≤ 64:=by
 have:=Sp.cw_8 c hc
 rcases this with ⟨h1,h2⟩ | ⟨h1,h2⟩ | ⟨h1,h2⟩ | ⟨h1,h2⟩ | ⟨h1,h2⟩ | ⟨h1,h2⟩ | ⟨h1,h2⟩ | ⟨h1,h2⟩ <;> rw [h1] <;> omega
theorem Sp.bks_nat (c:Nat) (hc:c < 8):Sp.bks (c:Int)=(Sp.bk c:Int):=by
 unfold Sp.bks Sp.bk;rw [if_pos (by omega)];rfl
theorem Sp.cww_nat (c:Nat) (hc:c < 8):Sp.cww (c:Int)=(Sp.cw c:Int):=by
 unfold Sp.cww;rw [if_pos (by omega)];rfl
def setS (S:Nat → Bool) (a:Nat) (b:Bool):Nat → Bool:=fun i => if i=a then b else S i
theorem rangeS_one (S:Nat → Bool) (a:Nat) (b:Bool):rangeS S (a:Int) ((a:Int) + 1) b=setS S a b:=by
 funext i
 unfold rangeS setS
 by_cases h:i=a
 ·rw [if_pos (by omega),if_pos h]
 ·rw [if_neg (by omega),if_neg h]
def St.setB (s:St) (j:Nat) (S:Nat → Bool):St:={ s with B:=fun k => if k=j then S else s.B k }
def St.setWs (s:St) (W:Nat → Int):St:={ s with W:=W }
theorem SpaceAt.set {w:World} {L:Lay} {s:St} (h:SpaceAt w L s) (j:Nat) (hj:j < 9) (a:Nat) (ha:a < 64 * s.n) :
 Calls Tryz.prog 52 #[.pointer (some (L.m j)),.int .i64 (a:Int)] w fun e w' => e=.returned (.int .i64 0) ∧ SpaceAt w' L (s.setB j (setS (s.B j) a true)) ∧ Only L.lo L.hi w w':=by
 refine (set_yes _ _ _ _ _ (a:Int) w (h.maps j hj) (by omega) (by omega)).mono ?_
 rintro e w' ⟨rfl,hm,ho⟩
 rw [rangeS_one] at hm
 exact ⟨rfl,h.updB j hj ho hm,h.only (j + 5) (by omega) ho⟩
theorem SpaceAt.clear {w:World} {L:Lay} {s:St} (h:SpaceAt w L s) (j:Nat) (hj:j < 9) (a:Nat) (ha:a < 64 * s.n) :
 Calls Tryz.prog 99 #[.pointer (some (L.m j)),.int .i64 (a:Int)] w fun e w' => e=.returned (.int .i64 0) ∧ SpaceAt w' L (s.setB j (setS (s.B j) a false)) ∧ Only L.lo L.hi w w':=by
 refine (clear_yes _ _ _ _ _ (a:Int) w (h.maps j hj) (by omega) (by omega)).mono ?_
 rintro e w' ⟨rfl,hm,ho⟩
 rw [rangeS_one] at hm
 exact ⟨rfl,h.updB j hj ho hm,h.only (j + 5) (by omega) ho⟩
def cutB (S:Nat → Bool) (f w:Nat):Nat → (Nat → Bool)
 | 0 => S
 | k + 1 => setS (cutB S f w k) (f + k * w) true
def cutW (W:Nat → Int) (lk:Nat → Int) (f w:Nat):Nat → (Nat → Int)
 | 0 => W
 | k + 1 => setW (cutW W lk f w k) (f + k * w) (lk (f + k * w))
def St.cut1 (s:St) (page c k:Nat):St:=(s.setWs (clrW s.W (page * 64) 64)).setB (c + 1) (cutB (s.B (c + 1)) (page * 64) (Sp.cw c) k)
def St.cut2 (s:St) (page c k:Nat):St:=(s.cut1 page c (Sp.bk c)).setWs (cutW (clrW s.W (page * 64) 64) (fun a => (s.cut1 page c (Sp.bk c)).link c a) (page * 64) (Sp.cw c) k)
def St.cut (s:St) (page c:Nat):St:=s.cut2 page c (Sp.bk c)
theorem St.cut1_zero (s:St) (page c:Nat):s.cut1 page c 0=s.setWs (clrW s.W (page * 64) 64):=by
 unfold St.cut1 St.setB cutB St.setWs
 congr 1
 funext k
 split
 ·next h => subst h;rfl
 ·rfl
theorem St.setB_setB (s:St) (j:Nat) (S T:Nat → Bool):(s.setB j S).setB j T=s.setB j T:=by
 unfold St.setB
 congr 1
 funext k
 dsimp only
 split <;> rfl
theorem St.setB_at (s:St) (j:Nat) (S:Nat → Bool):(s.setB j S).B j=S:=by unfold St.setB;simp
theorem St.cut1_succ (s:St) (page c k:Nat):(s.cut1 page c k).setB (c + 1) (setS ((s.cut1 page c k).B (c + 1)) (page * 64 + k * Sp.cw c) true)=s.cut1 page c (k + 1):=by
 unfold St.cut1
 rw [St.setB_setB,St.setB_at]
 rfl
theorem t_lt {page a x N t:Nat} (h1:page * 64 + 64 ≤ N) (h2:a + x ≤ 64) (h3:2 ≤ x) (h4:page * 64 + a=t):t < N:=by omega
theorem t_sum {page a t:Nat} (h1:page ≤ 4096) (h2:a ≤ 64) (h4:page * 64 + a=t):IntKind.i64.wrap ((page:Int) * 64 + (a:Int))=(t:Int) ∧ wrap64 ((page:Int) * 64 + (a:Int))=(t:Int):=by
 subst h4
 refine ⟨?_,?_⟩
 ·rw [IntKind.wrap_i64];omega
 ·rw [IntWalk.wrap64_in _ (by omega)];omega
theorem t_sum3 {page a t:Nat} (h4:page * 64 + a=t):(page:Int) * 64 + (a:Int)=(t:Int):=by omega
theorem a_le {a x:Nat} (h2:a + x ≤ 64):a ≤ 64:=by omega
set_option maxHeartbeats 3200000 in
theorem cut_any (w:World) (L:Lay) (s:St) (h:SpaceAt w L s) (page c:Nat) (hp:page < s.n) (hc:c < 8) (Q:Ending → World → Prop)
 (hQ:∀ w',SpaceAt w' L (s.cut page c) → Only L.lo L.hi w w' → Q (.returned (.tuple #[])) w') :
 Calls Tryz.prog 98 #[.pointer (some ⟨L.sb,0,none⟩),.int .i64 (page:Int),.int .i64 (c:Int)] w Q:=by
 have HQ:=Lib.hid hQ;clear hQ
 have hn2:=h.n2
 have hc0:=h.c0
 have hcl:=fun cc => h.words.run_clear (page * 64) 64 cc (by omega) (by omega)
 have h1:=h.clrWords (page * 64) 64
 have ho1:Only L.lo L.hi w (w.setCells L.wb (page * 64) (List.replicate 64 z64)):=h.only 1 (by omega) (only_setCells ⟨Nat.le_refl _,Nat.lt_succ_self _⟩ _ _ _ (Only.refl _ _ _))
 generalize hw1:w.setCells L.wb (page * 64) (List.replicate 64 z64)=w1 at *
 have H1:Hid (SpaceAt w1 L (s.cut1 page c 0)):=Lib.hid (by rw [St.cut1_zero];exact h1)
 have HO1:=Lib.hid ho1
 clear h1 ho1 hw1
 have HBL:=Lib.hid (Sp.cw_le c hc)
 have HPN:=Lib.hid (show page * 64 + 64 ≤ 64 * s.n by omega)
 have HPM:=Lib.hid (show page ≤ 4096 by omega)
 have HIN:=Lib.hid (Sp.cw_in c hc)
 have HB:=Lib.hid (fun w => blocks_any (c:Int) w)
 rw [Sp.bks_nat c hc] at HB
 have HST:Hid (∀ (i:Nat) (w:World),i < Sp.bk c → Calls Tryz.prog 130 #[.int .i64 (c:Int),.int .i64 (i:Int)] w fun e w' => e=.returned (.int .i64 ((i * Sp.cw c:Nat):Int)) ∧ Still w w'):=Lib.hid fun i w hi => by
  have:=start_any (c:Int) (i:Int) w (by omega) (by rw [Sp.bks_nat c hc];omega)
  rw [Sp.cww_nat c hc] at this
  exact this
 clear h
 have hN1:(page:Int) * 64 + 64 ≤ ((64 * s.n:Nat):Int):=by omega
 have hp0:(0:Int) ≤ (page:Int):=by omega
 have hpM:(page:Int) ≤ 4096:=by omega
 obtain ⟨N,hN⟩:∃ N,64 * s.n=N:=⟨_,rfl⟩
 have HN:=Lib.hid hN
 have hNM:(N:Int) ≤ 262144:=by omega
 rw [hN] at hc0 hN1
 have hcl0:(0:Int) ≤ (c:Int):=by omega
 have hcl8:(c:Int) < 8:=by omega
 rw [hN] at HPN
 clear hN hn2
 go_enter Tryz.func98,Tryz.ntmps98
 go_wp2_with fail
 refine (HB.out _).mono ?_
 rintro e w2 ⟨rfl,hs⟩
 have H2:=Lib.hid (H1.out.still hs)
 have HO2:=Lib.hid (HO1.out.andStill hs)
 clear hs H1 HO1 hcl hc0
 generalize hbkc:Sp.bk c=b at *
 have HBK:=Lib.hid hbkc;clear hbkc
 have hb32:b ≤ 32:=HBL.out.2.2.2
 go_wp2_with fail
 go_loopw [22] (fun y wr => ∃ i:Nat,y=.int .i64 (i:Int) ∧ i ≤ b ∧ SpaceAt wr L (s.cut1 page c i) ∧ Only L.lo L.hi w wr) (fun y _ => 100 - (intOf y).toNat)
 case atStart => exact ⟨0,rfl,Nat.zero_le _,H2.out,HO2.out⟩
 case round =>
  obtain ⟨i,rfl,hi,hsp,ho⟩:=hrel
  have HSP:=Lib.hid hsp;have HO:=Lib.hid ho
  clear hsp ho H2 HO2
  have hi0:(0:Int) ≤ (i:Int):=by omega
  by_cases hlt:i < b
  ·have hil:(i:Int) < (b:Int):=by omega
   have hin:=HIN.out i hlt
   obtain ⟨a,ha⟩:∃ a,i * Sp.cw c=a:=⟨_,rfl⟩
   obtain ⟨t,ht⟩:∃ t,page * 64 + a=t:=⟨_,rfl⟩
   have HSTi:Hid (∀ w,Calls Tryz.prog 130 #[.int .i64 (c:Int),.int .i64 (i:Int)] w fun e w' => e=.returned (.int .i64 (a:Int)) ∧ Still w w'):=Lib.hid fun w => by
    have:=HST.out i w hlt;rwa [ha] at this
   have HSU:Hid ((s.cut1 page c i).setB (c + 1) (setS ((s.cut1 page c i).B (c + 1)) t true)=s.cut1 page c (i + 1)):=Lib.hid (by rw [← ht,← ha];exact St.cut1_succ s page c i)
   rw [ha] at hin
   have HTN:=Lib.hid (t_lt HPN.out hin HBL.out.1 ht)
   obtain ⟨hsum,hsum2⟩:=t_sum HPM.out (a_le hin) ht
   have HTS:Hid (t < 64 * s.n):=Lib.hid (by rw [HN.out];exact HTN.out)
   clear ha ht hin
   have hc3:=HSP.out.c3 c hc
   go_wp2_with fail
   go_region_held3 (fun w' => w'.cell? ⟨L.sb,3 + c,none⟩=some (.pointer (some (L.m (c + 1))))) (first | exact hc3 | exact hd3 | exact he3)
    (first
      | (go_at_call 130;refine (HSTi.out _).mono ?_;rintro e w3 ⟨rfl,hs3⟩;have H3:=Lib.hid ((HSP.out.drewN 1).still hs3);have HO3:=Lib.hid ((HO.out.drewN 1).andStill hs3);clear hs3;have hd3:=H3.out.c3 c hc)
      | (go_at_call 52;refine (H3.out.set (c + 1) (by omega) t HTS.out).mono ?_;rintro e w4 ⟨rfl,h4,ho4⟩;rw [HSU.out] at h4;have H4:=Lib.hid h4;have HO4:=Lib.hid (HO3.out.trans ho4);clear h4 ho4;have he3:=H4.out.c3 c hc))
   go_wp2
   go_roundw
   case rel => exact ⟨i + 1,by go_num,hlt,H4.out,HO4.out⟩
   case measure => simp [intOf];omega
  ·obtain rfl:i=b:=by omega
   have HSP2:Hid (SpaceAt wr L (s.cut2 page c 0)):=HSP.out.words |> fun _ => Lib.hid (by
    have:=HSP.out
    rw [← HBK.out] at this
    exact this)
   go_wp2_with fail
   refine (HB.out _).mono ?_
   rintro e w3 ⟨rfl,hs⟩
   have H2:=Lib.hid (HSP2.out.still hs)
   have HO2:=Lib.hid (HO.out.andStill hs)
   clear hs HSP2 HSP HO
   go_wp2_with fail
   go_loopw [40] (fun y wr => ∃ k:Nat,y=.int .i64 (k:Int) ∧ k ≤ i ∧ SpaceAt wr L (s.cut2 page c k) ∧ Only L.lo L.hi w wr) (fun y _ => 100 - (intOf y).toNat)
   case atStart => exact ⟨0,rfl,Nat.zero_le _,H2.out,HO2.out⟩
   case round =>
    clear H2 HO2
    obtain ⟨k,rfl,hk,hsp,ho⟩:=hrel
    have HSP:=Lib.hid hsp;have HO:=Lib.hid ho
    clear hsp ho
    have hk0:(0:Int) ≤ (k:Int):=by omega
    by_cases hlt2:k < i
    ·have hil:(k:Int) < (i:Int):=by omega
     have hin:=HIN.out k hlt2
     obtain ⟨a,ha⟩:∃ a,k * Sp.cw c=a:=⟨_,rfl⟩
     obtain ⟨t,ht⟩:∃ t,page * 64 + a=t:=⟨_,rfl⟩
     have HSTi:Hid (∀ w,Calls Tryz.prog 130 #[.int .i64 (c:Int),.int .i64 (k:Int)] w fun e w' => e=.returned (.int .i64 (a:Int)) ∧ Still w w'):=Lib.hid fun w => by
      have:=HST.out k w hlt2;rwa [ha] at this
     have HSU:Hid ((s.cut2 page c k).setWs (setW (s.cut2 page c k).W t ((s.cut2 page c k).link c t))=s.cut2 page c (k + 1)):=Lib.hid (by rw [← ht,← ha];rfl)
     rw [ha] at hin
     have HTN:=Lib.hid (t_lt HPN.out hin HBL.out.1 ht)
     have hsum:=t_sum3 ht
     have ha64:(a:Int) ≤ 64:=by have:=a_le hin;omega
     have hts:=HTN.out
     have htN:(t:Int) < (N:Int):=by omega
     have ht0:(0:Int) ≤ (t:Int):=by omega
     have HTM:Hid ((t:Int) ≤ 262144):=Lib.hid (by omega)
     have HTS:Hid (t < 64 * s.n):=Lib.hid (by rw [HN.out];exact HTN.out)
     clear ha ht hin hts
     go_wp2_with fail
     refine (HSTi.out _).mono ?_
     rintro e w4 ⟨rfl,hs4⟩
     have H4:=Lib.hid (HSP.out.still hs4)
     have HO4:=Lib.hid (HO.out.andStill hs4)
     clear hs4 HSP HO
     have hc0:w4.cell? ⟨L.sb,0,none⟩=some (.slice (some ⟨L.wb,0,none⟩) N N):=by rw [← HN.out];exact H4.out.c0
     have hcw:=H4.out.words.cell t HTS.out
     have hfw:=H4.out.words.frozen t
     have hne:L.sb ≠ L.wb:=by have:=H4.out.ok.out 0 1 (by omega) (by omega) (by omega);simp only [Lay.a,Lay.b] at this;omega
     have hlk:Hid (∀ m,Calls Tryz.prog 80 #[.pointer (some ⟨L.sb,0,none⟩),.int .i64 (c:Int),.int .i64 (t:Int)] (w4.drewN m) fun e w' => e=.returned (.int .i64 ((s.cut2 page c k).link c t)) ∧ ∃ m',w'=(w4.drewN m).drewN m'):=Lib.hid fun m => slink_any _ L _ (H4.out.drewN m) c hc t (by omega) HTM.out
     obtain ⟨x,hx⟩:∃ x,(s.cut2 page c k).link c t=x:=⟨_,rfl⟩
     rw [hx] at hlk HSU
     obtain ⟨y,hy⟩:∃ y,(s.cut2 page c k).W t=y:=⟨_,rfl⟩
     rw [hy] at hcw
     clear hx hy
     go_wp2_with fail
     go_region_held3 (fun w' => w'.cell? ⟨L.sb,0,none⟩=some (.slice (some ⟨L.wb,0,none⟩) N N) ∧ (∃ y,w'.cell? ⟨L.wb,t,none⟩=some (.int .i64 y)) ∧ w'.frozen? ⟨L.wb,t,none⟩=false) (first | exact ⟨hc0,⟨_,hcw⟩,hfw⟩ | exact ⟨hd0,hdw,hdf⟩ | exact ⟨set_cell hc0 hne,⟨_,World.cell?_setCell_same _ _ _ hcw⟩,(World.frozen?_setCell _ _ _ _).trans hfw⟩)
      (first
        | (go_at_call 80;refine (hlk.out 1).mono ?_;rintro e w5 ⟨rfl,m',rfl⟩;have hd0:((w4.drewN 1).drewN m').cell? ⟨L.sb,0,none⟩=some (.slice (some ⟨L.wb,0,none⟩) N N):=hc0;have hdw:∃ y,((w4.drewN 1).drewN m').cell? ⟨L.wb,t,none⟩=some (.int .i64 y):=⟨_,hcw⟩;have hdf:((w4.drewN 1).drewN m').frozen? ⟨L.wb,t,none⟩=false:=hfw))
     go_wp2
     go_roundw
     case rel => exact ⟨k + 1,by go_num,hlt2,by
      have:=(H4.out.drewN (1 + m')).setWord t x
      rw [← HSU.out]
      exact this,(HO4.out.drewN (1 + m')).trans (H4.out.only 1 (by omega) (only_cell _ L.wb t _))⟩
     case measure => simp [intOf];omega
    ·obtain rfl:k=i:=by omega
     go_wp2
     go_end0
     refine HQ.out _ ?_ HO.out
     have:=HSP.out
     unfold St.cut
     rw [HBK.out]
     exact this
end Go.Proofs.YtfbcdmhmpfijjaaGreatDoor
