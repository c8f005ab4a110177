/-
  The walk of the document's layout: Fits.
-/
import Derived.Laws.Rows
import Derived.Test.YtfbcdmhmpfijjaaGreatDoorQ35
set_option linter.unusedVariables false
set_option linter.unusedSimpArgs false
set_option linter.unusedSectionVars false
namespace Go.Proofs.YtfbcdmhmpfijjaaGreatDoor
open Go Go.RowKit
theorem fits_1 (z:Int):Sp.fits 1 z=true ↔ (3 ≤ z ∧ z ≤ 3):=by
 unfold Sp.fits Sp.base Sp.most
 simp
 try omega
set_option maxHeartbeats 1600000 in
theorem rfits_1 (z:Int) (w:World):Calls Tryz.prog 129 #[.int .i64 1,.int .i64 z] w fun e w' => e=.returned (.bool (Sp.fits 1 z)) ∧ Still w w':=by
 have HR:=Lib.hid (fun W => rowOf_any 1 (by omega) (by omega) W)
 have HS1:Hid (∀ W,Calls Tryz.prog 145 #[.int .i64 1,.int .i64 0] W fun e w' => e=.returned (.tuple #[.int .i64 3,.bool true]) ∧ Still W w'):=Lib.hid fun W => by
  refine (rsize_flat 1 (by omega) W).mono ?_
  rintro e w' ⟨rfl,hs⟩
  exact ⟨rfl,hs⟩
 have HS2:Hid (∀ W,Calls Tryz.prog 145 #[.int .i64 1,.int .i64 0] W fun e w' => e=.returned (.tuple #[.int .i64 3,.bool true]) ∧ Still W w'):=Lib.hid fun W => by
  refine (rsize_flat 1 (by omega) W).mono ?_
  rintro e w' ⟨rfl,hs⟩
  exact ⟨rfl,hs⟩
 obtain ⟨r,hr⟩:∃ r,Sp.fits 1 z=r:=⟨_,rfl⟩
 have HRR:=Lib.hid hr
 rw [hr]
 clear hr
 go_enter Tryz.func129,Tryz.ntmps129
 go_wp2_with fail
 refine (HR.out _).mono ?_
 rintro e w1 ⟨⟨a,cp,rfl⟩,hs1⟩
 have HST1:=Lib.hid hs1
 clear hs1
 simp only [rowV,Rw]
 go_wp2_with fail
 refine (HS1.out _).mono ?_
 rintro e w2 ⟨rfl,hs2⟩
 have hb:=still_new hs2
 have z3:=cell_of (v:=.int .i64 0) hb 3 rfl
 have zl:=(Array.getElem?_eq_some_iff.1 hb).1
 have HST2:=Lib.hid (Still.trans (HST1.out.alloc _) hs2)
 clear hs2 hb
 go_wp2_with fail
 refine (HS2.out _).mono ?_
 rintro e w3 ⟨rfl,hs3⟩
 have HST3:=Lib.hid (Still.trans HST2.out hs3)
 clear hs3 z3 zl
 by_cases hz1:3 ≤ z
 ·by_cases hz2:z ≤ 3
  ·obtain rfl:r=true:=by rw [← HRR.out];exact (fits_1 z).2 ⟨hz1,hz2⟩
   go_wp2_with fail
   go_ret
   exact ⟨by first | rfl | simp,HST3.out⟩
  ·obtain rfl:r=false:=by
    rw [← HRR.out]
    cases e:Sp.fits 1 z with
    | false => rfl
    | true => exact absurd ((fits_1 z).1 e).2 hz2
   go_wp2_with fail
   go_ret
   exact ⟨by first | rfl | simp [hz2],HST3.out⟩
 ·obtain rfl:r=false:=by
   rw [← HRR.out]
   cases e:Sp.fits 1 z with
   | false => rfl
   | true => exact absurd ((fits_1 z).1 e).1 hz1
  go_wp2_with fail
  go_ret
  exact ⟨by first | rfl | simp [hz1],HST3.out⟩
theorem fits_2 (z:Int):Sp.fits 2 z=true ↔ (2 ≤ z ∧ z ≤ 2):=by
 unfold Sp.fits Sp.base Sp.most
 simp
 try omega
set_option maxHeartbeats 1600000 in
theorem rfits_2 (z:Int) (w:World):Calls Tryz.prog 129 #[.int .i64 2,.int .i64 z] w fun e w' => e=.returned (.bool (Sp.fits 2 z)) ∧ Still w w':=by
 have HR:=Lib.hid (fun W => rowOf_any 2 (by omega) (by omega) W)
 have HS1:Hid (∀ W,Calls Tryz.prog 145 #[.int .i64 2,.int .i64 0] W fun e w' => e=.returned (.tuple #[.int .i64 2,.bool true]) ∧ Still W w'):=Lib.hid fun W => by
  refine (rsize_flat 2 (by omega) W).mono ?_
  rintro e w' ⟨rfl,hs⟩
  exact ⟨rfl,hs⟩
 have HS2:Hid (∀ W,Calls Tryz.prog 145 #[.int .i64 2,.int .i64 0] W fun e w' => e=.returned (.tuple #[.int .i64 2,.bool true]) ∧ Still W w'):=Lib.hid fun W => by
  refine (rsize_flat 2 (by omega) W).mono ?_
  rintro e w' ⟨rfl,hs⟩
  exact ⟨rfl,hs⟩
 obtain ⟨r,hr⟩:∃ r,Sp.fits 2 z=r:=⟨_,rfl⟩
 have HRR:=Lib.hid hr
 rw [hr]
 clear hr
 go_enter Tryz.func129,Tryz.ntmps129
 go_wp2_with fail
 refine (HR.out _).mono ?_
 rintro e w1 ⟨⟨a,cp,rfl⟩,hs1⟩
 have HST1:=Lib.hid hs1
 clear hs1
 simp only [rowV,Rw]
 go_wp2_with fail
 refine (HS1.out _).mono ?_
 rintro e w2 ⟨rfl,hs2⟩
 have hb:=still_new hs2
 have z3:=cell_of (v:=.int .i64 0) hb 3 rfl
 have zl:=(Array.getElem?_eq_some_iff.1 hb).1
 have HST2:=Lib.hid (Still.trans (HST1.out.alloc _) hs2)
 clear hs2 hb
 go_wp2_with fail
 refine (HS2.out _).mono ?_
 rintro e w3 ⟨rfl,hs3⟩
 have HST3:=Lib.hid (Still.trans HST2.out hs3)
 clear hs3 z3 zl
 by_cases hz1:2 ≤ z
 ·by_cases hz2:z ≤ 2
  ·obtain rfl:r=true:=by rw [← HRR.out];exact (fits_2 z).2 ⟨hz1,hz2⟩
   go_wp2_with fail
   go_ret
   exact ⟨by first | rfl | simp,HST3.out⟩
  ·obtain rfl:r=false:=by
    rw [← HRR.out]
    cases e:Sp.fits 2 z with
    | false => rfl
    | true => exact absurd ((fits_2 z).1 e).2 hz2
   go_wp2_with fail
   go_ret
   exact ⟨by first | rfl | simp [hz2],HST3.out⟩
 ·obtain rfl:r=false:=by
   rw [← HRR.out]
   cases e:Sp.fits 2 z with
   | false => rfl
   | true => exact absurd ((fits_2 z).1 e).1 hz1
  go_wp2_with fail
  go_ret
  exact ⟨by first | rfl | simp [hz1],HST3.out⟩
theorem fits_3 (z:Int):Sp.fits 3 z=true ↔ (1 ≤ z ∧ z ≤ 1024):=by
 unfold Sp.fits Sp.base Sp.most
 simp
 try omega
set_option maxHeartbeats 1600000 in
theorem rfits_3 (z:Int) (w:World):Calls Tryz.prog 129 #[.int .i64 3,.int .i64 z] w fun e w' => e=.returned (.bool (Sp.fits 3 z)) ∧ Still w w':=by
 have HR:=Lib.hid (fun W => rowOf_any 3 (by omega) (by omega) W)
 have HS1:Hid (∀ W,Calls Tryz.prog 145 #[.int .i64 3,.int .i64 0] W fun e w' => e=.returned (.tuple #[.int .i64 1,.bool true]) ∧ Still W w'):=Lib.hid fun W => by
  refine (rsize_3 0 (by omega) (by omega) W).mono ?_
  rintro e w' ⟨rfl,hs⟩
  exact ⟨rfl,hs⟩
 have HS2:Hid (∀ W,Calls Tryz.prog 145 #[.int .i64 3,.int .i64 1023] W fun e w' => e=.returned (.tuple #[.int .i64 1024,.bool true]) ∧ Still W w'):=Lib.hid fun W => by
  refine (rsize_3 1023 (by omega) (by omega) W).mono ?_
  rintro e w' ⟨rfl,hs⟩
  exact ⟨rfl,hs⟩
 obtain ⟨r,hr⟩:∃ r,Sp.fits 3 z=r:=⟨_,rfl⟩
 have HRR:=Lib.hid hr
 rw [hr]
 clear hr
 go_enter Tryz.func129,Tryz.ntmps129
 go_wp2_with fail
 refine (HR.out _).mono ?_
 rintro e w1 ⟨⟨a,cp,rfl⟩,hs1⟩
 have HST1:=Lib.hid hs1
 clear hs1
 simp only [rowV,Rw]
 go_wp2_with fail
 refine (HS1.out _).mono ?_
 rintro e w2 ⟨rfl,hs2⟩
 have hb:=still_new hs2
 have z3:=cell_of (v:=.int .i64 1023) hb 3 rfl
 have zl:=(Array.getElem?_eq_some_iff.1 hb).1
 have HST2:=Lib.hid (Still.trans (HST1.out.alloc _) hs2)
 clear hs2 hb
 go_wp2_with fail
 refine (HS2.out _).mono ?_
 rintro e w3 ⟨rfl,hs3⟩
 have HST3:=Lib.hid (Still.trans HST2.out hs3)
 clear hs3 z3 zl
 by_cases hz1:1 ≤ z
 ·by_cases hz2:z ≤ 1024
  ·obtain rfl:r=true:=by rw [← HRR.out];exact (fits_3 z).2 ⟨hz1,hz2⟩
   go_wp2_with fail
   go_ret
   exact ⟨by first | rfl | simp,HST3.out⟩
  ·obtain rfl:r=false:=by
    rw [← HRR.out]
    cases e:Sp.fits 3 z with
    | false => rfl
    | true => exact absurd ((fits_3 z).1 e).2 hz2
   go_wp2_with fail
   go_ret
   exact ⟨by first | rfl | simp [hz2],HST3.out⟩
 ·obtain rfl:r=false:=by
   rw [← HRR.out]
   cases e:Sp.fits 3 z with
   | false => rfl
   | true => exact absurd ((fits_3 z).1 e).1 hz1
  go_wp2_with fail
  go_ret
  exact ⟨by first | rfl | simp [hz1],HST3.out⟩
theorem fits_4 (z:Int):Sp.fits 4 z=true ↔ (2 ≤ z ∧ z ≤ 514):=by
 unfold Sp.fits Sp.base Sp.most
 simp
 try omega
set_option maxHeartbeats 1600000 in
theorem rfits_4 (z:Int) (w:World):Calls Tryz.prog 129 #[.int .i64 4,.int .i64 z] w fun e w' => e=.returned (.bool (Sp.fits 4 z)) ∧ Still w w':=by
 have HR:=Lib.hid (fun W => rowOf_any 4 (by omega) (by omega) W)
 have HS1:Hid (∀ W,Calls Tryz.prog 145 #[.int .i64 4,.int .i64 0] W fun e w' => e=.returned (.tuple #[.int .i64 2,.bool true]) ∧ Still W w'):=Lib.hid fun W => by
  refine (rsize_4 0 (by omega) W).mono ?_
  rintro e w' ⟨rfl,hs⟩
  exact ⟨rfl,hs⟩
 have HS2:Hid (∀ W,Calls Tryz.prog 145 #[.int .i64 4,.int .i64 4096] W fun e w' => e=.returned (.tuple #[.int .i64 514,.bool true]) ∧ Still W w'):=Lib.hid fun W => by
  refine (rsize_4 512 (by omega) W).mono ?_
  rintro e w' ⟨rfl,hs⟩
  exact ⟨rfl,hs⟩
 obtain ⟨r,hr⟩:∃ r,Sp.fits 4 z=r:=⟨_,rfl⟩
 have HRR:=Lib.hid hr
 rw [hr]
 clear hr
 go_enter Tryz.func129,Tryz.ntmps129
 go_wp2_with fail
 refine (HR.out _).mono ?_
 rintro e w1 ⟨⟨a,cp,rfl⟩,hs1⟩
 have HST1:=Lib.hid hs1
 clear hs1
 simp only [rowV,Rw]
 go_wp2_with fail
 refine (HS1.out _).mono ?_
 rintro e w2 ⟨rfl,hs2⟩
 have hb:=still_new hs2
 have z3:=cell_of (v:=.int .i64 4096) hb 3 rfl
 have zl:=(Array.getElem?_eq_some_iff.1 hb).1
 have HST2:=Lib.hid (Still.trans (HST1.out.alloc _) hs2)
 clear hs2 hb
 go_wp2_with fail
 refine (HS2.out _).mono ?_
 rintro e w3 ⟨rfl,hs3⟩
 have HST3:=Lib.hid (Still.trans HST2.out hs3)
 clear hs3 z3 zl
 by_cases hz1:2 ≤ z
 ·by_cases hz2:z ≤ 514
  ·obtain rfl:r=true:=by rw [← HRR.out];exact (fits_4 z).2 ⟨hz1,hz2⟩
   go_wp2_with fail
   go_ret
   exact ⟨by first | rfl | simp,HST3.out⟩
  ·obtain rfl:r=false:=by
    rw [← HRR.out]
    cases e:Sp.fits 4 z with
    | false => rfl
    | true => exact absurd ((fits_4 z).1 e).2 hz2
   go_wp2_with fail
   go_ret
   exact ⟨by first | rfl | simp [hz2],HST3.out⟩
 ·obtain rfl:r=false:=by
   rw [← HRR.out]
   cases e:Sp.fits 4 z with
   | false => rfl
   | true => exact absurd ((fits_4 z).1 e).1 hz1
  go_wp2_with fail
  go_ret
  exact ⟨by first | rfl | simp [hz1],HST3.out⟩
theorem fits_5 (z:Int):Sp.fits 5 z=true ↔ (2 ≤ z ∧ z ≤ 2):=by
 unfold Sp.fits Sp.base Sp.most
 simp
 try omega
set_option maxHeartbeats 1600000 in
theorem rfits_5 (z:Int) (w:World):Calls Tryz.prog 129 #[.int .i64 5,.int .i64 z] w fun e w' => e=.returned (.bool (Sp.fits 5 z)) ∧ Still w w':=by
 have HR:=Lib.hid (fun W => rowOf_any 5 (by omega) (by omega) W)
 have HS1:Hid (∀ W,Calls Tryz.prog 145 #[.int .i64 5,.int .i64 0] W fun e w' => e=.returned (.tuple #[.int .i64 2,.bool true]) ∧ Still W w'):=Lib.hid fun W => by
  refine (rsize_flat 5 (by omega) W).mono ?_
  rintro e w' ⟨rfl,hs⟩
  exact ⟨rfl,hs⟩
 have HS2:Hid (∀ W,Calls Tryz.prog 145 #[.int .i64 5,.int .i64 0] W fun e w' => e=.returned (.tuple #[.int .i64 2,.bool true]) ∧ Still W w'):=Lib.hid fun W => by
  refine (rsize_flat 5 (by omega) W).mono ?_
  rintro e w' ⟨rfl,hs⟩
  exact ⟨rfl,hs⟩
 obtain ⟨r,hr⟩:∃ r,Sp.fits 5 z=r:=⟨_,rfl⟩
 have HRR:=Lib.hid hr
 rw [hr]
 clear hr
 go_enter Tryz.func129,Tryz.ntmps129
 go_wp2_with fail
 refine (HR.out _).mono ?_
 rintro e w1 ⟨⟨a,cp,rfl⟩,hs1⟩
 have HST1:=Lib.hid hs1
 clear hs1
 simp only [rowV,Rw]
 go_wp2_with fail
 refine (HS1.out _).mono ?_
 rintro e w2 ⟨rfl,hs2⟩
 have hb:=still_new hs2
 have z3:=cell_of (v:=.int .i64 0) hb 3 rfl
 have zl:=(Array.getElem?_eq_some_iff.1 hb).1
 have HST2:=Lib.hid (Still.trans (HST1.out.alloc _) hs2)
 clear hs2 hb
 go_wp2_with fail
 refine (HS2.out _).mono ?_
 rintro e w3 ⟨rfl,hs3⟩
 have HST3:=Lib.hid (Still.trans HST2.out hs3)
 clear hs3 z3 zl
 by_cases hz1:2 ≤ z
 ·by_cases hz2:z ≤ 2
  ·obtain rfl:r=true:=by rw [← HRR.out];exact (fits_5 z).2 ⟨hz1,hz2⟩
   go_wp2_with fail
   go_ret
   exact ⟨by first | rfl | simp,HST3.out⟩
  ·obtain rfl:r=false:=by
    rw [← HRR.out]
    cases e:Sp.fits 5 z with
    | false => rfl
    | true => exact absurd ((fits_5 z).1 e).2 hz2
   go_wp2_with fail
   go_ret
   exact ⟨by first | rfl | simp [hz2],HST3.out⟩
 ·obtain rfl:r=false:=by
   rw [← HRR.out]
   cases e:Sp.fits 5 z with
   | false => rfl
   | true => exact absurd ((fits_5 z).1 e).1 hz1
  go_wp2_with fail
  go_ret
  exact ⟨by first | rfl | simp [hz1],HST3.out⟩
theorem fits_6 (z:Int):Sp.fits 6 z=true ↔ (1 ≤ z ∧ z ≤ 65):=by
 unfold Sp.fits Sp.base Sp.most
 simp
 try omega
set_option maxHeartbeats 1600000 in
theorem rfits_6 (z:Int) (w:World):Calls Tryz.prog 129 #[.int .i64 6,.int .i64 z] w fun e w' => e=.returned (.bool (Sp.fits 6 z)) ∧ Still w w':=by
 have HR:=Lib.hid (fun W => rowOf_any 6 (by omega) (by omega) W)
 have HS1:Hid (∀ W,Calls Tryz.prog 145 #[.int .i64 6,.int .i64 0] W fun e w' => e=.returned (.tuple #[.int .i64 1,.bool true]) ∧ Still W w'):=Lib.hid fun W => by
  refine (rsize_6 0 (by omega) (by omega) W).mono ?_
  rintro e w' ⟨rfl,hs⟩
  exact ⟨rfl,hs⟩
 have HS2:Hid (∀ W,Calls Tryz.prog 145 #[.int .i64 6,.int .i64 64] W fun e w' => e=.returned (.tuple #[.int .i64 65,.bool true]) ∧ Still W w'):=Lib.hid fun W => by
  refine (rsize_6 64 (by omega) (by omega) W).mono ?_
  rintro e w' ⟨rfl,hs⟩
  exact ⟨rfl,hs⟩
 obtain ⟨r,hr⟩:∃ r,Sp.fits 6 z=r:=⟨_,rfl⟩
 have HRR:=Lib.hid hr
 rw [hr]
 clear hr
 go_enter Tryz.func129,Tryz.ntmps129
 go_wp2_with fail
 refine (HR.out _).mono ?_
 rintro e w1 ⟨⟨a,cp,rfl⟩,hs1⟩
 have HST1:=Lib.hid hs1
 clear hs1
 simp only [rowV,Rw]
 go_wp2_with fail
 refine (HS1.out _).mono ?_
 rintro e w2 ⟨rfl,hs2⟩
 have hb:=still_new hs2
 have z3:=cell_of (v:=.int .i64 64) hb 3 rfl
 have zl:=(Array.getElem?_eq_some_iff.1 hb).1
 have HST2:=Lib.hid (Still.trans (HST1.out.alloc _) hs2)
 clear hs2 hb
 go_wp2_with fail
 refine (HS2.out _).mono ?_
 rintro e w3 ⟨rfl,hs3⟩
 have HST3:=Lib.hid (Still.trans HST2.out hs3)
 clear hs3 z3 zl
 by_cases hz1:1 ≤ z
 ·by_cases hz2:z ≤ 65
  ·obtain rfl:r=true:=by rw [← HRR.out];exact (fits_6 z).2 ⟨hz1,hz2⟩
   go_wp2_with fail
   go_ret
   exact ⟨by first | rfl | simp,HST3.out⟩
  ·obtain rfl:r=false:=by
    rw [← HRR.out]
    cases e:Sp.fits 6 z with
    | false => rfl
    | true => exact absurd ((fits_6 z).1 e).2 hz2
   go_wp2_with fail
   go_ret
   exact ⟨by first | rfl | simp [hz2],HST3.out⟩
 ·obtain rfl:r=false:=by
   rw [← HRR.out]
   cases e:Sp.fits 6 z with
   | false => rfl
   | true => exact absurd ((fits_6 z).1 e).1 hz1
  go_wp2_with fail
  go_ret
  exact ⟨by first | rfl | simp [hz1],HST3.out⟩
theorem fits_7 (z:Int):Sp.fits 7 z=true ↔ (2 ≤ z ∧ z ≤ 2):=by
 unfold Sp.fits Sp.base Sp.most
 simp
 try omega
set_option maxHeartbeats 1600000 in
theorem rfits_7 (z:Int) (w:World):Calls Tryz.prog 129 #[.int .i64 7,.int .i64 z] w fun e w' => e=.returned (.bool (Sp.fits 7 z)) ∧ Still w w':=by
 have HR:=Lib.hid (fun W => rowOf_any 7 (by omega) (by omega) W)
 have HS1:Hid (∀ W,Calls Tryz.prog 145 #[.int .i64 7,.int .i64 0] W fun e w' => e=.returned (.tuple #[.int .i64 2,.bool true]) ∧ Still W w'):=Lib.hid fun W => by
  refine (rsize_flat 7 (by omega) W).mono ?_
  rintro e w' ⟨rfl,hs⟩
  exact ⟨rfl,hs⟩
 have HS2:Hid (∀ W,Calls Tryz.prog 145 #[.int .i64 7,.int .i64 0] W fun e w' => e=.returned (.tuple #[.int .i64 2,.bool true]) ∧ Still W w'):=Lib.hid fun W => by
  refine (rsize_flat 7 (by omega) W).mono ?_
  rintro e w' ⟨rfl,hs⟩
  exact ⟨rfl,hs⟩
 obtain ⟨r,hr⟩:∃ r,Sp.fits 7 z=r:=⟨_,rfl⟩
 have HRR:=Lib.hid hr
 rw [hr]
 clear hr
 go_enter Tryz.func129,Tryz.ntmps129
 go_wp2_with fail
 refine (HR.out _).mono ?_
 rintro e w1 ⟨⟨a,cp,rfl⟩,hs1⟩
 have HST1:=Lib.hid hs1
 clear hs1
 simp only [rowV,Rw]
 go_wp2_with fail
 refine (HS1.out _).mono ?_
 rintro e w2 ⟨rfl,hs2⟩
 have hb:=still_new hs2
 have z3:=cell_of (v:=.int .i64 0) hb 3 rfl
 have zl:=(Array.getElem?_eq_some_iff.1 hb).1
 have HST2:=Lib.hid (Still.trans (HST1.out.alloc _) hs2)
 clear hs2 hb
 go_wp2_with fail
 refine (HS2.out _).mono ?_
 rintro e w3 ⟨rfl,hs3⟩
 have HST3:=Lib.hid (Still.trans HST2.out hs3)
 clear hs3 z3 zl
 by_cases hz1:2 ≤ z
 ·by_cases hz2:z ≤ 2
  ·obtain rfl:r=true:=by rw [← HRR.out];exact (fits_7 z).2 ⟨hz1,hz2⟩
   go_wp2_with fail
   go_ret
   exact ⟨by first | rfl | simp,HST3.out⟩
  ·obtain rfl:r=false:=by
    rw [← HRR.out]
    cases e:Sp.fits 7 z with
    | false => rfl
    | true => exact absurd ((fits_7 z).1 e).2 hz2
   go_wp2_with fail
   go_ret
   exact ⟨by first | rfl | simp [hz2],HST3.out⟩
 ·obtain rfl:r=false:=by
   rw [← HRR.out]
   cases e:Sp.fits 7 z with
   | false => rfl
   | true => exact absurd ((fits_7 z).1 e).1 hz1
  go_wp2_with fail
  go_ret
  exact ⟨by first | rfl | simp [hz1],HST3.out⟩
theorem fits_8 (z:Int):Sp.fits 8 z=true ↔ (3 ≤ z ∧ z ≤ 3):=by
 unfold Sp.fits Sp.base Sp.most
 simp
 try omega
set_option maxHeartbeats 1600000 in
theorem rfits_8 (z:Int) (w:World):Calls Tryz.prog 129 #[.int .i64 8,.int .i64 z] w fun e w' => e=.returned (.bool (Sp.fits 8 z)) ∧ Still w w':=by
 have HR:=Lib.hid (fun W => rowOf_any 8 (by omega) (by omega) W)
 have HS1:Hid (∀ W,Calls Tryz.prog 145 #[.int .i64 8,.int .i64 0] W fun e w' => e=.returned (.tuple #[.int .i64 3,.bool true]) ∧ Still W w'):=Lib.hid fun W => by
  refine (rsize_flat 8 (by omega) W).mono ?_
  rintro e w' ⟨rfl,hs⟩
  exact ⟨rfl,hs⟩
 have HS2:Hid (∀ W,Calls Tryz.prog 145 #[.int .i64 8,.int .i64 0] W fun e w' => e=.returned (.tuple #[.int .i64 3,.bool true]) ∧ Still W w'):=Lib.hid fun W => by
  refine (rsize_flat 8 (by omega) W).mono ?_
  rintro e w' ⟨rfl,hs⟩
  exact ⟨rfl,hs⟩
 obtain ⟨r,hr⟩:∃ r,Sp.fits 8 z=r:=⟨_,rfl⟩
 have HRR:=Lib.hid hr
 rw [hr]
 clear hr
 go_enter Tryz.func129,Tryz.ntmps129
 go_wp2_with fail
 refine (HR.out _).mono ?_
 rintro e w1 ⟨⟨a,cp,rfl⟩,hs1⟩
 have HST1:=Lib.hid hs1
 clear hs1
 simp only [rowV,Rw]
 go_wp2_with fail
 refine (HS1.out _).mono ?_
 rintro e w2 ⟨rfl,hs2⟩
 have hb:=still_new hs2
 have z3:=cell_of (v:=.int .i64 0) hb 3 rfl
 have zl:=(Array.getElem?_eq_some_iff.1 hb).1
 have HST2:=Lib.hid (Still.trans (HST1.out.alloc _) hs2)
 clear hs2 hb
 go_wp2_with fail
 refine (HS2.out _).mono ?_
 rintro e w3 ⟨rfl,hs3⟩
 have HST3:=Lib.hid (Still.trans HST2.out hs3)
 clear hs3 z3 zl
 by_cases hz1:3 ≤ z
 ·by_cases hz2:z ≤ 3
  ·obtain rfl:r=true:=by rw [← HRR.out];exact (fits_8 z).2 ⟨hz1,hz2⟩
   go_wp2_with fail
   go_ret
   exact ⟨by first | rfl | simp,HST3.out⟩
  ·obtain rfl:r=false:=by
    rw [← HRR.out]
    cases e:Sp.fits 8 z with
    | false => rfl
    | true => exact absurd ((fits_8 z).1 e).2 hz2
   go_wp2_with fail
   go_ret
   exact ⟨by first | rfl | simp [hz2],HST3.out⟩
 ·obtain rfl:r=false:=by
   rw [← HRR.out]
   cases e:Sp.fits 8 z with
   | false => rfl
   | true => exact absurd ((fits_8 z).1 e).1 hz1
  go_wp2_with fail
  go_ret
  exact ⟨by first | rfl | simp [hz1],HST3.out⟩
theorem fits_9 (z:Int):Sp.fits 9 z=true ↔ (3 ≤ z ∧ z ≤ 3):=by
 unfold Sp.fits Sp.base Sp.most
 simp
 try omega
set_option maxHeartbeats 1600000 in
theorem rfits_9 (z:Int) (w:World):Calls Tryz.prog 129 #[.int .i64 9,.int .i64 z] w fun e w' => e=.returned (.bool (Sp.fits 9 z)) ∧ Still w w':=by
 have HR:=Lib.hid (fun W => rowOf_any 9 (by omega) (by omega) W)
 have HS1:Hid (∀ W,Calls Tryz.prog 145 #[.int .i64 9,.int .i64 0] W fun e w' => e=.returned (.tuple #[.int .i64 3,.bool true]) ∧ Still W w'):=Lib.hid fun W => by
  refine (rsize_flat 9 (by omega) W).mono ?_
  rintro e w' ⟨rfl,hs⟩
  exact ⟨rfl,hs⟩
 have HS2:Hid (∀ W,Calls Tryz.prog 145 #[.int .i64 9,.int .i64 0] W fun e w' => e=.returned (.tuple #[.int .i64 3,.bool true]) ∧ Still W w'):=Lib.hid fun W => by
  refine (rsize_flat 9 (by omega) W).mono ?_
  rintro e w' ⟨rfl,hs⟩
  exact ⟨rfl,hs⟩
 obtain ⟨r,hr⟩:∃ r,Sp.fits 9 z=r:=⟨_,rfl⟩
 have HRR:=Lib.hid hr
 rw [hr]
 clear hr
 go_enter Tryz.func129,Tryz.ntmps129
 go_wp2_with fail
 refine (HR.out _).mono ?_
 rintro e w1 ⟨⟨a,cp,rfl⟩,hs1⟩
 have HST1:=Lib.hid hs1
 clear hs1
 simp only [rowV,Rw]
 go_wp2_with fail
 refine (HS1.out _).mono ?_
 rintro e w2 ⟨rfl,hs2⟩
 have hb:=still_new hs2
 have z3:=cell_of (v:=.int .i64 0) hb 3 rfl
 have zl:=(Array.getElem?_eq_some_iff.1 hb).1
 have HST2:=Lib.hid (Still.trans (HST1.out.alloc _) hs2)
 clear hs2 hb
 go_wp2_with fail
 refine (HS2.out _).mono ?_
 rintro e w3 ⟨rfl,hs3⟩
 have HST3:=Lib.hid (Still.trans HST2.out hs3)
 clear hs3 z3 zl
 by_cases hz1:3 ≤ z
 ·by_cases hz2:z ≤ 3
  ·obtain rfl:r=true:=by rw [← HRR.out];exact (fits_9 z).2 ⟨hz1,hz2⟩
   go_wp2_with fail
   go_ret
   exact ⟨by first | rfl | simp,HST3.out⟩
  ·obtain rfl:r=false:=by
    rw [← HRR.out]
    cases e:Sp.fits 9 z with
    | false => rfl
    | true => exact absurd ((fits_9 z).1 e).2 hz2
   go_wp2_with fail
   go_ret
   exact ⟨by first | rfl | simp [hz2],HST3.out⟩
 ·obtain rfl:r=false:=by
   rw [← HRR.out]
   cases e:Sp.fits 9 z with
   | false => rfl
   | true => exact absurd ((fits_9 z).1 e).1 hz1
  go_wp2_with fail
  go_ret
  exact ⟨by first | rfl | simp [hz1],HST3.out⟩
theorem fits_10 (z:Int):Sp.fits 10 z=true ↔ (3 ≤ z ∧ z ≤ 3):=by
 unfold Sp.fits Sp.base Sp.most
 simp
 try omega
set_option maxHeartbeats 1600000 in
theorem rfits_10 (z:Int) (w:World):Calls Tryz.prog 129 #[.int .i64 10,.int .i64 z] w fun e w' => e=.returned (.bool (Sp.fits 10 z)) ∧ Still w w':=by
 have HR:=Lib.hid (fun W => rowOf_any 10 (by omega) (by omega) W)
 have HS1:Hid (∀ W,Calls Tryz.prog 145 #[.int .i64 10,.int .i64 0] W fun e w' => e=.returned (.tuple #[.int .i64 3,.bool true]) ∧ Still W w'):=Lib.hid fun W => by
  refine (rsize_flat 10 (by omega) W).mono ?_
  rintro e w' ⟨rfl,hs⟩
  exact ⟨rfl,hs⟩
 have HS2:Hid (∀ W,Calls Tryz.prog 145 #[.int .i64 10,.int .i64 0] W fun e w' => e=.returned (.tuple #[.int .i64 3,.bool true]) ∧ Still W w'):=Lib.hid fun W => by
  refine (rsize_flat 10 (by omega) W).mono ?_
  rintro e w' ⟨rfl,hs⟩
  exact ⟨rfl,hs⟩
 obtain ⟨r,hr⟩:∃ r,Sp.fits 10 z=r:=⟨_,rfl⟩
 have HRR:=Lib.hid hr
 rw [hr]
 clear hr
 go_enter Tryz.func129,Tryz.ntmps129
 go_wp2_with fail
 refine (HR.out _).mono ?_
 rintro e w1 ⟨⟨a,cp,rfl⟩,hs1⟩
 have HST1:=Lib.hid hs1
 clear hs1
 simp only [rowV,Rw]
 go_wp2_with fail
 refine (HS1.out _).mono ?_
 rintro e w2 ⟨rfl,hs2⟩
 have hb:=still_new hs2
 have z3:=cell_of (v:=.int .i64 0) hb 3 rfl
 have zl:=(Array.getElem?_eq_some_iff.1 hb).1
 have HST2:=Lib.hid (Still.trans (HST1.out.alloc _) hs2)
 clear hs2 hb
 go_wp2_with fail
 refine (HS2.out _).mono ?_
 rintro e w3 ⟨rfl,hs3⟩
 have HST3:=Lib.hid (Still.trans HST2.out hs3)
 clear hs3 z3 zl
 by_cases hz1:3 ≤ z
 ·by_cases hz2:z ≤ 3
  ·obtain rfl:r=true:=by rw [← HRR.out];exact (fits_10 z).2 ⟨hz1,hz2⟩
   go_wp2_with fail
   go_ret
   exact ⟨by first | rfl | simp,HST3.out⟩
  ·obtain rfl:r=false:=by
    rw [← HRR.out]
    cases e:Sp.fits 10 z with
    | false => rfl
    | true => exact absurd ((fits_10 z).1 e).2 hz2
   go_wp2_with fail
   go_ret
   exact ⟨by first | rfl | simp [hz2],HST3.out⟩
 ·obtain rfl:r=false:=by
   rw [← HRR.out]
   cases e:Sp.fits 10 z with
   | false => rfl
   | true => exact absurd ((fits_10 z).1 e).1 hz1
  go_wp2_with fail
  go_ret
  exact ⟨by first | rfl | simp [hz1],HST3.out⟩
theorem fits_11 (z:Int):Sp.fits 11 z=true ↔ (5 ≤ z ∧ z ≤ 133):=by
 unfold Sp.fits Sp.base Sp.most
 simp
 try omega
set_option maxHeartbeats 1600000 in
theorem rfits_11 (z:Int) (w:World):Calls Tryz.prog 129 #[.int .i64 11,.int .i64 z] w fun e w' => e=.returned (.bool (Sp.fits 11 z)) ∧ Still w w':=by
 have HR:=Lib.hid (fun W => rowOf_any 11 (by omega) (by omega) W)
 have HS1:Hid (∀ W,Calls Tryz.prog 145 #[.int .i64 11,.int .i64 0] W fun e w' => e=.returned (.tuple #[.int .i64 5,.bool true]) ∧ Still W w'):=Lib.hid fun W => by
  refine (rsize_11 0 (by omega) (by omega) W).mono ?_
  rintro e w' ⟨rfl,hs⟩
  exact ⟨rfl,hs⟩
 have HS2:Hid (∀ W,Calls Tryz.prog 145 #[.int .i64 11,.int .i64 128] W fun e w' => e=.returned (.tuple #[.int .i64 133,.bool true]) ∧ Still W w'):=Lib.hid fun W => by
  refine (rsize_11 128 (by omega) (by omega) W).mono ?_
  rintro e w' ⟨rfl,hs⟩
  exact ⟨rfl,hs⟩
 obtain ⟨r,hr⟩:∃ r,Sp.fits 11 z=r:=⟨_,rfl⟩
 have HRR:=Lib.hid hr
 rw [hr]
 clear hr
 go_enter Tryz.func129,Tryz.ntmps129
 go_wp2_with fail
 refine (HR.out _).mono ?_
 rintro e w1 ⟨⟨a,cp,rfl⟩,hs1⟩
 have HST1:=Lib.hid hs1
 clear hs1
 simp only [rowV,Rw]
 go_wp2_with fail
 refine (HS1.out _).mono ?_
 rintro e w2 ⟨rfl,hs2⟩
 have hb:=still_new hs2
 have z3:=cell_of (v:=.int .i64 128) hb 3 rfl
 have zl:=(Array.getElem?_eq_some_iff.1 hb).1
 have HST2:=Lib.hid (Still.trans (HST1.out.alloc _) hs2)
 clear hs2 hb
 go_wp2_with fail
 refine (HS2.out _).mono ?_
 rintro e w3 ⟨rfl,hs3⟩
 have HST3:=Lib.hid (Still.trans HST2.out hs3)
 clear hs3 z3 zl
 by_cases hz1:5 ≤ z
 ·by_cases hz2:z ≤ 133
  ·obtain rfl:r=true:=by rw [← HRR.out];exact (fits_11 z).2 ⟨hz1,hz2⟩
   go_wp2_with fail
   go_ret
   exact ⟨by first | rfl | simp,HST3.out⟩
  ·obtain rfl:r=false:=by
    rw [← HRR.out]
    cases e:Sp.fits 11 z with
    | false => rfl
    | true => exact absurd ((fits_11 z).1 e).2 hz2
   go_wp2_with fail
   go_ret
   exact ⟨by first | rfl | simp [hz2],HST3.out⟩
 ·obtain rfl:r=false:=by
   rw [← HRR.out]
   cases e:Sp.fits 11 z with
   | false => rfl
   | true => exact absurd ((fits_11 z).1 e).1 hz1
  go_wp2_with fail
  go_ret
  exact ⟨by first | rfl | simp [hz1],HST3.out⟩
set_option maxHeartbeats 1600000 in
theorem rfits_12 (z:Int) (h1:5 ≤ z) (h2:z ≤ 513) (h3:Sp.heads (z - 1)=true) (w:World):Calls Tryz.prog 129 #[.int .i64 12,.int .i64 z] w fun e w' => e=.returned (.bool true) ∧ Still w w':=by
 have HR:=Lib.hid (fun W => rowOf_any 12 (by omega) (by omega) W)
 have HS1:Hid (∀ W,Calls Tryz.prog 145 #[.int .i64 12,.int .i64 4] W fun e w' => e=.returned (.tuple #[.int .i64 5,.bool true]) ∧ Still W w'):=Lib.hid fun W => by
  refine (rsize_12 4 (by omega) (by omega) (by rw [heads_list];decide) W).mono ?_
  rintro e w' ⟨rfl,hs⟩
  exact ⟨rfl,hs⟩
 have HS2:Hid (∀ W,Calls Tryz.prog 145 #[.int .i64 12,.int .i64 512] W fun e w' => e=.returned (.tuple #[.int .i64 513,.bool true]) ∧ Still W w'):=Lib.hid fun W => by
  refine (rsize_12 512 (by omega) (by omega) (by rw [heads_list];decide) W).mono ?_
  rintro e w' ⟨rfl,hs⟩
  exact ⟨rfl,hs⟩
 have HH:=Lib.hid (fun W => rheads_any (z - 1) (by omega) (by omega) W)
 rw [h3] at HH
 clear h3
 go_enter Tryz.func129,Tryz.ntmps129
 go_wp2_with fail
 refine (HH.out _).mono ?_
 rintro e w0 ⟨rfl,rfl⟩
 go_wp2_with fail
 refine (HR.out _).mono ?_
 rintro e w1 ⟨⟨a,cp,rfl⟩,hs1⟩
 have HST1:=Lib.hid hs1
 clear hs1
 simp only [rowV,Rw]
 go_wp2_with fail
 refine (HS1.out _).mono ?_
 rintro e w2 ⟨rfl,hs2⟩
 have hb:=still_new hs2
 have z3:=cell_of (v:=.int .i64 512) hb 3 rfl
 have zl:=(Array.getElem?_eq_some_iff.1 hb).1
 have HST2:=Lib.hid (Still.trans (HST1.out.alloc _) hs2)
 clear hs2 hb
 go_wp2_with fail
 refine (HS2.out _).mono ?_
 rintro e w3 ⟨rfl,hs3⟩
 have HST3:=Lib.hid (Still.trans HST2.out hs3)
 clear hs3 z3 zl
 go_wp2_with fail
 go_ret
 exact ⟨rfl,HST3.out⟩
theorem fits_13 (z:Int):Sp.fits 13 z=true ↔ (4 ≤ z ∧ z ≤ 4):=by
 unfold Sp.fits Sp.base Sp.most
 simp
 try omega
set_option maxHeartbeats 1600000 in
theorem rfits_13 (z:Int) (w:World):Calls Tryz.prog 129 #[.int .i64 13,.int .i64 z] w fun e w' => e=.returned (.bool (Sp.fits 13 z)) ∧ Still w w':=by
 have HR:=Lib.hid (fun W => rowOf_any 13 (by omega) (by omega) W)
 have HS1:Hid (∀ W,Calls Tryz.prog 145 #[.int .i64 13,.int .i64 0] W fun e w' => e=.returned (.tuple #[.int .i64 4,.bool true]) ∧ Still W w'):=Lib.hid fun W => by
  refine (rsize_flat 13 (by omega) W).mono ?_
  rintro e w' ⟨rfl,hs⟩
  exact ⟨rfl,hs⟩
 have HS2:Hid (∀ W,Calls Tryz.prog 145 #[.int .i64 13,.int .i64 0] W fun e w' => e=.returned (.tuple #[.int .i64 4,.bool true]) ∧ Still W w'):=Lib.hid fun W => by
  refine (rsize_flat 13 (by omega) W).mono ?_
  rintro e w' ⟨rfl,hs⟩
  exact ⟨rfl,hs⟩
 obtain ⟨r,hr⟩:∃ r,Sp.fits 13 z=r:=⟨_,rfl⟩
 have HRR:=Lib.hid hr
 rw [hr]
 clear hr
 go_enter Tryz.func129,Tryz.ntmps129
 go_wp2_with fail
 refine (HR.out _).mono ?_
 rintro e w1 ⟨⟨a,cp,rfl⟩,hs1⟩
 have HST1:=Lib.hid hs1
 clear hs1
 simp only [rowV,Rw]
 go_wp2_with fail
 refine (HS1.out _).mono ?_
 rintro e w2 ⟨rfl,hs2⟩
 have hb:=still_new hs2
 have z3:=cell_of (v:=.int .i64 0) hb 3 rfl
 have zl:=(Array.getElem?_eq_some_iff.1 hb).1
 have HST2:=Lib.hid (Still.trans (HST1.out.alloc _) hs2)
 clear hs2 hb
 go_wp2_with fail
 refine (HS2.out _).mono ?_
 rintro e w3 ⟨rfl,hs3⟩
 have HST3:=Lib.hid (Still.trans HST2.out hs3)
 clear hs3 z3 zl
 by_cases hz1:4 ≤ z
 ·by_cases hz2:z ≤ 4
  ·obtain rfl:r=true:=by rw [← HRR.out];exact (fits_13 z).2 ⟨hz1,hz2⟩
   go_wp2_with fail
   go_ret
   exact ⟨by first | rfl | simp,HST3.out⟩
  ·obtain rfl:r=false:=by
    rw [← HRR.out]
    cases e:Sp.fits 13 z with
    | false => rfl
    | true => exact absurd ((fits_13 z).1 e).2 hz2
   go_wp2_with fail
   go_ret
   exact ⟨by first | rfl | simp [hz2],HST3.out⟩
 ·obtain rfl:r=false:=by
   rw [← HRR.out]
   cases e:Sp.fits 13 z with
   | false => rfl
   | true => exact absurd ((fits_13 z).1 e).1 hz1
  go_wp2_with fail
  go_ret
  exact ⟨by first | rfl | simp [hz1],HST3.out⟩
end Go.Proofs.YtfbcdmhmpfijjaaGreatDoor
