/-
  The walks of layout.heads, layout.Fits, value.Link, header.Make.
-/
import Derived.Test.YtfbcdmhmpfijjaaGreatDoorQ03
set_option linter.unusedVariables false
set_option linter.unusedSimpArgs false
set_option linter.unusedSectionVars false
namespace Go.Proofs.YtfbcdmhmpfijjaaGreatDoor
open Go Go.RowKit
def wi (x n:Int):Int:=(if x < 0 then -(x + 1) else x) % n
theorem wi_range (x n:Int) (h:0 < n):0 ≤ wi x n ∧ wi x n < n:=by
 unfold wi
 exact ⟨Int.emod_nonneg _ (by omega),Int.emod_lt_of_pos _ h⟩
theorem wf_i64 {x:Int} (h:(Lit.int .i64 x).wf=true):-9223372036854775808 ≤ x ∧ x ≤ 9223372036854775807:=by
 simp [Lit.wf,IntKind.min,IntKind.max,IntKind.signed,IntKind.bits] at h
 omega
end Go.Proofs.YtfbcdmhmpfijjaaGreatDoor
namespace Go.Proofs.YtfbcdmhmpfijjaaGreatDoor
open Go Go.RowKit
namespace Sp
def cw:Nat → Nat
 | 0 => 2 | 1 => 4 | 2 => 6 | 3 => 8 | 4 => 12 | 5 => 16 | 6 => 20 | 7 => 32 | _ => 0
def cls (s:Int):Int :=
 if s < 1 ∨ 1024 < s then -1 else if s ≤ 2 then 0 else if s ≤ 4 then 1 else if s ≤ 6 then 2 else if s ≤ 8 then 3 else if s ≤ 12 then 4 else if s ≤ 16 then 5 else if s ≤ 20 then 6 else if s ≤ 32 then 7 else 8
def cww (c:Int):Int:=if 0 ≤ c ∧ c < 8 then (cw c.toNat:Int) else 0
def bks (c:Int):Int:=if 0 ≤ c ∧ c < 8 then ((64 / cw c.toNat:Nat):Int) else 0
def pgs (s:Int):Int:=if cls s=8 then (s + 63) / 64 else 0
theorem cls_8 {s:Int} (h:cls s=8):32 < s ∧ s ≤ 1024:=by
 unfold cls at h
 repeat' split at h
 all_goals first | omega | exact absurd h (by decide)
theorem cww_8 (c:Int) (h:0 ≤ c ∧ c < 8):cww c=2 ∨ cww c=4 ∨ cww c=6 ∨ cww c=8 ∨ cww c=12 ∨ cww c=16 ∨ cww c=20 ∨ cww c=32:=by
 have hc:c=0 ∨ c=1 ∨ c=2 ∨ c=3 ∨ c=4 ∨ c=5 ∨ c=6 ∨ c=7:=by omega
 rcases hc with rfl | rfl | rfl | rfl | rfl | rfl | rfl | rfl <;> decide
theorem bks_of (c:Int):bks c=if cww c=0 then 0 else Int.tdiv 64 (cww c):=by
 by_cases h:0 ≤ c ∧ c < 8
 ·have hc:c=0 ∨ c=1 ∨ c=2 ∨ c=3 ∨ c=4 ∨ c=5 ∨ c=6 ∨ c=7:=by omega
  rcases hc with rfl | rfl | rfl | rfl | rfl | rfl | rfl | rfl <;> decide
 ·unfold bks cww
  rw [if_neg h,if_neg h,if_pos rfl]
theorem bks_le (c:Int):0 ≤ bks c ∧ bks c ≤ 32 ∧ 0 ≤ cww c ∧ cww c ≤ 32 ∧ bks c * cww c ≤ 64:=by
 by_cases h:0 ≤ c ∧ c < 8
 ·have hc:c=0 ∨ c=1 ∨ c=2 ∨ c=3 ∨ c=4 ∨ c=5 ∨ c=6 ∨ c=7:=by omega
  rcases hc with rfl | rfl | rfl | rfl | rfl | rfl | rfl | rfl <;> decide
 ·unfold bks cww
  rw [if_neg h,if_neg h]
  decide
end Sp
abbrev wordsV:Value:=.agg #[.int .i64 2,.int .i64 4,.int .i64 6,.int .i64 8,.int .i64 12,.int .i64 16,.int .i64 20,.int .i64 32]
theorem words_any (w:World):Calls Tryz.prog 107 #[] w fun e w' => e=.returned wordsV ∧ Still w w':=by
 go_enter Tryz.func107,Tryz.ntmps107
 go_wp2
 exact bodyPost_ret (results_cell_row rfl _ _ w.heap.size _ _ _ _ rfl (heap_alloc_new w _) Tryz.underlying71 rfl (by kernel_rfl)) rfl ⟨rfl,(Only.refl _ _ w).alloc _⟩
set_option maxRecDepth 4000 in
set_option maxHeartbeats 1600000 in
theorem of_any (s:Int) (w:World):Calls Tryz.prog 63 #[.int .i64 s] w fun e w' => e=.returned (.int .i64 (Sp.cls s)) ∧ Still w w':=by
 by_cases h1:s < 1
 ·have hr:Sp.cls s=-1:=by unfold Sp.cls;rw [if_pos (.inl h1)]
  rw [hr];clear hr
  go_enter Tryz.func63,Tryz.ntmps63
  go_wp2
  go_ret
  exact ⟨rfl,Only.refl _ _ _⟩
 ·by_cases h2:1024 < s
  ·have hr:Sp.cls s=-1:=by unfold Sp.cls;rw [if_pos (.inr h2)]
   rw [hr];clear hr
   go_enter Tryz.func63,Tryz.ntmps63
   go_wp2
   go_ret
   exact ⟨rfl,Only.refl _ _ _⟩
  ·have HR:Hid (Sp.cls s=if s ≤ 2 then 0 else if s ≤ 4 then 1 else if s ≤ 6 then 2 else if s ≤ 8 then 3 else if s ≤ 12 then 4 else if s ≤ 16 then 5 else if s ≤ 20 then 6 else if s ≤ 32 then 7 else 8):=by unfold Sp.cls;rw [if_neg (by omega)];exact rfl
   generalize Sp.cls s=v at *
   have hx0:∀ W,(Instr.index 71 wordsV (.int .i64 0)).run Tryz.prog W=.ok (.int .i64 2) W:=fun _ => by kernel_rfl
   have hx1:∀ W,(Instr.index 71 wordsV (.int .i64 1)).run Tryz.prog W=.ok (.int .i64 4) W:=fun _ => by kernel_rfl
   have hx2:∀ W,(Instr.index 71 wordsV (.int .i64 2)).run Tryz.prog W=.ok (.int .i64 6) W:=fun _ => by kernel_rfl
   have hx3:∀ W,(Instr.index 71 wordsV (.int .i64 3)).run Tryz.prog W=.ok (.int .i64 8) W:=fun _ => by kernel_rfl
   have hx4:∀ W,(Instr.index 71 wordsV (.int .i64 4)).run Tryz.prog W=.ok (.int .i64 12) W:=fun _ => by kernel_rfl
   have hx5:∀ W,(Instr.index 71 wordsV (.int .i64 5)).run Tryz.prog W=.ok (.int .i64 16) W:=fun _ => by kernel_rfl
   have hx6:∀ W,(Instr.index 71 wordsV (.int .i64 6)).run Tryz.prog W=.ok (.int .i64 20) W:=fun _ => by kernel_rfl
   have hx7:∀ W,(Instr.index 71 wordsV (.int .i64 7)).run Tryz.prog W=.ok (.int .i64 32) W:=fun _ => by kernel_rfl
   go_enter Tryz.func63,Tryz.ntmps63
   go_wp2_with fail
   refine (words_any _).mono ?_
   rintro e w1 ⟨rfl,hs⟩
   have HS:=Lib.hid hs;clear hs
   go_wp2_with fail
   go_loopw [12] (fun y wr => ∃ i:Nat,y=.int .i64 i ∧ i ≤ 8 ∧ (∀ j,j < i → (Sp.cw j:Int) < s) ∧ wr=w1) (fun y _ => 9 - (intOf y).toNat)
   case atStart => exact ⟨0,rfl,by omega,fun j hj => by omega,rfl⟩
   case round =>
    obtain ⟨i,rfl,hi,hb,rfl⟩:=hrel
    have HB:=Lib.hid hb;clear hb
    have hc:i=0 ∨ i=1 ∨ i=2 ∨ i=3 ∨ i=4 ∨ i=5 ∨ i=6 ∨ i=7 ∨ i=8:=by omega
    rcases hc with rfl | rfl | rfl | rfl | rfl | rfl | rfl | rfl | rfl
    ·by_cases h:s ≤ 2
     ·have hr:v=0:=by
       rw [HR.out]
       rw [if_pos h]
      subst hr
      go_wp2
      go_ret
      exact ⟨rfl,HS.out⟩
     ·have HN:=Lib.hid h
      go_wp2
      go_roundw
      case rel => exact ⟨1,rfl,by omega,fun j hj => by
       by_cases hj2:j < 0
       ·exact HB.out j hj2
       ·obtain rfl:j=0:=by omega
        show (2:Int) < s
        have:=HN.out
        omega,by first | rfl | trivial⟩
      case measure => simp [intOf]
    ·by_cases h:s ≤ 4
     ·have hr:v=1:=by
       rw [HR.out]
       have:=HB.out 0 (by omega)
       have e:(Sp.cw 0:Int)=2:=rfl
       rw [if_neg (by omega),if_pos h]
      subst hr
      go_wp2
      go_ret
      exact ⟨rfl,HS.out⟩
     ·have HN:=Lib.hid h
      go_wp2
      go_roundw
      case rel => exact ⟨2,rfl,by omega,fun j hj => by
       by_cases hj2:j < 1
       ·exact HB.out j hj2
       ·obtain rfl:j=1:=by omega
        show (4:Int) < s
        have:=HN.out
        omega,by first | rfl | trivial⟩
      case measure => simp [intOf]
    ·by_cases h:s ≤ 6
     ·have hr:v=2:=by
       rw [HR.out]
       have:=HB.out 1 (by omega)
       have e:(Sp.cw 1:Int)=4:=rfl
       rw [if_neg (by omega),if_neg (by omega),if_pos h]
      subst hr
      go_wp2
      go_ret
      exact ⟨rfl,HS.out⟩
     ·have HN:=Lib.hid h
      go_wp2
      go_roundw
      case rel => exact ⟨3,rfl,by omega,fun j hj => by
       by_cases hj2:j < 2
       ·exact HB.out j hj2
       ·obtain rfl:j=2:=by omega
        show (6:Int) < s
        have:=HN.out
        omega,by first | rfl | trivial⟩
      case measure => simp [intOf]
    ·by_cases h:s ≤ 8
     ·have hr:v=3:=by
       rw [HR.out]
       have:=HB.out 2 (by omega)
       have e:(Sp.cw 2:Int)=6:=rfl
       rw [if_neg (by omega),if_neg (by omega),if_neg (by omega),if_pos h]
      subst hr
      go_wp2
      go_ret
      exact ⟨rfl,HS.out⟩
     ·have HN:=Lib.hid h
      go_wp2
      go_roundw
      case rel => exact ⟨4,rfl,by omega,fun j hj => by
       by_cases hj2:j < 3
       ·exact HB.out j hj2
       ·obtain rfl:j=3:=by omega
        show (8:Int) < s
        have:=HN.out
        omega,by first | rfl | trivial⟩
      case measure => simp [intOf]
    ·by_cases h:s ≤ 12
     ·have hr:v=4:=by
       rw [HR.out]
       have:=HB.out 3 (by omega)
       have e:(Sp.cw 3:Int)=8:=rfl
       rw [if_neg (by omega),if_neg (by omega),if_neg (by omega),if_neg (by omega),if_pos h]
      subst hr
      go_wp2
      go_ret
      exact ⟨rfl,HS.out⟩
     ·have HN:=Lib.hid h
      go_wp2
      go_roundw
      case rel => exact ⟨5,rfl,by omega,fun j hj => by
       by_cases hj2:j < 4
       ·exact HB.out j hj2
       ·obtain rfl:j=4:=by omega
        show (12:Int) < s
        have:=HN.out
        omega,by first | rfl | trivial⟩
      case measure => simp [intOf]
    ·by_cases h:s ≤ 16
     ·have hr:v=5:=by
       rw [HR.out]
       have:=HB.out 4 (by omega)
       have e:(Sp.cw 4:Int)=12:=rfl
       rw [if_neg (by omega),if_neg (by omega),if_neg (by omega),if_neg (by omega),if_neg (by omega),if_pos h]
      subst hr
      go_wp2
      go_ret
      exact ⟨rfl,HS.out⟩
     ·have HN:=Lib.hid h
      go_wp2
      go_roundw
      case rel => exact ⟨6,rfl,by omega,fun j hj => by
       by_cases hj2:j < 5
       ·exact HB.out j hj2
       ·obtain rfl:j=5:=by omega
        show (16:Int) < s
        have:=HN.out
        omega,by first | rfl | trivial⟩
      case measure => simp [intOf]
    ·by_cases h:s ≤ 20
     ·have hr:v=6:=by
       rw [HR.out]
       have:=HB.out 5 (by omega)
       have e:(Sp.cw 5:Int)=16:=rfl
       rw [if_neg (by omega),if_neg (by omega),if_neg (by omega),if_neg (by omega),if_neg (by omega),if_neg (by omega),if_pos h]
      subst hr
      go_wp2
      go_ret
      exact ⟨rfl,HS.out⟩
     ·have HN:=Lib.hid h
      go_wp2
      go_roundw
      case rel => exact ⟨7,rfl,by omega,fun j hj => by
       by_cases hj2:j < 6
       ·exact HB.out j hj2
       ·obtain rfl:j=6:=by omega
        show (20:Int) < s
        have:=HN.out
        omega,by first | rfl | trivial⟩
      case measure => simp [intOf]
    ·by_cases h:s ≤ 32
     ·have hr:v=7:=by
       rw [HR.out]
       have:=HB.out 6 (by omega)
       have e:(Sp.cw 6:Int)=20:=rfl
       rw [if_neg (by omega),if_neg (by omega),if_neg (by omega),if_neg (by omega),if_neg (by omega),if_neg (by omega),if_neg (by omega),if_pos h]
      subst hr
      go_wp2
      go_ret
      exact ⟨rfl,HS.out⟩
     ·have HN:=Lib.hid h
      go_wp2
      go_roundw
      case rel => exact ⟨8,rfl,by omega,fun j hj => by
       by_cases hj2:j < 7
       ·exact HB.out j hj2
       ·obtain rfl:j=7:=by omega
        show (32:Int) < s
        have:=HN.out
        omega,by first | rfl | trivial⟩
      case measure => simp [intOf]
    ·have hr:v=8:=by
      rw [HR.out]
      have:=HB.out 7 (by omega)
      have e:(Sp.cw 7:Int)=32:=rfl
      rw [if_neg (by omega),if_neg (by omega),if_neg (by omega),if_neg (by omega),if_neg (by omega),if_neg (by omega),if_neg (by omega),if_neg (by omega)]
     subst hr
     go_wp2
     go_ret
     exact ⟨rfl,HS.out⟩
set_option maxHeartbeats 1600000 in
theorem cwords_any (c:Int) (w:World):Calls Tryz.prog 100 #[.int .i64 c] w fun e w' => e=.returned (.int .i64 (Sp.cww c)) ∧ Still w w':=by
 by_cases h:0 ≤ c ∧ c < 8
 ·have hc:c=0 ∨ c=1 ∨ c=2 ∨ c=3 ∨ c=4 ∨ c=5 ∨ c=6 ∨ c=7:=by omega
  have hx0:∀ W,(Instr.index 71 wordsV (.int .i64 0)).run Tryz.prog W=.ok (.int .i64 2) W:=fun _ => by kernel_rfl
  have hx1:∀ W,(Instr.index 71 wordsV (.int .i64 1)).run Tryz.prog W=.ok (.int .i64 4) W:=fun _ => by kernel_rfl
  have hx2:∀ W,(Instr.index 71 wordsV (.int .i64 2)).run Tryz.prog W=.ok (.int .i64 6) W:=fun _ => by kernel_rfl
  have hx3:∀ W,(Instr.index 71 wordsV (.int .i64 3)).run Tryz.prog W=.ok (.int .i64 8) W:=fun _ => by kernel_rfl
  have hx4:∀ W,(Instr.index 71 wordsV (.int .i64 4)).run Tryz.prog W=.ok (.int .i64 12) W:=fun _ => by kernel_rfl
  have hx5:∀ W,(Instr.index 71 wordsV (.int .i64 5)).run Tryz.prog W=.ok (.int .i64 16) W:=fun _ => by kernel_rfl
  have hx6:∀ W,(Instr.index 71 wordsV (.int .i64 6)).run Tryz.prog W=.ok (.int .i64 20) W:=fun _ => by kernel_rfl
  have hx7:∀ W,(Instr.index 71 wordsV (.int .i64 7)).run Tryz.prog W=.ok (.int .i64 32) W:=fun _ => by kernel_rfl
  rcases hc with rfl | rfl | rfl | rfl | rfl | rfl | rfl | rfl <;>
  ·go_enter Tryz.func100,Tryz.ntmps100
   go_wp2_with fail
   refine (words_any _).mono ?_
   rintro e w1 ⟨rfl,hs⟩
   have HS:=Lib.hid hs;clear hs
   go_wp2
   go_ret
   exact ⟨rfl,HS.out⟩
 ·have hr:Sp.cww c=0:=by unfold Sp.cww;rw [if_neg h]
  rw [hr];clear hr
  by_cases h1:c < 0
  ·clear h
   go_enter Tryz.func100,Tryz.ntmps100
   go_wp2
   go_ret
   exact ⟨rfl,Only.refl _ _ _⟩
  ·have h2:8 ≤ c:=by omega
   clear h
   go_enter Tryz.func100,Tryz.ntmps100
   go_wp2
   go_ret
   exact ⟨rfl,Only.refl _ _ _⟩
set_option maxHeartbeats 1600000 in
theorem blocks_any (c:Int) (w:World):Calls Tryz.prog 68 #[.int .i64 c] w fun e w' => e=.returned (.int .i64 (Sp.bks c)) ∧ Still w w':=by
 have HV:=Lib.hid (Sp.bks_of c)
 have H8:=Lib.hid (Sp.cww_8 c)
 have H0:Hid (¬ (0 ≤ c ∧ c < 8) → Sp.cww c=0):=Lib.hid (fun h => by unfold Sp.cww;rw [if_neg h])
 generalize Sp.bks c=v at *
 go_enter Tryz.func68,Tryz.ntmps68
 go_wp2_with fail
 refine (cwords_any c _).mono ?_
 rintro e w1 ⟨rfl,hs⟩
 have HS:=Lib.hid hs;clear hs
 generalize Sp.cww c=x at *
 by_cases h:0 ≤ c ∧ c < 8
 ·rcases H8.out h with rfl | rfl | rfl | rfl | rfl | rfl | rfl | rfl <;>
  ·have hv:=HV.out
   rw [if_neg (by decide)] at hv
   clear h H8 H0 HV
   subst hv
   go_wp2
   go_ret
   exact ⟨rfl,HS.out⟩
 ·obtain rfl:=H0.out h
  have hv:=HV.out
  rw [if_pos rfl] at hv
  clear h H8 H0 HV
  subst hv
  go_wp2
  go_ret
  exact ⟨rfl,HS.out⟩
set_option maxHeartbeats 1600000 in
theorem pages_any (s:Int) (w:World):Calls Tryz.prog 65 #[.int .i64 s] w fun e w' => e=.returned (.int .i64 (Sp.pgs s)) ∧ Still w w':=by
 by_cases h:Sp.cls s=8
 ·have hr:Sp.pgs s=(s + 63) / 64:=by unfold Sp.pgs;rw [if_pos h]
  obtain ⟨h1,h2⟩:=Sp.cls_8 h
  have hw1:IntKind.i64.wrap (s + 64)=s + 64:=by rw [IntKind.wrap_i64];omega
  have hw2:IntKind.i64.wrap (s + 64 - 1)=s + 63:=by rw [IntKind.wrap_i64];omega
  have hw3:IntKind.i64.wrap ((s + 63).tdiv 64)=(s + 63) / 64:=by rw [Int.tdiv_eq_ediv_of_nonneg (by omega),IntKind.wrap_i64];omega
  rw [hr]
  clear hr h1 h2
  go_enter Tryz.func65,Tryz.ntmps65
  go_wp2_with fail
  refine (of_any s _).mono ?_
  rintro e w1 ⟨rfl,hs⟩
  have HS:=Lib.hid hs;clear hs
  rw [h]
  clear h
  go_wp2
  go_ret
  exact ⟨rfl,HS.out⟩
 ·have hr:Sp.pgs s=0:=by unfold Sp.pgs;rw [if_neg h]
  have hb:(Sp.cls s == 8)=false:=beq_eq_false_iff_ne.2 h
  rw [hr]
  clear hr h
  go_enter Tryz.func65,Tryz.ntmps65
  go_wp2_with fail
  refine (of_any s _).mono ?_
  rintro e w1 ⟨rfl,hs⟩
  have HS:=Lib.hid hs;clear hs
  generalize Sp.cls s=x at *
  go_wp2
  go_ret
  exact ⟨rfl,HS.out⟩
set_option maxHeartbeats 1600000 in
theorem start_any (c i:Int) (w:World) (h0:0 ≤ i) (h1:i < Sp.bks c):Calls Tryz.prog 130 #[.int .i64 c,.int .i64 i] w fun e w' => e=.returned (.int .i64 (i * Sp.cww c)) ∧ Still w w':=by
 have hw:IntKind.i64.wrap (i * Sp.cww c)=i * Sp.cww c:=by
  obtain ⟨a1,a2,a3,a4,a5⟩:=Sp.bks_le c
  have b1:0 ≤ i * Sp.cww c:=Int.mul_nonneg h0 a3
  have b2:i * Sp.cww c ≤ Sp.bks c * Sp.cww c:=Int.mul_le_mul_of_nonneg_right (by omega) a3
  rw [IntKind.wrap_i64];omega
 have hd:decide (Sp.bks c ≤ i)=false:=decide_eq_false (by omega)
 have hd0:decide (i < 0)=false:=decide_eq_false (by omega)
 have HB:=Lib.hid (fun w => blocks_any c w)
 have HC:=Lib.hid (fun w => cwords_any c w)
 clear h1
 generalize Sp.bks c=x at *
 generalize Sp.cww c=y at *
 go_enter Tryz.func130,Tryz.ntmps130
 go_wp2_with fail
 refine (HB.out _).mono ?_
 rintro e w1 ⟨rfl,hs⟩
 have HS:=Lib.hid hs;clear hs
 go_wp2_with fail
 refine (HC.out _).mono ?_
 rintro e w2 ⟨rfl,hs2⟩
 have HS2:Hid (Still w w2):=HS.out.trans (hs2.any _ _)
 clear hs2
 go_wp2
 go_ret
 exact ⟨rfl,HS2.out⟩
end Go.Proofs.YtfbcdmhmpfijjaaGreatDoor
namespace Go.Proofs.YtfbcdmhmpfijjaaGreatDoor
open Go Go.RowKit
namespace Sp
def base (k:Int):Int :=
 if k=2 ∨ k=5 ∨ k=7 then 2 else if k=1 ∨ k=8 ∨ k=9 ∨ k=10 then 3 else if k=13 then 4 else if k=4 then 2 else if k=11 then 5 else if k=3 ∨ k=6 ∨ k=12 then 1 else 0
def most (k:Int):Int:=if k=4 then 4096 else if k=11 then 128 else if k=3 then 1023 else if k=6 then 64 else if k=12 then 512 else 0
def heads (n:Int):Bool:=decide (4 ≤ n) && (decide (n ≤ 512) && (bits .and .i64 n (n - 1) == 0))
def fits (k s:Int):Bool :=
 decide (0 < base k) && (decide (base k ≤ s) && (decide (s - base k ≤ if k=4 then 512 else most k) && (!(k == 12) || heads (s - base k))))
def numbered (k:Int):Bool:=decide (1 ≤ k) && decide (k ≤ 11)
def lnk (n:Int):Int:=if n < -1 ∨ 262144 ≤ n then 0 else n * 8 + 4
end Sp
set_option maxRecDepth 4000 in
set_option maxHeartbeats 1600000 in
theorem shape_any (k:Int) (w:World):Calls Tryz.prog 96 #[.int .i64 k] w fun e w' => e=.returned (.tuple #[.int .i64 (Sp.base k),.int .i64 (Sp.most k)]) ∧ w=w':=by
 by_cases h:1 ≤ k ∧ k ≤ 13
 ·have hc:k=1 ∨ k=2 ∨ k=3 ∨ k=4 ∨ k=5 ∨ k=6 ∨ k=7 ∨ k=8 ∨ k=9 ∨ k=10 ∨ k=11 ∨ k=12 ∨ k=13:=by omega
  rcases hc with rfl | rfl | rfl | rfl | rfl | rfl | rfl | rfl | rfl | rfl | rfl | rfl | rfl <;>
  ·go_enter Tryz.func96,Tryz.ntmps96
   go_wp2
   go_ret2
   exact ⟨rfl,rfl⟩
 ·have hb:Sp.base k=0:=by
   unfold Sp.base
   rw [if_neg (by omega),if_neg (by omega),if_neg (by omega),if_neg (by omega),if_neg (by omega),if_neg (by omega)]
  have hm:Sp.most k=0:=by
   unfold Sp.most
   rw [if_neg (by omega),if_neg (by omega),if_neg (by omega),if_neg (by omega),if_neg (by omega)]
  rw [hb,hm]
  clear hb hm
  have h1:(k == 1)=false:=beq_eq_false_iff_ne.2 (by omega)
  have h2:(k == 2)=false:=beq_eq_false_iff_ne.2 (by omega)
  have h3:(k == 3)=false:=beq_eq_false_iff_ne.2 (by omega)
  have h4:(k == 4)=false:=beq_eq_false_iff_ne.2 (by omega)
  have h5:(k == 5)=false:=beq_eq_false_iff_ne.2 (by omega)
  have h6:(k == 6)=false:=beq_eq_false_iff_ne.2 (by omega)
  have h7:(k == 7)=false:=beq_eq_false_iff_ne.2 (by omega)
  have h8:(k == 8)=false:=beq_eq_false_iff_ne.2 (by omega)
  have h9:(k == 9)=false:=beq_eq_false_iff_ne.2 (by omega)
  have h10:(k == 10)=false:=beq_eq_false_iff_ne.2 (by omega)
  have h11:(k == 11)=false:=beq_eq_false_iff_ne.2 (by omega)
  have h12:(k == 12)=false:=beq_eq_false_iff_ne.2 (by omega)
  have h13:(k == 13)=false:=beq_eq_false_iff_ne.2 (by omega)
  clear h
  go_enter Tryz.func96,Tryz.ntmps96
  go_wp2
  go_ret2
  exact ⟨rfl,rfl⟩
theorem visible_any (k:Int) (w:World):Calls Tryz.prog 101 #[.int .i64 k] w fun e w' => e=.returned (.bool (decide (1 ≤ k) && decide (k ≤ 10))) ∧ w=w':=by
 by_cases h1:1 ≤ k
 ·have hd:decide (1 ≤ k)=true:=decide_eq_true h1
  rw [hd]
  go_enter Tryz.func101,Tryz.ntmps101
  go_wp2
  go_ret
  exact ⟨rfl,rfl⟩
 ·have hd:decide (1 ≤ k)=false:=decide_eq_false h1
  rw [hd]
  go_enter Tryz.func101,Tryz.ntmps101
  go_wp2
  go_ret
  exact ⟨rfl,rfl⟩
theorem numbered_any (k:Int) (w:World):Calls Tryz.prog 51 #[.int .i64 k] w fun e w' => e=.returned (.bool (Sp.numbered k)) ∧ w=w':=by
 have hv:Hid ((decide (1 ≤ k) && decide (k ≤ 10))=true → Sp.numbered k=true):=Lib.hid (fun h => by
  simp only [Bool.and_eq_true,decide_eq_true_eq] at h
  unfold Sp.numbered;rw [decide_eq_true h.1,decide_eq_true (by omega)];rfl)
 have hv2:Hid ((decide (1 ≤ k) && decide (k ≤ 10))=false → Sp.numbered k=(k == 11)):=Lib.hid (fun h => by
  simp only [Bool.and_eq_false_iff,decide_eq_false_iff_not] at h
  unfold Sp.numbered
  by_cases hk:k=11
  ·subst hk;rfl
  ·rw [beq_eq_false_iff_ne.2 hk]
   by_cases h1:1 ≤ k
   ·rw [decide_eq_true h1,decide_eq_false (by omega)];rfl
   ·rw [decide_eq_false h1];rfl)
 have HV:=Lib.hid (fun w => visible_any k w)
 generalize Sp.numbered k=v at *
 generalize (decide (1 ≤ k) && decide (k ≤ 10))=u at *
 cases u with
 | true =>
  obtain rfl:=hv.out rfl
  clear hv hv2
  go_enter Tryz.func51,Tryz.ntmps51
  go_wp2_with fail
  refine (HV.out _).mono ?_
  rintro e w1 ⟨rfl,rfl⟩
  go_wp2
  go_ret
  exact ⟨rfl,rfl⟩
 | false =>
  obtain rfl:=hv2.out rfl
  clear hv hv2
  go_enter Tryz.func51,Tryz.ntmps51
  go_wp2_with fail
  refine (HV.out _).mono ?_
  rintro e w1 ⟨rfl,rfl⟩
  go_wp2
  go_ret
  exact ⟨rfl,rfl⟩
end Go.Proofs.YtfbcdmhmpfijjaaGreatDoor
namespace Go.Proofs.YtfbcdmhmpfijjaaGreatDoor
open Go Go.RowKit
set_option maxHeartbeats 1600000 in
theorem heads_any (n:Int) (w:World):Calls Tryz.prog 97 #[.int .i64 n] w fun e w' => e=.returned (.bool (Sp.heads n)) ∧ w=w':=by
 by_cases h1:4 ≤ n
 ·by_cases h2:n ≤ 512
  ·have hr:Sp.heads n=(bits .and .i64 n (n - 1) == 0):=by unfold Sp.heads;rw [decide_eq_true h1,decide_eq_true h2];rfl
   have hw:IntKind.i64.wrap (n - 1)=n - 1:=by rw [IntKind.wrap_i64];omega
   have hd1:decide (4 ≤ n)=true:=decide_eq_true h1
   have hd2:decide (n ≤ 512)=true:=decide_eq_true h2
   rw [hr];clear hr h1 h2
   generalize hx:bits .and .i64 n (n - 1)=x at *
   go_enter Tryz.func97,Tryz.ntmps97
   go_wp2
   go_ret
   exact ⟨rfl,rfl⟩
  ·have hr:Sp.heads n=false:=by unfold Sp.heads;rw [decide_eq_true h1,decide_eq_false h2];rfl
   have hd1:decide (4 ≤ n)=true:=decide_eq_true h1
   have hd2:decide (n ≤ 512)=false:=decide_eq_false h2
   rw [hr];clear hr h1 h2
   go_enter Tryz.func97,Tryz.ntmps97
   go_wp2
   go_ret
   exact ⟨rfl,rfl⟩
 ·have hr:Sp.heads n=false:=by unfold Sp.heads;rw [decide_eq_false h1];rfl
  have hd1:decide (4 ≤ n)=false:=decide_eq_false h1
  rw [hr];clear hr h1
  go_enter Tryz.func97,Tryz.ntmps97
  go_wp2
  go_ret
  exact ⟨rfl,rfl⟩
namespace Sp
theorem base_nn (k:Int):0 ≤ base k ∧ base k ≤ 5:=by
 unfold base
 repeat' split
 all_goals omega
theorem most_nn (k:Int):0 ≤ most k ∧ most k ≤ 4096:=by
 unfold most
 repeat' split
 all_goals omega
theorem fits_size {k s:Int} (h:fits k s=true):1 ≤ s ∧ s ≤ 1024:=by
 unfold fits at h
 simp only [Bool.and_eq_true,decide_eq_true_eq] at h
 obtain ⟨h1,h2,h3,_⟩:=h
 have hb:base k ≤ 5:=(base_nn k).2
 refine ⟨by omega,?_⟩
 by_cases h4:k=4
 ·rw [if_pos h4] at h3;omega
 ·rw [if_neg h4] at h3
  unfold most at h3
  rw [if_neg h4] at h3
  repeat' split at h3
  all_goals first | omega | (subst_vars;simp only [base] at *;revert h3;simp;omega)
end Sp
theorem or_four (n:Int) (h1:-1 ≤ n) (h2:n < 262144):bits BinOp.or IntKind.i64 (n * 8) 4=n * 8 + 4:=by
 by_cases h0:n=-1
 ·subst h0;decide
 ·obtain ⟨m,rfl⟩:=Int.eq_ofNat_of_zero_le (show 0 ≤ n by omega)
  have e1:(BitVec.ofInt 64 ((m:Int) * 8)).toNat=2 ^ 3 * m:=by
   rw [BitVec.toNat_ofInt]
   omega
  have e2:(BitVec.ofInt 64 (4:Int)).toNat=4:=by decide
  show IntKind.i64.wrap ((BitVec.ofInt 64 ((m:Int) * 8) ||| BitVec.ofInt 64 4).toNat:Int)=_
  rw [BitVec.toNat_or,e1,e2,← Nat.two_pow_add_eq_or_of_lt (by decide),IntKind.wrap_i64]
  omega
theorem link_any (n:Int) (w:World) (h1:-1 ≤ n) (h2:n < 262144):Calls Tryz.prog 125 #[.int .i64 n] w fun e w' => e=.returned (.int .i64 (Sp.lnk n)) ∧ w=w':=by
 have hr:Sp.lnk n=n * 8 + 4:=by unfold Sp.lnk;rw [if_neg (by omega)]
 rw [hr];clear hr
 have hd1:decide (n < -1)=false:=decide_eq_false (by omega)
 have hd2:decide (262144 ≤ n)=false:=decide_eq_false (by omega)
 go_enter Tryz.func125,Tryz.ntmps125
 go_wp2_with fail
 rw [or_four n h1 h2]
 go_ret
 exact ⟨rfl,rfl⟩
def Sp.hdr (a k s:Int):Int :=
 wrap64 (bits BinOp.or .u64 (IntKind.u64.wrap (bits BinOp.or .u64 (bits BinOp.or .u64 (IntKind.u64.wrap (bits BinOp.and .u64 (IntKind.u64.wrap (IntKind.u64.wrap (bits BinOp.or .u64 (a * 65536) (k * 2048) + s) * 10872568911861)) 17592186044415 * 65536)) (s * 32)) k * 8)) 5)
set_option maxHeartbeats 1600000 in
theorem make_any (a k s:Int) (w:World) (h1:0 ≤ a) (h2:a < 262144) (h3:1 ≤ k) (h4:k ≤ 31) (h5:1 ≤ s) (h6:s ≤ 1024) :
 Calls Tryz.prog 50 #[.int .i64 a,.int .i64 k,.int .i64 s] w fun e w' => e=.returned (.int .i64 (Sp.hdr a k s)) ∧ w=w':=by
 have hd1:decide (a < 0)=false:=decide_eq_false (by omega)
 have hd2:decide (262144 ≤ a)=false:=decide_eq_false (by omega)
 have hd3:decide (k < 1)=false:=decide_eq_false (by omega)
 have hd4:decide (31 < k)=false:=decide_eq_false (by omega)
 have hd5:decide (s < 1)=false:=decide_eq_false (by omega)
 have hd6:decide (1024 < s)=false:=decide_eq_false (by omega)
 go_enter Tryz.func50,Tryz.ntmps50
 go_wp2
 go_ret
 exact ⟨rfl,rfl⟩
set_option maxHeartbeats 1600000 in
theorem fits_any (k s:Int) (w:World) (hs1:-9223372036854775808 ≤ s) (hs2:s ≤ 9223372036854775807) :
 Calls Tryz.prog 47 #[.int .i64 k,.int .i64 s] w fun e w' => e=.returned (.bool (Sp.fits k s)) ∧ w=w':=by
 have HSH:=Lib.hid (fun w => shape_any k w)
 have HHD:=Lib.hid (fun n w => heads_any n w)
 obtain ⟨hb0,hb5⟩:=Sp.base_nn k
 obtain ⟨hm0,hm4⟩:=Sp.most_nn k
 have HV:Hid (Sp.fits k s=(decide (0 < Sp.base k) && (decide (Sp.base k ≤ s) && (decide (s - Sp.base k ≤ if k=4 then 512 else Sp.most k) && (!(k == 12) || Sp.heads (s - Sp.base k)))))):=rfl
 have HM4:Hid (k=4 → Sp.most k=4096):=Lib.hid (fun h => by subst h;rfl)
 generalize Sp.fits k s=v at *
 generalize Sp.base k=b at *
 generalize Sp.most k=m at *
 by_cases h4:k=4
 ·obtain rfl:=HM4.out h4
  subst h4
  have hv:=HV.out
  rw [if_pos rfl,show ((4:Int) == 12)=false by decide] at hv
  clear HV HM4
  by_cases h1:0 < b
  ·by_cases h2:b ≤ s
   ·have hw:IntKind.i64.wrap (s - b)=s - b:=by rw [IntKind.wrap_i64];omega
    have hd1:decide (0 < b)=true:=decide_eq_true h1
    have hd2:decide (b ≤ s)=true:=decide_eq_true h2
    by_cases h3:s - b ≤ 512
    ·have hd3:decide (s - b ≤ 512)=true:=decide_eq_true h3
     rw [hd1,hd2,hd3] at hv
     obtain rfl:v=true:=hv
     clear h1 h2 h3
     go_enter Tryz.func47,Tryz.ntmps47
     go_wp2_with fail
     refine (HSH.out _).mono ?_
     rintro e w1 ⟨rfl,rfl⟩
     go_wp2
     go_ret
     exact ⟨rfl,rfl⟩
    ·have hd3:decide (s - b ≤ 512)=false:=decide_eq_false h3
     rw [hd1,hd2,hd3] at hv
     obtain rfl:v=false:=hv
     clear h1 h2 h3
     go_enter Tryz.func47,Tryz.ntmps47
     go_wp2_with fail
     refine (HSH.out _).mono ?_
     rintro e w1 ⟨rfl,rfl⟩
     go_wp2
     go_ret
     exact ⟨rfl,rfl⟩
   ·have hd1:decide (0 < b)=true:=decide_eq_true h1
    have hd2:decide (b ≤ s)=false:=decide_eq_false h2
    rw [hd1,hd2] at hv
    obtain rfl:v=false:=hv
    clear h1 h2
    go_enter Tryz.func47,Tryz.ntmps47
    go_wp2_with fail
    refine (HSH.out _).mono ?_
    rintro e w1 ⟨rfl,rfl⟩
    go_wp2
    go_ret
    exact ⟨rfl,rfl⟩
  ·have hd1:decide (0 < b)=false:=decide_eq_false h1
   rw [hd1] at hv
   obtain rfl:v=false:=hv
   clear h1
   go_enter Tryz.func47,Tryz.ntmps47
   go_wp2_with fail
   refine (HSH.out _).mono ?_
   rintro e w1 ⟨rfl,rfl⟩
   go_wp2
   go_ret
   exact ⟨rfl,rfl⟩
 ·have hv:=HV.out
  rw [if_neg h4] at hv
  have hb4:(k == 4)=false:=beq_eq_false_iff_ne.2 h4
  clear HV HM4 h4
  by_cases h1:0 < b
  ·by_cases h2:b ≤ s
   ·have hw:IntKind.i64.wrap (s - b)=s - b:=by rw [IntKind.wrap_i64];omega
    have hd1:decide (0 < b)=true:=decide_eq_true h1
    have hd2:decide (b ≤ s)=true:=decide_eq_true h2
    by_cases h3:s - b ≤ m
    ·have hd3:decide (s - b ≤ m)=true:=decide_eq_true h3
     by_cases h12:k=12
     ·have hk:(k == 12)=true:=beq_iff_eq.2 h12
      rw [hd1,hd2,hd3,hk] at hv
      have hv2:v=Sp.heads (s - b):=by rw [hv];rfl
      clear hv
      subst hv2
      clear h1 h2 h3 hk hb4
      subst h12
      go_enter Tryz.func47,Tryz.ntmps47
      go_wp2_with fail
      refine (HSH.out _).mono ?_
      rintro e w1 ⟨rfl,rfl⟩
      go_wp2_with fail
      refine (HHD.out _ _).mono ?_
      rintro e w1 ⟨rfl,rfl⟩
      go_wp2
      go_ret
      exact ⟨rfl,rfl⟩
     ·have hk:(k == 12)=false:=beq_eq_false_iff_ne.2 h12
      rw [hd1,hd2,hd3,hk] at hv
      obtain rfl:v=true:=hv
      clear h1 h2 h3
      go_enter Tryz.func47,Tryz.ntmps47
      go_wp2_with fail
      refine (HSH.out _).mono ?_
      rintro e w1 ⟨rfl,rfl⟩
      go_wp2
      go_ret
      exact ⟨rfl,rfl⟩
    ·have hd3:decide (s - b ≤ m)=false:=decide_eq_false h3
     rw [hd1,hd2,hd3] at hv
     obtain rfl:v=false:=hv
     clear h1 h2 h3
     go_enter Tryz.func47,Tryz.ntmps47
     go_wp2_with fail
     refine (HSH.out _).mono ?_
     rintro e w1 ⟨rfl,rfl⟩
     go_wp2
     go_ret
     exact ⟨rfl,rfl⟩
   ·have hd1:decide (0 < b)=true:=decide_eq_true h1
    have hd2:decide (b ≤ s)=false:=decide_eq_false h2
    rw [hd1,hd2] at hv
    obtain rfl:v=false:=hv
    clear h1 h2
    go_enter Tryz.func47,Tryz.ntmps47
    go_wp2_with fail
    refine (HSH.out _).mono ?_
    rintro e w1 ⟨rfl,rfl⟩
    go_wp2
    go_ret
    exact ⟨rfl,rfl⟩
  ·have hd1:decide (0 < b)=false:=decide_eq_false h1
   rw [hd1] at hv
   obtain rfl:v=false:=hv
   clear h1
   go_enter Tryz.func47,Tryz.ntmps47
   go_wp2_with fail
   refine (HSH.out _).mono ?_
   rintro e w1 ⟨rfl,rfl⟩
   go_wp2
   go_ret
   exact ⟨rfl,rfl⟩
end Go.Proofs.YtfbcdmhmpfijjaaGreatDoor
