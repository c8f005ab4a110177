/-
  The walk of space.take.
-/
import Derived.Test.YtfbcdmhmpfijjaaGreatDoorQ08
import Derived.Test.YtfbcdmhmpfijjaaGreatDoorQ07
set_option linter.unusedVariables false
set_option linter.unusedSimpArgs false
set_option linter.unusedSectionVars false
namespace Go.Proofs.YtfbcdmhmpfijjaaGreatDoor
open Go Go.RowKit
theorem Sp.cw_step (i:Nat) (h:i < 7):Sp.cw (i + 1)=Sp.cw i + (if i < 3 then 2 else if i < 6 then 4 else 12):=by
 have h':i=0 ∨ i=1 ∨ i=2 ∨ i=3 ∨ i=4 ∨ i=5 ∨ i=6:=by omega
 rcases h' with rfl | rfl | rfl | rfl | rfl | rfl | rfl <;> decide
set_option maxRecDepth 100000 in
set_option maxHeartbeats 1600000 in
theorem rwords_any (c:Nat) (hc:c < 8) (w:World) :
 Calls Tryz.prog 126 #[.int .i64 (c:Int)] w fun e w' => e=.returned (.int .i64 (Sp.cw c:Int)) ∧ w=w':=by
 have hcI:(c:Int) < 8:=by omega
 have hc0:(0:Int) ≤ (c:Int):=by omega
 go_enter Tryz.func126,Tryz.ntmps126
 go_wp2_with fail
 go_loopw [3,4] (fun x y W => ∃ i:Nat,x=.int .i64 (Sp.cw i:Int) ∧ y=.int .i64 (i:Int) ∧ i ≤ c ∧ w=W) (fun _ y _ => c + 1 - (intOf y).toNat)
 case atStart => exact ⟨0,rfl,rfl,Nat.zero_le _,rfl⟩
 case round =>
  obtain ⟨i,rfl,rfl,hi,rfl⟩:=hrel
  have hi0:(0:Int) ≤ (i:Int):=by omega
  by_cases hic:i < c
  ·have hiI:(i:Int) < (c:Int):=by omega
   have hs:=Sp.cw_step i (by omega)
   have hl:=(Sp.cw_le i (by omega)).2.1
   obtain ⟨v,hv⟩:∃ v,Sp.cw i=v:=⟨_,rfl⟩
   rw [hv] at hs hl ⊢
   have hl2:(v:Int) ≤ 32:=by omega
   have hl0:(0:Int) ≤ (v:Int):=by omega
   by_cases h3:i < 3
   ·have h3I:(i:Int) < 3:=by omega
    rw [if_pos h3] at hs
    have HSI:=Lib.hid hs
    clear hs
    go_wp2_with fail
    exact ⟨⟨i + 1,by rw [HSI.out];go_num,by go_num,hic,by first | rfl | trivial⟩,by simp [intOf];omega⟩
   ·have h3I:¬((i:Int) < 3):=by omega
    have h3d:(3:Int) ≤ (i:Int):=by omega
    by_cases h6:i < 6
    ·have h6I:(i:Int) < 6:=by omega
     rw [if_neg h3,if_pos h6] at hs
     have HSI:=Lib.hid hs
     clear hs
     go_wp2_with fail
     exact ⟨⟨i + 1,by rw [HSI.out];go_num,by go_num,hic,by first | rfl | trivial⟩,by simp [intOf];omega⟩
    ·have h6d:(6:Int) ≤ (i:Int):=by omega
     rw [if_neg h3,if_neg h6] at hs
     have HSI:=Lib.hid hs
     clear hs
     go_wp2_with fail
     exact ⟨⟨i + 1,by rw [HSI.out];go_num,by go_num,hic,by first | rfl | trivial⟩,by simp [intOf];omega⟩
  ·obtain rfl:i=c:=by omega
   go_wp2_with fail
   go_ret
   exact ⟨rfl,rfl⟩
theorem Sp.bk_lt (c:Nat) (hc:c < 8) (n:Nat):n < Sp.bk c ↔ (n + 1) * Sp.cw c ≤ 64:=by
 have:=Sp.cw_8 c hc
 rcases this with ⟨h1,h2⟩ | ⟨h1,h2⟩ | ⟨h1,h2⟩ | ⟨h1,h2⟩ | ⟨h1,h2⟩ | ⟨h1,h2⟩ | ⟨h1,h2⟩ | ⟨h1,h2⟩ <;> rw [h1,h2] <;> omega
set_option maxRecDepth 100000 in
set_option maxHeartbeats 1600000 in
theorem rblocks_any (c:Nat) (hc:c < 8) (w:World) :
 Calls Tryz.prog 119 #[.int .i64 (c:Int)] w fun e w' => e=.returned (.int .i64 (Sp.bk c:Int)) ∧ w=w':=by
 have hle:=Sp.cw_le c hc
 have HB:=Lib.hid (fun n => Sp.bk_lt c hc n)
 have HW:=Lib.hid (rwords_any c hc w)
 obtain ⟨v,hv⟩:∃ v,Sp.cw c=v:=⟨_,rfl⟩
 rw [hv] at hle HB HW
 have hv1:(2:Int) ≤ (v:Int):=by omega
 have hv2:(v:Int) ≤ 32:=by omega
 go_enter Tryz.func119,Tryz.ntmps119
 go_wp2_with fail
 refine HW.out.mono ?_
 rintro e w1 ⟨rfl,rfl⟩
 go_wp2_with fail
 go_loopw [4] (fun y W => ∃ n:Nat,y=.int .i64 (n:Int) ∧ n ≤ Sp.bk c ∧ w=W) (fun y _ => Sp.bk c + 1 - (intOf y).toNat)
 case atStart => exact ⟨0,rfl,Nat.zero_le _,rfl⟩
 case round =>
  obtain ⟨n,rfl,hn,rfl⟩:=hrel
  have hn0:(0:Int) ≤ (n:Int):=by omega
  have hnI:(n:Int) ≤ 32:=by omega
  by_cases hnb:n < Sp.bk c
  ·have h1:((n:Int) + 1) * (v:Int) ≤ 64:=by have:=(HB.out n).1 hnb;exact_mod_cast this
   have h2:(0:Int) ≤ ((n:Int) + 1) * (v:Int):=Int.mul_nonneg (by omega) (by omega)
   go_wp2_with fail
   exact ⟨⟨n + 1,by go_num,hnb,by first | rfl | trivial⟩,by simp [intOf];omega⟩
  ·have h1:¬((n + 1) * v ≤ 64):=fun h => hnb ((HB.out n).2 h)
   have h1:(64:Int) < ((n:Int) + 1) * (v:Int):=by
    have h:64 < (n + 1) * v:=by omega
    exact_mod_cast h
   have h2:((n:Int) + 1) * (v:Int) ≤ 33 * 32:=Int.mul_le_mul (by omega) hv2 (by omega) (by omega)
   obtain rfl:n=Sp.bk c:=by omega
   go_wp2_with fail
   go_ret
   exact ⟨rfl,rfl⟩
set_option maxRecDepth 100000 in
set_option maxHeartbeats 800000 in
theorem rstart_any (c:Nat) (hc:c < 8) (i:Nat) (hi:i < Sp.bk c) (w:World) :
 Calls Tryz.prog 120 #[.int .i64 (c:Int),.int .i64 (i:Int)] w fun e w' => e=.returned (.int .i64 ((i * Sp.cw c:Nat):Int)) ∧ w=w':=by
 have hle:=Sp.cw_le c hc
 have hin:=Sp.cw_in c hc i hi
 have HB:=Lib.hid (rblocks_any c hc w)
 have HW:=Lib.hid (rwords_any c hc w)
 obtain ⟨v,hv⟩:∃ v,Sp.cw c=v:=⟨_,rfl⟩
 obtain ⟨b,hb⟩:∃ b,Sp.bk c=b:=⟨_,rfl⟩
 rw [hv] at hin HW ⊢
 rw [hb] at hi hle HB
 have hiI:(i:Int) < (b:Int):=by omega
 have hi0:(0:Int) ≤ (i:Int):=by omega
 obtain ⟨I,hI⟩:∃ I,i * v=I:=⟨_,rfl⟩
 have hwr:IntKind.i64.wrap ((i:Int) * (v:Int))=(I:Int):=by
  have hm:(i:Int) * (v:Int)=(I:Int):=by rw [← hI];simp
  rw [hm,IntKind.wrap_i64]
  omega
 have hwr2:wrap64 ((i:Int) * (v:Int))=(I:Int):=by rw [← IntWalk.i64_left];exact hwr
 rw [hI] at hin ⊢
 have hIM:(I:Int) ≤ 64:=by omega
 have hI0:(0:Int) ≤ (I:Int):=by omega
 clear hI hin
 go_enter Tryz.func120,Tryz.ntmps120
 go_wp2_with fail
 refine HB.out.mono ?_
 rintro e w1 ⟨rfl,rfl⟩
 go_wp2_with fail
 refine HW.out.mono ?_
 rintro e w1 ⟨rfl,rfl⟩
 go_wp2_with fail
 go_ret
 exact ⟨rfl,rfl⟩
end Go.Proofs.YtfbcdmhmpfijjaaGreatDoor
namespace Go.Proofs.YtfbcdmhmpfijjaaGreatDoor
open Go Go.RowKit
theorem Sp.cls_least {z:Int} (h1:1 ≤ z) (h2:z ≤ 1024) {c:Nat} (hc:c ≤ 8) (hl:∀ i,i < c → (Sp.cw i:Int) < z) (hg:c < 8 → z ≤ (Sp.cw c:Int)):Sp.cls z=(c:Int):=by
 have e0:(Sp.cw 0:Int)=2:=rfl
 have e1:(Sp.cw 1:Int)=4:=rfl
 have e2:(Sp.cw 2:Int)=6:=rfl
 have e3:(Sp.cw 3:Int)=8:=rfl
 have e4:(Sp.cw 4:Int)=12:=rfl
 have e5:(Sp.cw 5:Int)=16:=rfl
 have e6:(Sp.cw 6:Int)=20:=rfl
 have e7:(Sp.cw 7:Int)=32:=rfl
 have hc':c=0 ∨ c=1 ∨ c=2 ∨ c=3 ∨ c=4 ∨ c=5 ∨ c=6 ∨ c=7 ∨ c=8:=by omega
 unfold Sp.cls
 rw [if_neg (by omega)]
 rcases hc' with rfl | rfl | rfl | rfl | rfl | rfl | rfl | rfl | rfl
 ·have g:=hg (by omega);rw [if_pos (by omega)];rfl
 ·have g:=hg (by omega);have l:=hl 0 (by omega);rw [if_neg (by omega),if_pos (by omega)];rfl
 ·have g:=hg (by omega);have l:=hl 1 (by omega);rw [if_neg (by omega),if_neg (by omega),if_pos (by omega)];rfl
 ·have g:=hg (by omega);have l:=hl 2 (by omega);rw [if_neg (by omega),if_neg (by omega),if_neg (by omega),if_pos (by omega)];rfl
 ·have g:=hg (by omega);have l:=hl 3 (by omega);rw [if_neg (by omega),if_neg (by omega),if_neg (by omega),if_neg (by omega),if_pos (by omega)];rfl
 ·have g:=hg (by omega);have l:=hl 4 (by omega);rw [if_neg (by omega),if_neg (by omega),if_neg (by omega),if_neg (by omega),if_neg (by omega),if_pos (by omega)];rfl
 ·have g:=hg (by omega);have l:=hl 5 (by omega);rw [if_neg (by omega),if_neg (by omega),if_neg (by omega),if_neg (by omega),if_neg (by omega),if_neg (by omega),if_pos (by omega)];rfl
 ·have g:=hg (by omega);have l:=hl 6 (by omega);rw [if_neg (by omega),if_neg (by omega),if_neg (by omega),if_neg (by omega),if_neg (by omega),if_neg (by omega),if_neg (by omega),if_pos (by omega)];rfl
 ·have l:=hl 7 (by omega);rw [if_neg (by omega),if_neg (by omega),if_neg (by omega),if_neg (by omega),if_neg (by omega),if_neg (by omega),if_neg (by omega),if_neg (by omega)];rfl
theorem Sp.cls_in2 {z:Int} (h1:1 ≤ z) (h2:z ≤ 1024):0 ≤ Sp.cls z ∧ Sp.cls z ≤ 8:=by
 unfold Sp.cls
 rw [if_neg (by omega)]
 repeat' split
 all_goals exact ⟨by decide,by decide⟩
theorem rof_no (z:Int) (h:z < 1 ∨ 1024 < z) (w:World) :
 Calls Tryz.prog 113 #[.int .i64 z] w fun e w' => e=.returned (.int .i64 (-1)) ∧ w=w':=by
 rcases h with h | h
 ·go_enter Tryz.func113,Tryz.ntmps113
  go_wp2_with fail
  go_ret
  exact ⟨rfl,rfl⟩
 ·have h1:¬(z < 1):=by omega
  have h2:decide (z < 1)=false:=decide_eq_false (by omega)
  go_enter Tryz.func113,Tryz.ntmps113
  go_wp2_with fail
  go_ret
  exact ⟨rfl,rfl⟩
set_option maxHeartbeats 1600000 in
theorem rof_yes (z:Int) (h1:1 ≤ z) (h2:z ≤ 1024) (w:World) :
 Calls Tryz.prog 113 #[.int .i64 z] w fun e w' => e=.returned (.int .i64 (Sp.cls z)) ∧ w=w':=by
 have HW:=Lib.hid (fun c hc => rwords_any c hc w)
 go_enter Tryz.func113,Tryz.ntmps113
 go_wp2_with fail
 go_loopw [3] (fun y W => ∃ c:Nat,y=.int .i64 (c:Int) ∧ c ≤ 8 ∧ (∀ i,i < c → (Sp.cw i:Int) < z) ∧ w=W) (fun y _ => 9 - (intOf y).toNat)
 case atStart => exact ⟨0,rfl,Nat.zero_le _,fun i hi => absurd hi (Nat.not_lt_zero _),rfl⟩
 case round =>
  obtain ⟨c,rfl,hc,hl,rfl⟩:=hrel
  have HL:=Lib.hid hl
  have hc0:(0:Int) ≤ (c:Int):=by omega
  clear hl
  by_cases hc8:c < 8
  ·have hcI:(c:Int) < 8:=by omega
   go_wp2_with fail
   refine (HW.out c hc8).mono ?_
   rintro e w1 ⟨rfl,rfl⟩
   have hcw:=(Sp.cw_le c hc8).2.1
   by_cases hz:(Sp.cw c:Int) < z
   ·have HL2:Hid (∀ i,i < c + 1 → (Sp.cw i:Int) < z):=Lib.hid fun i hi => by
     by_cases e:i=c
     ·rw [e];exact hz
     ·exact HL.out i (by omega)
    generalize Sp.cw c=v at *
    go_wp2_with fail
    exact ⟨⟨c + 1,by go_num,hc8,HL2.out,by first | rfl | trivial⟩,by simp [intOf];omega⟩
   ·have hz':z ≤ (Sp.cw c:Int):=by omega
    have HCL:=Lib.hid (Sp.cls_least h1 h2 (Nat.le_of_lt hc8) HL.out (fun _ => hz'))
    generalize Sp.cw c=v at *
    go_wp2_with fail
    go_ret
    exact ⟨by rw [HCL.out];rfl,rfl⟩
  ·obtain rfl:c=8:=by omega
   have HCL:=Lib.hid (Sp.cls_least h1 h2 (Nat.le_refl _) HL.out (fun h => absurd h (by omega)))
   go_wp2_with fail
   go_ret
   exact ⟨by rw [HCL.out];rfl,rfl⟩
set_option maxHeartbeats 1600000 in
theorem rpages_any (z:Int) (h1:1 ≤ z) (h2:z ≤ 1024) (w:World) :
 Calls Tryz.prog 115 #[.int .i64 z] w fun e w' => e=.returned (.int .i64 (Sp.pgs z)) ∧ w=w':=by
 have HO:=Lib.hid (rof_yes z h1 h2 w)
 have hcl:=Sp.cls_in2 h1 h2
 by_cases h8:Sp.cls z=8
 ·have hp:Sp.pgs z=(z + 63) / 64:=by unfold Sp.pgs;rw [if_pos h8]
  have hz:=Sp.cls_8 h8
  rw [h8] at HO
  obtain ⟨m,hm⟩:∃ m:Nat,Sp.pgs z=(m:Int):=⟨(Sp.pgs z).toNat,by omega⟩
  rw [hm] at hp ⊢
  clear hm hcl h8
  go_enter Tryz.func115,Tryz.ntmps115
  go_wp2_with fail
  refine HO.out.mono ?_
  rintro e w1 ⟨rfl,rfl⟩
  go_wp2_with fail
  go_loopw [3] (fun y W => ∃ n:Nat,y=.int .i64 (n:Int) ∧ n ≤ m ∧ w=W) (fun y _ => m + 1 - (intOf y).toNat)
  case atStart => exact ⟨0,rfl,Nat.zero_le _,rfl⟩
  case round =>
   obtain ⟨n,rfl,hn,rfl⟩:=hrel
   have hn0:(0:Int) ≤ (n:Int):=by omega
   have hnI:(n:Int) ≤ 17:=by omega
   by_cases hnm:n < m
   ·have hlt:(n:Int) * 64 < z:=by omega
    go_wp2_with fail
    exact ⟨⟨n + 1,by go_num,hnm,by first | rfl | trivial⟩,by simp [intOf];omega⟩
   ·obtain rfl:n=m:=by omega
    have hlt:z ≤ (n:Int) * 64:=by omega
    go_wp2_with fail
    go_ret
    exact ⟨rfl,rfl⟩
 ·have hp:Sp.pgs z=0:=by unfold Sp.pgs;rw [if_neg h8]
  have hne:(Sp.cls z != 8)=true:=by simpa using h8
  rw [hp]
  clear hp
  generalize Sp.cls z=c at *
  go_enter Tryz.func115,Tryz.ntmps115
  go_wp2_with fail
  refine HO.out.mono ?_
  rintro e w1 ⟨rfl,rfl⟩
  go_wp2_with fail
  go_ret
  exact ⟨rfl,rfl⟩
set_option maxHeartbeats 1600000 in
theorem rroom_any (z:Int) (h1:1 ≤ z) (h2:z ≤ 1024) (w:World) :
 Calls Tryz.prog 83 #[.int .i64 z] w fun e w' => e=.returned (.int .i64 (Sp.wide z)) ∧ w=w':=by
 have HO:=Lib.hid (rof_yes z h1 h2 w)
 have HP:=Lib.hid (rpages_any z h1 h2 w)
 have hcl:=Sp.cls_in2 h1 h2
 by_cases h8:Sp.cls z=8
 ·have hp:Sp.pgs z=(z + 63) / 64:=by unfold Sp.pgs;rw [if_pos h8]
  have hz:=Sp.cls_8 h8
  have hw:Sp.wide z=Sp.pgs z * 64:=by unfold Sp.wide;rw [if_pos (by omega)]
  rw [hw]
  have hp1:0 < Sp.pgs z:=by omega
  have hp2:Sp.pgs z ≤ 16:=by omega
  generalize Sp.pgs z=m at *
  clear HO hp hcl h8
  go_enter Tryz.func83,Tryz.ntmps83
  go_wp2_with fail
  refine HP.out.mono ?_
  rintro e w1 ⟨rfl,rfl⟩
  go_wp2_with fail
  refine HP.out.mono ?_
  rintro e w1 ⟨rfl,rfl⟩
  go_wp2_with fail
  go_ret
  exact ⟨rfl,rfl⟩
 ·have hp:Sp.pgs z=0:=by unfold Sp.pgs;rw [if_neg h8]
  obtain ⟨c,hc⟩:∃ c:Nat,Sp.cls z=(c:Int):=⟨(Sp.cls z).toNat,by omega⟩
  have hc8:c < 8:=by omega
  have hw:Sp.wide z=(Sp.cw c:Int):=by unfold Sp.wide;rw [if_neg (by omega),hc,Sp.cww_nat c hc8]
  have HW:=Lib.hid (rwords_any c hc8 w)
  rw [hp] at HP
  rw [hc] at HO
  rw [hw]
  clear hp hw hc hcl h8
  generalize Sp.cw c=v at *
  go_enter Tryz.func83,Tryz.ntmps83
  go_wp2_with fail
  refine HP.out.mono ?_
  rintro e w1 ⟨rfl,rfl⟩
  go_wp2_with fail
  refine HO.out.mono ?_
  rintro e w1 ⟨rfl,rfl⟩
  go_wp2_with fail
  refine HW.out.mono ?_
  rintro e w1 ⟨rfl,rfl⟩
  go_wp2_with fail
  go_ret
  exact ⟨rfl,rfl⟩
end Go.Proofs.YtfbcdmhmpfijjaaGreatDoor
namespace Go.Proofs.YtfbcdmhmpfijjaaGreatDoor
open Go Go.RowKit
def St.ff (s:St):Nat:=firstFree s.P s.n s.low
def St.hd0 (s:St) (c:Nat):Int:=Bm.next (s.B (c + 1)) (64 * s.n) 0
def St.open (s:St) (c:Nat):St:=({ s with P:=setPg s.P s.ff ⟨1,c,0⟩,low:=s.ff }:St).cut s.ff c
def St.pick (s:St) (c a:Nat):St × Int × Int × Int :=
 if s.W a=s.link c a then (s.setB (c + 1) (setS (s.B (c + 1)) a false),(a:Int),0,0) else (s,0,21,(a:Int))
def St.runAt (s:St) (m:Nat):Option Nat:=seekRun s.P s.n m s.ff 0
def St.take (s:St) (z:Int):St × Int × Int × Int :=
 if Sp.cls z=8 then
  match s.runAt (Sp.pgs z).toNat with
  | none => ({ s with low:=s.ff },0,20,0)
  | some h => ({ s with P:=runPg s.P h (Sp.pgs z).toNat,low:=s.ff },((h * 64:Nat):Int),0,0)
 else
  if 0 ≤ s.hd0 (Sp.cls z).toNat then s.pick (Sp.cls z).toNat (s.hd0 (Sp.cls z).toNat).toNat
  else if s.ff=s.n then ({ s with low:=s.ff },0,20,0)
  else (s.open (Sp.cls z).toNat).pick (Sp.cls z).toNat (s.ff * 64)
theorem only_new {lo hi:Nat} {w w1:World} {o:Obj} (hs:Only lo hi (w.alloc o) w1) (hh:hi ≤ w.heap.size):w1.heap[w.heap.size]?=some o:=by
 rw [hs.block _ (by simp) (.inr hh)]
 exact heap_alloc_new w o
theorem Sp.cls_in {z:Int} (h1:1 ≤ z) (h2:z ≤ 1024):0 ≤ Sp.cls z ∧ Sp.cls z ≤ 8:=by
 unfold Sp.cls
 rw [if_neg (by omega)]
 repeat' split
 all_goals omega
theorem seekRun_in (P:Nat → Pg) (n m:Nat) (hm:1 ≤ m):∀ (d i g:Nat),n - i ≤ d → g ≤ i → g < m → ∀ h,seekRun P n m i g=some h → h + m ≤ n
 | 0,i,g,hd,hg,hgm,h,e => by
  rw [seekRun,dif_neg (by omega)] at e;cases e
 | d + 1,i,g,hd,hg,hgm,h,e => by
  rw [seekRun] at e
  split at e
  ·split at e
   ·split at e
    ·injection e with e;omega
    ·exact seekRun_in P n m hm d (i + 1) (g + 1) (by omega) (by omega) (by omega) h e
   ·exact seekRun_in P n m hm d (i + 1) 0 (by omega) (by omega) (by omega) h e
  ·cases e
set_option maxHeartbeats 3200000 in
theorem take_run (w:World) (L:Lay) (s:St) (h:SpaceAt w L s) (z:Int) (hz1:1 ≤ z) (hz2:z ≤ 1024) (h8:Sp.cls z=8) (Q:Ending → World → Prop)
 (hQ:∀ w',SpaceAt w' L (s.take z).1 → Only L.lo L.hi w w' → Q (.returned (.tuple #[.int .i64 (s.take z).2.1,faultV (s.take z).2.2.1 (s.take z).2.2.2])) w') :
 Calls Tryz.prog 48 #[.pointer (some ⟨L.sb,0,none⟩),.int .i64 z] w Q:=by
 have HQ:=Lib.hid hQ;clear hQ
 unfold St.take at HQ
 rw [if_pos h8] at HQ
 have hpg:Sp.pgs z=(z + 63) / 64:=by unfold Sp.pgs;rw [if_pos h8]
 obtain ⟨m,hm⟩:∃ m:Nat,Sp.pgs z=(m:Int):=⟨(Sp.pgs z).toNat,by omega⟩
 have hm1:1 ≤ m:=by omega
 have hm2:m ≤ 16:=by omega
 have HO:=Lib.hid (fun w => of_any z w)
 have HP:=Lib.hid (fun w => pages_any z w)
 rw [h8] at HO
 rw [hm] at HP HQ
 rw [Int.toNat_natCast] at HQ
 have hlow:=h.lowle
 have hn2:=h.n2
 have htop:=h.top
 have HT:Hid (∀ w1,SpaceAt w1 L s → ∀ R:Ending → World → Prop,
  (s.runAt m=none → ∀ w',SpaceAt w' L { s with low:=s.ff } → Only L.lo L.hi w1 w' → R (.returned (.tuple #[.int .i64 0,.int .i64 20])) w') →
  (∀ r:Nat,s.runAt m=some r → ∀ w',SpaceAt w' L { s with P:=runPg s.P r m,low:=s.ff } → Only L.lo L.hi w1 w' → R (.returned (.tuple #[.int .i64 (r:Int),.int .i64 0])) w') →
  Calls Tryz.prog 64 #[.pointer (some ⟨L.tb,0,none⟩),.int .i64 (m:Int)] w1 R):=Lib.hid fun w1 h1 R r1 r2 => by
  obtain ⟨free,ht⟩:=h1.table
  have hff:s.ff ≤ s.n:=firstFree_le _ _ _ hlow
  refine takeRun_any _ _ _ _ _ _ _ m _ _ (s.runAt m) w1 ht hlow hm1 hm2 rfl R (fun e w' t o => r1 e w' ?_ (h1.only 2 (by omega) o)) (fun r e w' t o => r2 r e w' ?_ (h1.only 2 (by omega) o))
  ·exact h1.updT o t hff
  ·exact h1.updT o t hff
 have HS0:=Lib.hid (h.alloc (.cells #[.int .i64 0,.int .i64 0] 50))
 have hst:Still w (w.alloc (.cells #[.int .i64 0,.int .i64 0] 50)):=(Only.refl _ _ w).alloc _
 have HST:=Lib.hid (hst.any L.lo L.hi)
 have HNEW:Hid (∀ w1,Only L.lo L.hi (w.alloc (.cells #[.int .i64 0,.int .i64 0] 50)) w1 → w1.heap[w.heap.size]?=some (.cells #[.int .i64 0,.int .i64 0] 50 (0,0))):=Lib.hid fun w1 ho => only_new ho htop
 have HRI:Hid (∀ r,s.runAt m=some r → r + m ≤ s.n):=Lib.hid fun r hr => seekRun_in s.P s.n m hm1 _ _ 0 (Nat.le_refl _) (Nat.zero_le _) (by omega) r hr
 have HTOP:=Lib.hid htop
 have hc1:=HS0.out.c1
 have HZ:w.heap.size < (w.alloc (.cells #[.int .i64 0,.int .i64 0] 50)).heap.size:=by simp
 clear h hst h8 hpg hm htop
 go_enter Tryz.func48,Tryz.ntmps48
 go_wp2_with fail
 generalize w.alloc (.cells #[.int .i64 0,.int .i64 0] 50)=w0 at *
 refine (HO.out _).mono ?_
 rintro e w1 ⟨rfl,hs1⟩
 have H1:=Lib.hid (HS0.out.still hs1)
 have HO1:=Lib.hid (hs1.any L.lo L.hi);clear hs1
 have hc1:=H1.out.c1
 cases hr:s.runAt m with
 | none =>
  have HTN:Hid (∀ w1,SpaceAt w1 L s → Calls Tryz.prog 64 #[.pointer (some ⟨L.tb,0,none⟩),.int .i64 (m:Int)] w1 fun e w' => e=.returned (.tuple #[.int .i64 0,.int .i64 20]) ∧ SpaceAt w' L { s with low:=s.ff } ∧ Only L.lo L.hi w1 w'):=Lib.hid fun w1 h1 =>
   HT.out w1 h1 _ (fun _ w' a b => ⟨rfl,a,b⟩) (fun r e => by rw [hr] at e;cases e)
  rw [hr] at HQ
  dsimp only at HQ
  clear HT HRI hr
  go_wp2_with fail
  go_region_held3 (fun w' => w'.cell? ⟨L.sb,1,none⟩=some (.pointer (some ⟨L.tb,0,none⟩))) (first | exact hc1 | exact hd1 | exact he1)
   (first
     | (go_at_call 65;refine (HP.out _).mono ?_;rintro e w3 ⟨rfl,hs3⟩;have H3:=Lib.hid ((H1.out.drewN 1).still hs3);have HO3:=Lib.hid ((HO1.out.drewN 1).andStill hs3);clear hs3;have hd1:=H3.out.c1)
     | (go_at_call 64;refine (HTN.out _ H3.out).mono ?_;rintro e w4 ⟨rfl,h4,ho4⟩;have H4:=Lib.hid h4;have HO4:=Lib.hid (HO3.out.trans ho4);clear h4 ho4;have he1:=H4.out.c1))
  have hb:=HNEW.out _ HO4.out
  have hlt1:=(Array.getElem?_eq_some_iff.1 hb).1
  have hz0:=cell_of (v:=.int .i64 0) hb 0 rfl
  have hz1:=cell_of (v:=.int .i64 0) hb 1 rfl
  have hf0:=frozen_of hb 0
  have hf1:=frozen_of hb 1
  clear hb
  go_wp2
  refine bodyPost_ret (v:=.tuple #[.int .i64 0,faultV 20 0]) (by simp [results,Tryz.results48,go_sem, *]) rfl (HQ.out _ ((H4.out.setNew HTOP.out 0 _).setNew HTOP.out 1 _) ?_)
  exact ((HST.out.trans HO4.out).setCell (p:=⟨w.heap.size,0,none⟩) (.inr (Nat.le_refl _)) _).setCell (p:=⟨w.heap.size,1,none⟩) (.inr (Nat.le_refl _)) _
 | some r =>
  have HTN:Hid (∀ w1,SpaceAt w1 L s → Calls Tryz.prog 64 #[.pointer (some ⟨L.tb,0,none⟩),.int .i64 (m:Int)] w1 fun e w' => e=.returned (.tuple #[.int .i64 (r:Int),.int .i64 0]) ∧ SpaceAt w' L { s with P:=runPg s.P r m,low:=s.ff } ∧ Only L.lo L.hi w1 w'):=Lib.hid fun w1 h1 =>
   HT.out w1 h1 _ (fun e => by rw [hr] at e;cases e) (fun r' e w' a b => by
    rw [hr] at e
    obtain rfl:r=r':=Option.some.inj e
    exact ⟨rfl,a,b⟩)
  have hrin:=HRI.out r hr
  have hr0:(0:Int) ≤ (r:Int):=by omega
  have hrM:(r:Int) ≤ 4096:=by omega
  rw [hr] at HQ
  dsimp only at HQ
  rw [show ((r * 64:Nat):Int)=(r:Int) * 64 by omega] at HQ
  clear HT HRI hr
  go_wp2_with fail
  go_region_held3 (fun w' => w'.cell? ⟨L.sb,1,none⟩=some (.pointer (some ⟨L.tb,0,none⟩))) (first | exact hc1 | exact hd1 | exact he1)
   (first
     | (go_at_call 65;refine (HP.out _).mono ?_;rintro e w3 ⟨rfl,hs3⟩;have H3:=Lib.hid ((H1.out.drewN 1).still hs3);have HO3:=Lib.hid ((HO1.out.drewN 1).andStill hs3);clear hs3;have hd1:=H3.out.c1)
     | (go_at_call 64;refine (HTN.out _ H3.out).mono ?_;rintro e w4 ⟨rfl,h4,ho4⟩;have H4:=Lib.hid h4;have HO4:=Lib.hid (HO3.out.trans ho4);clear h4 ho4;have he1:=H4.out.c1))
  have hb:=HNEW.out _ HO4.out
  have hlt1:=(Array.getElem?_eq_some_iff.1 hb).1
  have hz0:=cell_of (v:=.int .i64 0) hb 0 rfl
  have hz1:=cell_of (v:=.int .i64 0) hb 1 rfl
  have hf0:=frozen_of hb 0
  have hf1:=frozen_of hb 1
  clear hb
  go_wp2
  refine bodyPost_ret (v:=.tuple #[.int .i64 ((r:Int) * 64),faultV 0 0]) (by simp [results,Tryz.results48,go_sem, *]) rfl (HQ.out _ ((H4.out.setNew HTOP.out 0 _).setNew HTOP.out 1 _) ?_)
  exact ((HST.out.trans HO4.out).setCell (p:=⟨w.heap.size,0,none⟩) (.inr (Nat.le_refl _)) _).setCell (p:=⟨w.heap.size,1,none⟩) (.inr (Nat.le_refl _)) _
end Go.Proofs.YtfbcdmhmpfijjaaGreatDoor
