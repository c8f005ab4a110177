/-
  The walks of (*bitmap.Map).Reset, Copy, All, and of the iterator's own loop.
-/
import Derived.Test.YtfbcdmhmpfijjaaGreatDoorQ01
import Derived.Test.YtfbcdmhmpfijjaaGreatDoorQ02
import Derived.LoopTactic
import Derived.Deep.QuietTactic
import Derived.BigQuiet
import Derived.OwnWalk
import Derived.Lib.SliceRun
import Derived.Deep.RegionHeld3
import Derived.Deep.RegionLaw
set_option linter.unusedVariables false
set_option linter.unusedSimpArgs false
set_option linter.unusedSectionVars false
namespace Go.Proofs.YtfbcdmhmpfijjaaGreatDoor
open Go Go.RowKit
theorem quiet_eq {P:Program} {f:FuncId} {args:Array Value} {w:World} {n:Nat} {v:Value}
 (h:Calls P f args (w.drewN n) fun e w' => e=.returned v ∧ w.drewN n=w'):Calls P f args (w.drewN n) fun e w'' => e=.returned v ∧ ∃ m,w''=w.drewN m :=
 h.mono fun _ _ ⟨he,hm⟩ => ⟨he,n,hm.symm⟩
set_option maxHeartbeats 800000 in
theorem countRange_core (lo hi pb n g cap:Nat) (rows:List Nat) (S:Nat → Bool) (f t t0:Int) (f0:Nat) (w:World) (hm:MapAt w lo hi pb n (.slice (some ⟨g,0,none⟩) ((n + 63) / 64) cap) rows)
 (hS:∀ i,i < n → (rows.getD (i / 64) 0).testBit (i % 64)=S i)
 (hmx:(if f < 0 then (0:Int) else f)=(f0:Int)) (hmn:(if (n:Int) < t then (n:Int) else t)=t0) (hfm:(f0:Int) ≤ 9223372036854775807) (ht0:t0 ≤ (n:Int)) (htm:-9223372036854775808 ≤ t0) :
 Calls Tryz.prog 111 #[.pointer (some ⟨pb,0,none⟩),.int .i64 f,.int .i64 t] w fun e w' => e=.returned (.int .i64 (Bm.count S n f0 t0:Nat)) ∧ ∃ m,w'=w.drewN m:=by
 have hn:=hm.nle
 have hc0:=hm.cell0
 have hc1:=hm.cell1
 have HS:=Lib.hid hS;clear hS
 have HM:=Lib.hid hm;clear hm
 have hf0:(0:Int) ≤ (f0:Int):=by omega
 go_enter Tryz.func111,Tryz.ntmps111
 go_wp2_with fail
 clear hmx hmn
 by_cases hft:(f0:Int) < t0
 ·obtain ⟨t1,ht1⟩:∃ k:Nat,t0=k:=⟨t0.toNat,by omega⟩
  subst ht1
  go_loopw [7,8] (fun c i wr => ∃ k:Nat,f0 / 64 ≤ k ∧ k * 64 < t1 + 64 ∧ i=.int .i64 k ∧ c=.int .i64 ((Bm.cnt (fun i => S i && (decide (f0 ≤ i) && decide (i < t1))) (f0 / 64 * 64) ((k - f0 / 64) * 64):Nat):Int) ∧ ∃ m,wr=w.drewN m) (fun _ i _ => t1 - (intOf i).toNat)
  case atStart => exact ⟨f0 / 64,Nat.le_refl _,by omega,by go_num,by simp [Bm.cnt],0,rfl⟩
  case round =>
   obtain ⟨k,hk1,hk2,rfl,rfl,m,hwm⟩:=hrel
   have hc0:wr.cell? ⟨pb,0,none⟩=some (.int .i64 (n:Int)):=by rw [hwm];exact HM.out.cell0
   have hc1:wr.cell? ⟨pb,1,none⟩=some (.slice (some ⟨g,0,none⟩) ((n + 63) / 64) cap):=by rw [hwm];exact HM.out.cell1
   have hall:∀ a,wr.cell? a=w.cell? a:=fun a => by rw [hwm];rfl
   have HWM:=Lib.hid hwm;clear hwm
   have hk0:(0:Int) ≤ (k:Int):=by omega
   have hcb:=Bm.cnt_le (fun i => S i && (decide (f0 ≤ i) && decide (i < t1))) (f0 / 64 * 64) ((k - f0 / 64) * 64)
   by_cases hlt:k * 64 < t1
   ·have hlt':(k:Int) * 64 < (t1:Int):=by omega
    have hkL':(k:Int) < ((n:Int) + 63) / 64:=by omega
    obtain ⟨g',cap',hv,_,_,_,_,_,hcell,_⟩:=HM.out.slice (by omega)
    injection hv with e1 e2 e3
    injection e1 with e1
    injection e1 with e1
    subst e1;subst e3
    clear e2
    have hck:=(hall _).trans (hcell k (by omega))
    clear hcell
    clear hall
    generalize hC:Bm.cnt (fun i => S i && (decide (f0 ≤ i) && decide (i < t1))) (f0 / 64 * 64) ((k - f0 / 64) * 64)=C at *
    have HC:=Lib.hid hC;clear hC
    have hC':(C:Int) ≤ 300000:=by omega
    have hw:=Bm.word_lt rows k f0 t1
    have hand:bits BinOp.and IntKind.u64 ((rows[k]?.getD 0:Nat):Int) ((Bm.partN k f0 t1:Nat):Int)=((rows.getD k 0 &&& Bm.partN k f0 t1:Nat):Int):=by
     rw [← List.getD_eq_getElem?_getD]
     refine bits_and_u64_nat _ _ ?_ (Bm.partN_lt _ _ _)
     refine HM.out.small _ ?_
     have hL:=HM.out.len
     rw [List.getD_eq_getElem?_getD,List.getElem?_eq_getElem (by omega)]
     exact List.getElem_mem _
    have hpc:=Bm.word_pc rows n S HS.out k f0 t1 (by omega)
    have hpl:=Bm.pc_le (rows.getD k 0 &&& Bm.partN k f0 t1)
    have HPC:=Lib.hid hpc;clear hpc
    generalize hW:rows.getD k 0 &&& Bm.partN k f0 t1=W at *
    have HW:=Lib.hid hW;clear hW
    have hp2:((Bm.pc W:Nat):Int) ≤ 64:=by omega
    go_wp2_with fail
    go_quiet ((first | (go_at_call 127;exact quiet_eq (part_any (k:Int) (f0:Int) (t1:Int) _ (by omega) (by omega) (by omega) (by omega) (by omega) (by omega) (by omega) (by omega))) | (go_at_call 135;exact quiet_eq (ones_any W _ hw))))
    go_wp2
    go_roundw
    case rel =>
     refine ⟨k + 1,by omega,by omega,by go_num,?_,m + nq,?_⟩
     ·rw [show k + 1 - f0 / 64=k - f0 / 64 + 1 by omega,Nat.add_mul,Nat.one_mul,Bm.cnt_add,HC.out,show f0 / 64 * 64 + (k - f0 / 64) * 64=k * 64 by rw [← Nat.add_mul];congr 1;omega,← HPC.out]
      go_num
     ·rw [HWM.out,World.drewN_drewN]
    case measure => simp [intOf];omega
   ·clear hall
    go_wp2
    go_ret
    exact ⟨ret_i64 (by rw [Bm.count_words S n f0 t1 k (by omega) (by omega) hk1]),m,HWM.out⟩
 ·refine wp_loop_rounds 1 ?_
  rw [rounds_succ]
  go_wp2
  go_ret
  refine ⟨ret_i64 ?_,0,rfl⟩
  have:Bm.count S n f0 t0=0:=by
   apply Bm.cnt_zero
   intro i _ _
   by_cases h:(f0:Int) ≤ (i:Int)
   ·have:decide ((i:Int) < t0)=false:=decide_eq_false (by omega)
    rw [this];simp
   ·simp [h]
  rw [this];rfl
set_option maxHeartbeats 400000 in
theorem countRange_zero (pb:Nat) (f t t0:Int) (f0:Nat) (w:World) (hc0:w.cell? ⟨pb,0,none⟩=some (.int .i64 ((0:Nat):Int)))
 (hmx:(if f < 0 then (0:Int) else f)=(f0:Int)) (hmn:(if 0 < t then (0:Int) else t)=t0) (hfm:(f0:Int) ≤ 9223372036854775807) (ht0:t0 ≤ 0) (htm:-9223372036854775808 ≤ t0) :
 Calls Tryz.prog 111 #[.pointer (some ⟨pb,0,none⟩),.int .i64 f,.int .i64 t] w fun e w' => e=.returned (.int .i64 0) ∧ w=w':=by
 have hf0:(0:Int) ≤ (f0:Int):=by omega
 have hft:¬ (f0:Int) < t0:=by omega
 go_enter Tryz.func111,Tryz.ntmps111
 go_wp2_with fail
 clear hmx hmn
 refine wp_loop_rounds 1 ?_
 rw [rounds_succ]
 go_wp2
 go_ret
 exact ⟨rfl,rfl⟩
theorem max_of (f:Int) (hf:f ≤ 9223372036854775807):∃ f0:Nat,(if f < 0 then (0:Int) else f)=(f0:Int) ∧ (f0:Int) ≤ 9223372036854775807 ∧ (f0:Int)=max f 0:=by
 refine ⟨f.toNat,?_,by omega,by omega⟩
 split <;> omega
theorem min_of (n:Nat) (t:Int) (ht:-9223372036854775808 ≤ t):∃ t0:Int,(if (n:Int) < t then (n:Int) else t)=t0 ∧ t0 ≤ (n:Int) ∧ -9223372036854775808 ≤ t0 ∧ t0=min t n :=
 ⟨_,rfl,by split <;> omega,by split <;> omega,by split <;> omega⟩
theorem countRange_any (lo hi n:Nat) (p:Addr) (S:Nat → Bool) (f t:Int) (w:World) (hm:IsMap w lo hi p n S) (hf:f ≤ 9223372036854775807) (ht:-9223372036854775808 ≤ t) :
 Calls Tryz.prog 111 #[.pointer (some p),.int .i64 f,.int .i64 t] w fun e w' => e=.returned (.int .i64 (Bm.count S n f t:Nat)) ∧ ∃ m,w'=w.drewN m:=by
 obtain ⟨pb,v,rows,rfl,hm,hS,hz⟩:=hm
 obtain ⟨f0,h1,h2,h3⟩:=max_of f hf
 obtain ⟨t0,k1,k2,k3,k4⟩:=min_of n t ht
 have hc:Bm.count S n f t=Bm.count S n f0 t0:=by rw [h3,k4,Bm.count_clip]
 by_cases hn:0 < n
 ·obtain ⟨g,cap,rfl,-⟩:=hm.slice hn
  rw [hc]
  exact countRange_core lo hi pb n g cap rows S f t t0 f0 w hm hS h1 k1 h2 k2 k3
 ·obtain rfl:n=0:=by omega
  refine (countRange_zero pb f t t0 f0 w hm.cell0 h1 k1 h2 k2 k3).mono ?_
  rintro e w' ⟨rfl,rfl⟩
  exact ⟨rfl,0,rfl⟩
set_option maxHeartbeats 400000 in
theorem count_any (lo hi n:Nat) (p:Addr) (S:Nat → Bool) (w:World) (hm:IsMap w lo hi p n S) :
 Calls Tryz.prog 66 #[.pointer (some p)] w fun e w' => e=.returned (.int .i64 (Bm.cnt S 0 n:Nat)) ∧ ∃ m,w'=w.drewN m:=by
 have hm2:=hm
 obtain ⟨pb,v,rows,rfl,hm,-⟩:=hm2
 have hc0:=hm.cell0
 have hn:=hm.nle
 clear hm
 have HM:=Lib.hid hm;clear hm
 go_enter Tryz.func66,Tryz.ntmps66
 go_wp2_with fail
 refine (countRange_any lo hi n _ S 0 n _ HM.out (by omega) (by omega)).mono ?_
 rintro e w' ⟨rfl,m,rfl⟩
 go_wp2
 go_ret
 exact ⟨ret_i64 (by rw [Bm.count_all]),m,rfl⟩
set_option maxHeartbeats 400000 in
theorem get_out (lo hi n:Nat) (p:Addr) (S:Nat → Bool) (i:Int) (w:World) (hm:IsMap w lo hi p n S) (hi:i < 0 ∨ (n:Int) ≤ i) :
 Calls Tryz.prog 103 #[.pointer (some p),.int .i64 i] w fun e w' => e=.returned (.bool false) ∧ w=w':=by
 obtain ⟨pb,v,rows,rfl,hm,-⟩:=hm
 have hc0:=hm.cell0
 clear hm
 by_cases h:i < 0
 ·clear hi
  go_enter Tryz.func103,Tryz.ntmps103
  go_wp2
  go_ret
  exact ⟨rfl,rfl⟩
 ·have h0:0 ≤ i:=by omega
  have h1:(n:Int) ≤ i:=by omega
  clear hi h
  go_enter Tryz.func103,Tryz.ntmps103
  go_wp2
  go_ret
  exact ⟨rfl,rfl⟩
theorem get_bit (r k:Nat) (hr:r < 18446744073709551616):(bits BinOp.and IntKind.u64 ((r:Int) / 2 ^ k) 1 == 1)=r.testBit k:=by
 have e:((r:Int) / 2 ^ k)=((r / 2 ^ k:Nat):Int):=by simp
 have h1:r / 2 ^ k < 18446744073709551616:=Nat.lt_of_le_of_lt (Nat.div_le_self _ _) hr
 have h2:=bits_and_u64_nat (r / 2 ^ k) 1 h1 (by omega)
 rw [e]
 rw [show ((1:Nat):Int)=1 from rfl] at h2
 rw [h2,Nat.testBit_eq_decide_div_mod_eq,Nat.and_one_is_mod]
 generalize r / 2 ^ k % 2=z
 by_cases hz:z=1
 ·subst hz;rfl
 ·rw [decide_eq_false hz]
  exact beq_eq_false_iff_ne.2 (by omega)
set_option maxHeartbeats 400000 in
theorem get_core (pb n g cap L:Nat) (r i:Nat) (w:World) (hc0:w.cell? ⟨pb,0,none⟩=some (.int .i64 (n:Int))) (hc1:w.cell? ⟨pb,1,none⟩=some (.slice (some ⟨g,0,none⟩) L cap))
 (hck:w.cell? ⟨g,i / 64,none⟩=some (.int .u64 (r:Int))) (hi0:(0:Int) ≤ (i:Int)) (hi:(i:Int) < (n:Int)) (hiL:(i:Int) / 64 < (L:Int)) (hn:(n:Int) ≤ 262144) (hr:r < 18446744073709551616) :
 Calls Tryz.prog 103 #[.pointer (some ⟨pb,0,none⟩),.int .i64 i] w fun e w' => e=.returned (.bool (r.testBit (i % 64))) ∧ w=w':=by
 go_enter Tryz.func103,Tryz.ntmps103
 go_wp2
 go_ret
 exact ⟨congrArg (fun b => Ending.returned (.bool b)) (get_bit r _ hr),rfl⟩
theorem get_any (lo hi n:Nat) (p:Addr) (S:Nat → Bool) (i:Int) (w:World) (hm:IsMap w lo hi p n S) (b:Bool) (hb:b=(decide (0 ≤ i) && S i.toNat)) :
 Calls Tryz.prog 103 #[.pointer (some p),.int .i64 i] w fun e w' => e=.returned (.bool b) ∧ w=w':=by
 by_cases hio:i < 0 ∨ (n:Int) ≤ i
 ·have:b=false:=by
   subst hb
   by_cases h0:i < 0
   ·rw [decide_eq_false (by omega)];rfl
   ·obtain ⟨pb,v,rows,rfl,hm,hS,hz⟩:=hm
    rw [hz _ (by omega)];simp
  rw [this]
  exact get_out lo hi n p S i w hm hio
 ·obtain ⟨pb,v,rows,rfl,hm,hS,hz⟩:=hm
  obtain ⟨j,rfl⟩:∃ k:Nat,i=k:=⟨i.toNat,by omega⟩
  have hn:=hm.nle
  have hj:j < n:=by omega
  obtain ⟨g,cap,hv,-,-,-,-,-,hcell,-⟩:=hm.slice (by omega)
  subst hv
  refine (get_core pb n g cap ((n + 63) / 64) (rows.getD (j / 64) 0) j w hm.cell0 hm.cell1 (hcell _ (by omega)) (by omega) (by omega) (by omega) (by omega) ?_).mono ?_
  ·refine hm.small _ ?_
   have hL:=hm.len
   rw [List.getD_eq_getElem?_getD,List.getElem?_eq_getElem (by omega)]
   exact List.getElem_mem _
  ·rintro e w' ⟨rfl,rfl⟩
   refine ⟨?_,rfl⟩
   rw [hS j hj,hb]
   simp
set_option maxHeartbeats 800000 in
theorem next_core (lo hi pb n g cap L:Nat) (rows:List Nat) (S:Nat → Bool) (f:Int) (f0:Nat) (w:World) (hm:MapAt w lo hi pb n (.slice (some ⟨g,0,none⟩) L cap) rows)
 (hL:L=(n + 63) / 64) (hS:∀ i,i < n → (rows.getD (i / 64) 0).testBit (i % 64)=S i) (hN:∀ i,n ≤ i → S i=false) (hT:Tab w)
 (hmx:(if f < 0 then (0:Int) else f)=(f0:Int)) (hfn:f0 < n) :
 Calls Tryz.prog 89 #[.pointer (some ⟨pb,0,none⟩),.int .i64 f] w fun e w' => e=.returned (.int .i64 (Bm.next S n f0)) ∧ ∃ m,w'=w.drewN m:=by
 have hn:=hm.nle
 have hc0:=hm.cell0
 have hc1:=hm.cell1
 have hcells:∀ j,j < L → w.cell? ⟨g,j,none⟩=some (.int .u64 ((rows.getD j 0:Nat):Int)):=by
  subst hL
  obtain ⟨g',cap',hv,_,_,_,_,_,hcell,_⟩:=hm.slice (by omega)
  injection hv with e1 e2 e3
  injection e1 with e1
  injection e1 with e1
  subst e1
  exact hcell
 have hlen:rows.length=L:=by rw [hL];exact hm.len
 have hsm:=hm.small
 have hL1:n ≤ L * 64:=by omega
 have hL2:L * 64 < n + 64:=by omega
 clear hm hL
 have HS:=Lib.hid hS;clear hS
 have HT:=Lib.hid hT;clear hT
 have HN:=Lib.hid hN;clear hN
 have HC:=Lib.hid hcells;clear hcells
 have HL:=Lib.hid hlen;clear hlen
 have HM:=Lib.hid hsm;clear hsm
 have hf0:(0:Int) ≤ (f0:Int):=by omega
 have hfn':(f0:Int) < (n:Int):=by omega
 have hfm:(f0:Int) ≤ 262144:=by omega
 go_enter Tryz.func89,Tryz.ntmps89
 go_wp2_with fail
 clear hmx
 go_loopw [5,6] (fun i _ wr => ∃ k:Nat,f0 / 64 ≤ k ∧ k ≤ L ∧ i=.int .i64 k ∧ (∀ i,f0 ≤ i → i < k * 64 → S i=false) ∧ ∃ m,wr=w.drewN m) (fun i _ _ => L - (intOf i).toNat)
 case atStart => exact ⟨f0 / 64,Nat.le_refl _,by omega,by go_num,fun i _ _ => by omega,0,rfl⟩
 case round =>
  obtain ⟨k,hk1,hk2,rfl,hb,m,hwm⟩:=hrel
  have hc0:wr.cell? ⟨pb,0,none⟩=some (.int .i64 (n:Int)):=by rw [hwm];exact hc0
  have hc1:wr.cell? ⟨pb,1,none⟩=some (.slice (some ⟨g,0,none⟩) L cap):=by rw [hwm];exact hc1
  have hall:∀ a,wr.cell? a=w.cell? a:=fun a => by rw [hwm];rfl
  have HWM:=Lib.hid hwm;clear hwm
  have HB:=Lib.hid hb;clear hb
  have hk0:(0:Int) ≤ (k:Int):=by omega
  by_cases hlt:k < L
  ·have hck:=(hall _).trans (HC.out k hlt)
   have hT:Tab wr:=fun j hj => (hall _).trans (HT.out j hj)
   have HT2:=Lib.hid hT;clear hT
   clear hall
   have hlt':(k:Int) < (L:Int):=by omega
   have hw:=Bm.word_lt rows k f0 n
   have hand:bits BinOp.and IntKind.u64 ((rows[k]?.getD 0:Nat):Int) ((Bm.partN k f0 n:Nat):Int)=((rows.getD k 0 &&& Bm.partN k f0 n:Nat):Int):=by
    rw [← List.getD_eq_getElem?_getD]
    refine bits_and_u64_nat _ _ ?_ (Bm.partN_lt _ _ _)
    refine HM.out _ ?_
    have hL:=HL.out
    rw [List.getD_eq_getElem?_getD,List.getElem?_eq_getElem (by omega)]
    exact List.getElem_mem _
   have hwf:=Lib.hid (Bm.word_first rows n S HS.out k f0)
   have hwz:=Lib.hid (Bm.word_zero rows n S HS.out k f0 n (Nat.le_refl _))
   generalize hW:rows.getD k 0 &&& Bm.partN k f0 n=W at *
   have HW:=Lib.hid hW;clear hW
   by_cases hW0:W=0
   ·have hz:=hwz.out hW0
    have HZ:=Lib.hid hz;clear hz
    clear hwf hwz
    subst hW0
    go_wp2_with fail
    go_quiet ((first | (go_at_call 127;exact quiet_eq (part_any (k:Int) (f0:Int) (n:Int) _ (by omega) (by omega) (by omega) (by omega) (by omega) (by omega) (by omega) (by omega)))))
    go_wp2
    go_roundw
    case rel =>
     refine ⟨k + 1,by omega,by omega,by go_num,fun i h1 h2 => ?_,m + nq,by rw [HWM.out,World.drewN_drewN]⟩
     by_cases e:i < k * 64
     ·exact HB.out i h1 e
     ·by_cases e2:i < n
      ·exact HZ.out i (by omega) (by omega) h1 e2
      ·exact HN.out i (by omega)
    case measure => simp [intOf];omega
   ·obtain ⟨hnx,hc64⟩:=hwf.out hW0 HB.out
    have HX:=Lib.hid hnx;clear hnx
    clear hwf hwz
    have hWi:((W:Int) != 0)=true:=by rw [bne_iff_ne];omega
    go_wp2_with fail
    go_quiet ((first | (go_at_call 127;exact quiet_eq (part_any (k:Int) (f0:Int) (n:Int) _ (by omega) (by omega) (by omega) (by omega) (by omega) (by omega) (by omega) (by omega)))))
    have hT3:Tab (wr.drewN nq):=HT2.out
    have HT3:=Lib.hid hT3;clear hT3
    go_wp2_with fail
    refine (tz_any W hw hW0 _ HT3.out).mono ?_
    rintro e w' ⟨rfl,rfl⟩
    have hcI:((Lib.ctz 64 W:Nat):Int) < 64:=by omega
    go_wp2
    go_ret
    refine ⟨ret_i64 ?_,m + nq,by rw [HWM.out,World.drewN_drewN]⟩
    rw [HX.out];omega
  ·clear hall
   have hk:k=L:=by omega
   go_wp2
   go_ret
   refine ⟨ret_i64 ?_,m,HWM.out⟩
   rw [Bm.next_none]
   intro j h1 h2
   exact HB.out j (by omega) (by omega)
theorem next_out (pb n:Nat) (f:Int) (f0:Nat) (w:World) (hc0:w.cell? ⟨pb,0,none⟩=some (.int .i64 (n:Int))) (hmx:(if f < 0 then (0:Int) else f)=(f0:Int)) (hfn:(n:Int) ≤ (f0:Int)) :
 Calls Tryz.prog 89 #[.pointer (some ⟨pb,0,none⟩),.int .i64 f] w fun e w' => e=.returned (.int .i64 (-1)) ∧ w=w':=by
 go_enter Tryz.func89,Tryz.ntmps89
 go_wp2
 go_ret
 exact ⟨rfl,rfl⟩
theorem next_any (lo hi n:Nat) (p:Addr) (S:Nat → Bool) (f:Int) (w:World) (hm:IsMap w lo hi p n S) (hT:Tab w) (hf:f ≤ 9223372036854775807) :
 Calls Tryz.prog 89 #[.pointer (some p),.int .i64 f] w fun e w' => e=.returned (.int .i64 (Bm.next S n f)) ∧ ∃ m,w'=w.drewN m:=by
 obtain ⟨pb,v,rows,rfl,hm,hS,hz⟩:=hm
 obtain ⟨f0,h1,h2,h3⟩:=max_of f hf
 have hcl:Bm.next S n f=Bm.next S n f0:=by rw [h3];exact (Bm.next_clip S n f).symm
 rw [hcl]
 by_cases hn:f0 < n
 ·obtain ⟨g,cap,hv,-⟩:=hm.slice (by omega)
  subst hv
  exact next_core lo hi pb n g cap _ rows S f f0 w hm rfl hS hz hT h1 hn
 ·refine (next_out pb n f f0 w hm.cell0 h1 (by omega)).mono ?_
  rintro e w' ⟨rfl,rfl⟩
  refine ⟨?_,0,rfl⟩
  rw [Bm.next_none]
  intro j hj1 hj2
  omega
end Go.Proofs.YtfbcdmhmpfijjaaGreatDoor
namespace Go.Proofs.YtfbcdmhmpfijjaaGreatDoor
open Go Go.RowKit
def rangeS (S:Nat → Bool) (f t:Int) (b:Bool):Nat → Bool:=fun i => if f ≤ (i:Int) ∧ (i:Int) < t then b else S i
theorem rangeS_true (S:Nat → Bool) (f t:Int):(fun i:Nat => S i || (decide (f ≤ (i:Int)) && decide ((i:Int) < t)))=rangeS S f t true:=by
 funext i
 unfold rangeS
 by_cases h1:f ≤ (i:Int) <;> by_cases h2:(i:Int) < t <;> simp [h1,h2]
theorem rangeS_false (S:Nat → Bool) (f t:Int):(fun i:Nat => S i && !(decide (f ≤ (i:Int)) && decide ((i:Int) < t)))=rangeS S f t false:=by
 funext i
 unfold rangeS
 by_cases h1:f ≤ (i:Int) <;> by_cases h2:(i:Int) < t <;> simp [h1,h2]
theorem setRange_any (lo hi n:Nat) (p:Addr) (S:Nat → Bool) (f t:Int) (w:World) (hm:IsMap w lo hi p n S) (h0:0 ≤ f) (ht:t ≤ (n:Int)) (hft:f ≤ t) :
 Calls Tryz.prog 102 #[.pointer (some p),.int .i64 f,.int .i64 t] w fun e w' => e=.returned (.int .i64 0) ∧ IsMap w' lo hi p n (rangeS S f t true) ∧ Only lo hi w w':=by
 rw [← rangeS_true]
 exact setRange_yes lo hi n p S f t w hm h0 ht hft
theorem clearRange_any (lo hi n:Nat) (p:Addr) (S:Nat → Bool) (f t:Int) (w:World) (hm:IsMap w lo hi p n S) (h0:0 ≤ f) (ht:t ≤ (n:Int)) (hft:f ≤ t) :
 Calls Tryz.prog 131 #[.pointer (some p),.int .i64 f,.int .i64 t] w fun e w' => e=.returned (.int .i64 0) ∧ IsMap w' lo hi p n (rangeS S f t false) ∧ Only lo hi w w':=by
 rw [← rangeS_false]
 exact clearRange_yes lo hi n p S f t w hm h0 ht hft
set_option maxRecDepth 2000 in
set_option maxHeartbeats 400000 in
theorem set_yes (lo hi n:Nat) (p:Addr) (S:Nat → Bool) (i:Int) (w:World) (hm:IsMap w lo hi p n S) (h0:0 ≤ i) (h1:i < (n:Int)) :
 Calls Tryz.prog 52 #[.pointer (some p),.int .i64 i] w fun e w' => e=.returned (.int .i64 0) ∧ IsMap w' lo hi p n (rangeS S i (i + 1) true) ∧ Only lo hi w w':=by
 have hn:(n:Int) ≤ 262144:=by obtain ⟨pb,v,rows,rfl,hm,-⟩:=hm;have:=hm.nle;omega
 have HM:=Lib.hid hm;clear hm
 go_enter Tryz.func52,Tryz.ntmps52
 go_wp2_with fail
 refine (setRange_any lo hi n p S i (i + 1) _ HM.out h0 (by omega) (by omega)).mono ?_
 rintro e w' ⟨rfl,hm',ho'⟩
 go_wp2
 go_ret
 exact ⟨rfl,hm',ho'⟩
set_option maxRecDepth 2000 in
set_option maxHeartbeats 400000 in
theorem clear_yes (lo hi n:Nat) (p:Addr) (S:Nat → Bool) (i:Int) (w:World) (hm:IsMap w lo hi p n S) (h0:0 ≤ i) (h1:i < (n:Int)) :
 Calls Tryz.prog 99 #[.pointer (some p),.int .i64 i] w fun e w' => e=.returned (.int .i64 0) ∧ IsMap w' lo hi p n (rangeS S i (i + 1) false) ∧ Only lo hi w w':=by
 have hn:(n:Int) ≤ 262144:=by obtain ⟨pb,v,rows,rfl,hm,-⟩:=hm;have:=hm.nle;omega
 have HM:=Lib.hid hm;clear hm
 go_enter Tryz.func99,Tryz.ntmps99
 go_wp2_with fail
 refine (clearRange_any lo hi n p S i (i + 1) _ HM.out h0 (by omega) (by omega)).mono ?_
 rintro e w' ⟨rfl,hm',ho'⟩
 go_wp2
 go_ret
 exact ⟨rfl,hm',ho'⟩
/-! ### New -/
theorem Tryz.infoU:(Tryz.prog.info? 139).map (fun i => (i.zero,i.size,i.bytes))=some (some (.int .u64 0),1,8):=by kernel_rfl
theorem made_replicate (z:Value) (n:Nat):madeCells #[z] n=Array.replicate n z:=by
 unfold madeCells
 apply Array.ext
 ·simp
 ·intro i h1 h2
  simp [Nat.mod_one]
theorem mapAt_new (w:World) (n:Nat) (hn:n ≤ 262144) :
 MapAt ((w.alloc (.cells (madeCells #[.int .u64 0] ((n + 63) / 64)) 139)).alloc (.cells #[.int .i64 (n:Int),.slice (some ⟨w.heap.size,0,none⟩) ((n + 63) / 64) ((n + 63) / 64)] 135)) w.heap.size (w.heap.size + 2) (w.heap.size + 1) n
  (.slice (some ⟨w.heap.size,0,none⟩) ((n + 63) / 64) ((n + 63) / 64)) (List.replicate ((n + 63) / 64) 0):=by
 refine ⟨by omega,by omega,by simp,?_,?_,?_,?_,hn⟩
 ·show (Array.push (Array.push w.heap _) _)[w.heap.size + 1]?=_
  rw [Array.getElem?_push,if_pos (by simp)]
 ·refine ⟨by simp,.inr ⟨w.heap.size,(n + 63) / 64,madeCells #[.int .u64 0] ((n + 63) / 64),rfl,Nat.le_refl _,?_,Nat.le_refl _,by unfold maxLen;omega,by rw [size_madeCells];omega,?_⟩⟩
  ·show (Array.push (Array.push w.heap _) _)[w.heap.size]?=_
   rw [Array.getElem?_push,if_neg (by simp),Array.getElem?_push,if_pos rfl]
  ·rw [made_replicate]
   simp
 ·intro g hg
  simp only [Value.ownBlock,Option.some.injEq] at hg
  omega
 ·intro r hr
  have:=List.eq_of_mem_replicate hr
  omega
set_option maxRecDepth 2000 in
set_option maxHeartbeats 400000 in
theorem new_core (n:Nat) (w:World) (hn:(n:Int) ≤ 262144) :
 Calls Tryz.prog 45 #[.int .i64 (n:Int)] w fun e w' => e=.returned (.tuple #[.pointer (some ⟨w.heap.size + 1,0,none⟩),.int .i64 0]) ∧
  w'=(w.alloc (.cells (madeCells #[.int .u64 0] ((n + 63) / 64)) 139)).alloc (.cells #[.int .i64 (n:Int),.slice (some ⟨w.heap.size,0,none⟩) ((n + 63) / 64) ((n + 63) / 64)] 135):=by
 obtain ⟨i0,hi,hz0,hz1,hz2⟩:=info_parts Tryz.infoU
 have hn0:(0:Int) ≤ (n:Int):=by omega
 have hmk:=run_make (P:=Tryz.prog) w 133 139 i0 (.int .u64 0) Tryz.underlying133 hi hz0 .i64 .i64 (((n:Int) + 63) / 64) (((n:Int) + 63) / 64) (by omega) (Int.le_refl _) (by rw [hz2];omega) (by omega)
 rw [hz1,show (((n:Int) + 63) / 64).toNat=(n + 63) / 64 by omega,Nat.mul_one,show (Value.int IntKind.u64 0).cells=#[Value.int IntKind.u64 0] from rfl] at hmk
 clear hi hz0 hz1 hz2
 go_enter Tryz.func45,Tryz.ntmps45
 go_wp2
 go_ret2
 exact ⟨rfl,rfl⟩
theorem isMap_new (w:World) (n:Nat) (hn:n ≤ 262144) :
 IsMap ((w.alloc (.cells (madeCells #[.int .u64 0] ((n + 63) / 64)) 139)).alloc (.cells #[.int .i64 (n:Int),.slice (some ⟨w.heap.size,0,none⟩) ((n + 63) / 64) ((n + 63) / 64)] 135)) w.heap.size (w.heap.size + 2) ⟨w.heap.size + 1,0,none⟩ n (fun _ => false):=by
 refine ⟨_,_,_,rfl,mapAt_new w n hn,fun i hi => ?_,fun i _ => rfl⟩
 rw [List.getD_eq_getElem?_getD]
 have:(List.replicate ((n + 63) / 64) 0)[i / 64]?.getD 0=0:=by
  rw [List.getElem?_replicate];split <;> rfl
 rw [this];simp
theorem new_yes (n:Nat) (w:World) (hn:n ≤ 262144) :
 Calls Tryz.prog 45 #[.int .i64 (n:Int)] w fun e w' => ∃ p,e=.returned (.tuple #[.pointer (some p),.int .i64 0]) ∧ IsMap w' w.heap.size w'.heap.size p n (fun _ => false) ∧ Still w w':=by
 refine (new_core n w (by omega)).mono ?_
 rintro e w' ⟨rfl,rfl⟩
 exact ⟨_,rfl,by have:=isMap_new w n hn;simpa using this,((Only.refl _ _ w).alloc _).alloc _⟩
/-! ### Gap -/
theorem IsMap.drewN {w:World} {lo hi n:Nat} {p:Addr} {S:Nat → Bool} (h:IsMap w lo hi p n S) (m:Nat):IsMap (w.drewN m) lo hi p n S:=by
 obtain ⟨pb,v,rows,hp,hm,hS⟩:=h
 exact ⟨pb,v,rows,hp,⟨hm.plo,hm.phi,hm.top,hm.head,hm.own,hm.apart,hm.small,hm.nle⟩,hS⟩
theorem Tab.only {w w':World} (h:Tab w) {lo hi:Nat} (ho:Only lo hi w w') (hlo:0 < lo):Tab w':=by
 intro j hj
 have hc:=h j hj
 rw [← hc]
 exact ho.cell (by have:=World.block_lt_of_cell? w _ hc;exact this) (.inl hlo)
end Go.Proofs.YtfbcdmhmpfijjaaGreatDoor
namespace Go.Proofs.YtfbcdmhmpfijjaaGreatDoor
open Go Go.RowKit
/-! ### Reset -/
theorem mapAt_clear {lo hi pb n g cap:Nat}:∀ (k o:Nat) (w:World) (rows:List Nat),MapAt w lo hi pb n (.slice (some ⟨g,0,none⟩) ((n + 63) / 64) cap) rows →
 ∃ rows',MapAt (w.setCells g o (List.replicate k (.int .u64 0))) lo hi pb n (.slice (some ⟨g,0,none⟩) ((n + 63) / 64) cap) rows' ∧ ∀ j,rows'.getD j 0=if o ≤ j ∧ j < o + k then 0 else rows.getD j 0
 | 0,o,w,rows,h => ⟨rows,h,fun j => by rw [if_neg (by omega)]⟩
 | k + 1,o,w,rows,h => by
  have h1:=h.set o 0 (by decide)
  obtain ⟨rows',h2,h3⟩:=mapAt_clear k (o + 1) _ _ h1
  refine ⟨rows',h2,fun j => ?_⟩
  rw [h3 j]
  by_cases e:o + 1 ≤ j ∧ j < o + 1 + k
  ·rw [if_pos e,if_pos (by omega)]
  ·rw [if_neg e]
   by_cases e2:j=o
   ·subst e2
    rw [if_pos (by omega),List.getD_eq_getElem?_getD,List.getElem?_set]
    simp only [if_true]
    split <;> rfl
   ·rw [if_neg (by omega),List.getD_eq_getElem?_getD,List.getElem?_set,if_neg (by omega),List.getD_eq_getElem?_getD]
theorem only_setCells {lo hi g:Nat} {a:World} (hg:lo ≤ g ∧ g < hi):∀ (vs:List Value) (o:Nat) (w:World),Only lo hi a w → Only lo hi a (w.setCells g o vs)
 | [],_,_,h => h
 | v :: r,o,_,h => only_setCells hg r (o + 1) _ (h.setCell (.inl hg) v)
set_option maxRecDepth 2000 in
set_option maxHeartbeats 400000 in
theorem reset_core (pb:Nat) (v:Value) (w w1:World) (hc1:w.cell? ⟨pb,1,none⟩=some v)
 (hcl:(Builtin.clear_ #[133] 0 #[v]).run Tryz.prog w=.ok (.tuple #[]) w1) :
 Calls Tryz.prog 138 #[.pointer (some ⟨pb,0,none⟩)] w fun e w' => e=.returned (.tuple #[]) ∧ w'=w1:=by
 go_enter Tryz.func138,Tryz.ntmps138
 go_wp2
 go_end0
 exact ⟨rfl,rfl⟩
theorem reset_any (lo hi n:Nat) (p:Addr) (S:Nat → Bool) (w:World) (hm:IsMap w lo hi p n S) :
 Calls Tryz.prog 138 #[.pointer (some p)] w fun e w' => e=.returned (.tuple #[]) ∧ IsMap w' lo hi p n (fun _ => false) ∧ Only lo hi w w':=by
 obtain ⟨pb,v,rows,rfl,hm,hS,hz⟩:=hm
 by_cases hn:0 < n
 ·obtain ⟨g,cap,hv,hgp,hlg,hgh,hLc,hcm,hcell,hfr⟩:=hm.slice hn
  subst hv
  have hrun:=Lib.run_clear_slice (P:=Tryz.prog) w 133 139 0 (.int .u64 0) Tryz.underlying133 Tryz.zeroValue139 rfl rfl g 0 ((n + 63) / 64) cap (by omega)
   (fun j hj => by rw [Nat.zero_add,hcell j hj];rfl) (fun j _ => by rw [Nat.zero_add];exact hfr j)
  refine (reset_core pb _ w _ hm.cell1 hrun).mono ?_
  rintro e w' ⟨rfl,rfl⟩
  obtain ⟨rows',h1,h2⟩:=mapAt_clear ((n + 63) / 64) 0 w rows hm
  refine ⟨rfl,⟨pb,_,rows',rfl,h1,fun i hi => ?_,fun _ _ => rfl⟩,only_setCells ⟨hlg,hgh⟩ _ _ _ (Only.refl _ _ _)⟩
  rw [h2,if_pos (by omega)];simp
 ·obtain rfl:n=0:=by omega
  have hrun:(Builtin.clear_ #[133] 0 #[v]).run Tryz.prog w=.ok (.tuple #[]) w:=by
   rcases hm.own.2 with ⟨rfl,-⟩ | ⟨g,cap,cur,rfl,-⟩
   ·simp [Builtin.clear_,run_underlying Tryz.underlying133]
   ·simp [Builtin.clear_,run_underlying Tryz.underlying133]
  refine (reset_core pb _ w _ hm.cell1 hrun).mono ?_
  rintro e w' ⟨rfl,rfl⟩
  exact ⟨rfl,⟨pb,v,rows,rfl,hm,fun i hi => by omega,fun _ _ => rfl⟩,Only.refl _ _ _⟩
/-! ### Copy -/
theorem step_append_eq {P:Program} {ops:Array Oper} {o:Oper} {a:Act} {w:World} {K:Act → World → Prop} {Q:Exit → Act → World → Prop} {E:Prop}
 (hg:o.guard=none) (s x:Operand) (t:TypeId) (hop:o.op=Op.call { callee:=Callee.builtin Builtin.append,args:=#[s,x],argTypes:=#[t,t] })
 (sv xv v':Value) (w':World) (hs:a.eval s=sv) (hx:a.eval x=xv) (hrun:(Builtin.append_ #[t,t] o.type #[sv,xv]).run P w=.ok v' w') (hK:K (a.put o.dst v') w') :
 if Region.wanted o (yielded ops a.tmps)=true then Oper.wp P o a w K Q else E:=by
 have hw:Region.wanted o (yielded ops a.tmps)=true:=by simp [Region.wanted,hg]
 rw [if_pos hw]
 unfold Oper.wp
 simp [execOp,hop,resolve,invoke,builtin,hs,hx,hrun,Result.andThen]
 exact hK
/-! ### All -/
set_option maxRecDepth 2000 in
set_option maxHeartbeats 400000 in
theorem all_any (p:Addr) (w:World) :
 Calls Tryz.prog 79 #[.pointer (some p)] w fun e w' => e=.returned (.func (.func 124) #[] #[.pointer (some ⟨w.heap.size,0,none⟩)]) ∧ w'=w.alloc (.cells #[.pointer (some p)] 81):=by
 go_enter Tryz.func79,Tryz.ntmps79
 go_wp2
 go_ret
 exact ⟨rfl,rfl⟩
def itm (n:Nat) (x:Value):Nat:=if intOf x < 0 then 0 else n + 1 - (intOf x).toNat
theorem itm_lt (n i:Nat) (y:Int) (h:i < n) (hy:y=-1 ∨ (i:Int) < y):itm n (.int .i64 y) < itm n (.int .i64 (i:Int)):=by
 unfold itm intOf
 simp only
 rw [if_neg (by omega:¬ (i:Int) < 0)]
 split <;> omega
end Go.Proofs.YtfbcdmhmpfijjaaGreatDoor
