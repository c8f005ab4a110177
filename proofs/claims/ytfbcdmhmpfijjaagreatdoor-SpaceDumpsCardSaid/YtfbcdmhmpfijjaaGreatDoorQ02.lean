/-
  Looking for the least number that is in; counting those in a range; rows of words as sets. Plain; no program is in sight.
-/
import Derived.Test.YtfbcdmhmpfijjaaGreatDoorQ01
import Derived.StillTailTactics
import Derived.LoopTactic
set_option linter.unusedVariables false
set_option linter.unusedSimpArgs false
set_option linter.unusedSectionVars false
namespace Go.Proofs.YtfbcdmhmpfijjaaGreatDoor
open Go Go.RowKit
set_option maxRecDepth 2000 in
set_option maxHeartbeats 400000 in
theorem good_any (pb n:Nat) (f t:Int) (w:World) (h0:w.cell? ⟨pb,0,none⟩=some (.int .i64 (n:Int))) (hf:0 ≤ f) (ht:t ≤ (n:Int)) (hft:f ≤ t) :
 Calls Tryz.prog 132 #[.pointer (some ⟨pb,0,none⟩),.int .i64 f,.int .i64 t] w fun e w' => e=.returned (.bool true) ∧ w=w':=by
 go_enter Tryz.func132,Tryz.ntmps132
 go_wp2
 go_ret
 exact ⟨rfl,rfl⟩
def turnRows (T:Nat → Nat → Nat) (rows:List Nat) (a b:Nat):List Nat:=rows.mapIdx fun j r => if a ≤ j ∧ j < b then T j r else r
theorem turnRows_start (T:Nat → Nat → Nat) (rows:List Nat) (a:Nat):turnRows T rows a a=rows:=by
 unfold turnRows
 apply List.ext_getElem?
 intro j
 rw [List.getElem?_mapIdx]
 cases rows[j]? with
 | none => rfl
 | some r => simp;omega
theorem turnRows_step (T:Nat → Nat → Nat) (rows:List Nat) (a k:Nat) (ha:a ≤ k) (hk:k < rows.length) :
 (turnRows T rows a k).set k (T k ((turnRows T rows a k).getD k 0))=turnRows T rows a (k + 1):=by
 apply List.ext_getElem?
 intro j
 unfold turnRows
 rw [List.getElem?_set,List.getD_eq_getElem?_getD,List.getElem?_mapIdx,List.getElem?_mapIdx,List.getElem?_mapIdx]
 by_cases hj:k=j
 ·subst hj
  simp only [List.length_mapIdx,hk,if_true,List.getElem?_eq_getElem hk,Option.map_some,Option.getD_some]
  rw [if_neg (by omega),if_pos (by omega)]
 ·simp only [hj,if_false]
  cases rows[j]? with
  | none => rfl
  | some r =>
   simp only [Option.map_some]
   by_cases h:a ≤ j ∧ j < k
   ·rw [if_pos h,if_pos (by omega)]
   ·rw [if_neg h,if_neg (by omega)]
theorem turnRows_length (T:Nat → Nat → Nat) (rows:List Nat) (a k:Nat):(turnRows T rows a k).length=rows.length:=by simp [turnRows]
theorem turnRows_getD (T:Nat → Nat → Nat) (rows:List Nat) (a b j:Nat) (hj:j < rows.length):(turnRows T rows a b).getD j 0=if a ≤ j ∧ j < b then T j (rows.getD j 0) else rows.getD j 0:=by
 unfold turnRows
 rw [List.getD_eq_getElem?_getD,List.getD_eq_getElem?_getD,List.getElem?_mapIdx,List.getElem?_eq_getElem hj]
 rfl
def joinT (f t j r:Nat):Nat:=r ||| Bm.partN j f t
def cutT (f t j r:Nat):Nat:=r ^^^ (r &&& Bm.partN j f t)
theorem join_bit (rows:List Nat) (f t b i:Nat) (h:t ≤ b * 64) (hi:i / 64 < rows.length) :
 ((turnRows (joinT f t) rows (f / 64) b).getD (i / 64) 0).testBit (i % 64)=((rows.getD (i / 64) 0).testBit (i % 64) || (decide (f ≤ i) && decide (i < t))):=by
 rw [turnRows_getD _ _ _ _ _ hi]
 have e:i / 64 * 64 + i % 64=i:=by omega
 by_cases hc:f / 64 ≤ i / 64 ∧ i / 64 < b
 ·rw [if_pos hc]
  unfold joinT
  rw [Nat.testBit_or,Bm.partN_bit,e,show decide (i % 64 < 64)=true from decide_eq_true (by omega),Bool.true_and]
 ·rw [if_neg hc]
  have:(decide (f ≤ i) && decide (i < t))=false:=by
   by_cases h1:f ≤ i
   ·have h2:¬ i < t:=by omega
    simp [h2]
   ·simp [h1]
  rw [this,Bool.or_false]
theorem cut_bit (rows:List Nat) (f t b i:Nat) (h:t ≤ b * 64) (hi:i / 64 < rows.length) :
 ((turnRows (cutT f t) rows (f / 64) b).getD (i / 64) 0).testBit (i % 64)=((rows.getD (i / 64) 0).testBit (i % 64) && !(decide (f ≤ i) && decide (i < t))):=by
 rw [turnRows_getD _ _ _ _ _ hi]
 have e:i / 64 * 64 + i % 64=i:=by omega
 by_cases hc:f / 64 ≤ i / 64 ∧ i / 64 < b
 ·rw [if_pos hc]
  unfold cutT
  rw [Bm.andNot_bit,Bm.partN_bit,e,show decide (i % 64 < 64)=true from decide_eq_true (by omega),Bool.true_and]
 ·rw [if_neg hc]
  have:(decide (f ≤ i) && decide (i < t))=false:=by
   by_cases h1:f ≤ i
   ·have h2:¬ i < t:=by omega
    simp [h2]
   ·simp [h1]
  rw [this];simp
set_option maxRecDepth 2000 in
set_option maxHeartbeats 800000 in
theorem setRange_rows (lo hi pb n g cap:Nat) (rows:List Nat) (f t:Nat) (w:World) (hm:MapAt w lo hi pb n (.slice (some ⟨g,0,none⟩) ((n + 63) / 64) cap) rows) (hft:f ≤ t) (ht:t ≤ n) :
 Calls Tryz.prog 102 #[.pointer (some ⟨pb,0,none⟩),.int .i64 (f:Int),.int .i64 (t:Int)] w fun e w' => e=.returned (.int .i64 0) ∧
  ∃ b,t ≤ b * 64 ∧ MapAt w' lo hi pb n (.slice (some ⟨g,0,none⟩) ((n + 63) / 64) cap) (turnRows (joinT f t) rows (f / 64) b) ∧ Only lo hi w w':=by
 have hn:=hm.nle
 have hc0:=hm.cell0
 have hft':(f:Int) ≤ (t:Int):=by omega
 have ht':(t:Int) ≤ (n:Int):=by omega
 have HM:=Lib.hid hm;clear hm
 go_enter Tryz.func102,Tryz.ntmps102
 go_wp2_with fail
 refine (good_any pb n _ _ _ hc0 (by omega) ht' hft').mono ?_
 rintro e w' ⟨rfl,rfl⟩
 go_wp2_with fail
 go_loopw [7] (fun i wr => ∃ k:Nat,f / 64 ≤ k ∧ k * 64 < t + 64 ∧ i=.int .i64 k ∧ MapAt wr lo hi pb n (.slice (some ⟨g,0,none⟩) ((n + 63) / 64) cap) (turnRows (joinT f t) rows (f / 64) k) ∧ Only lo hi w wr) (fun i _ => t - (intOf i).toNat)
 case atStart => exact ⟨f / 64,Nat.le_refl _,by omega,by go_num,by rw [turnRows_start];exact HM.out,Only.refl _ _ _⟩
 case round =>
  obtain ⟨k,hk1,hk2,rfl,hm,ho⟩:=hrel
  by_cases hlt:k * 64 < t
  ·have hlt':(k:Int) * 64 < (t:Int):=by omega
   have hkL:k < (n + 63) / 64:=by omega
   have hkL':(k:Int) < ((n:Int) + 63) / 64:=by omega
   have hk0:(0:Int) ≤ (k:Int):=by omega
   obtain ⟨g',cap',hv,hgp,hlg,hgh,hLc,hcm,hcell,hfr⟩:=hm.slice (by omega)
   injection hv with e1 e2 e3
   injection e1 with e1
   injection e1 with e1
   subst e1;subst e3
   clear e2
   have hc0:=hm.cell0
   have hc1:=hm.cell1
   have hck:=hcell k hkL
   have hfk:=hfr k
   clear hcell hfr
   have HM2:=Lib.hid hm;clear hm
   have HO:=Lib.hid ho;clear ho
   go_wp2_with fail
   go_still_tail 13,(by kernel_rfl)
   still_call ((part_any (k:Int) (f:Int) (t:Int) _ (by omega) (by omega) (by omega) (by omega) (by omega) (by omega) (by omega) (by omega)).mono fun _ _ ⟨h1,h2⟩ => ⟨h1,h2.symm⟩)
   repeat still_step
   refine wpStill_nil ?_
   change wpList _ _ _ _ _ wr.drew
   go_wp2
   go_roundw
   case rel =>
    have hsm:=HM2.out.small
    have hlen:(turnRows (joinT f t) rows (f / 64) k).length=(n + 63) / 64:=HM2.out.len
    have hrk:((turnRows (joinT f t) rows (f / 64) k)[k]?.getD 0)=(turnRows (joinT f t) rows (f / 64) k).getD k 0:=by rw [List.getD_eq_getElem?_getD]
    have hx:(turnRows (joinT f t) rows (f / 64) k).getD k 0 < 18446744073709551616:=by
     refine hsm _ ?_
     rw [List.getD_eq_getElem?_getD,List.getElem?_eq_getElem (by omega)]
     exact List.getElem_mem _
    refine ⟨k + 1,by omega,by omega,by go_num,?_,?_⟩
    ·rw [hrk,bits_or_u64_nat _ _ hx (Bm.partN_lt _ _ _),← turnRows_step (joinT f t) _ _ _ hk1 (by rw [turnRows_length] at hlen;omega)]
     exact (HM2.out.set k _ (Bm.or_lt hx (Bm.partN_lt _ _ _))).drew
    ·exact (HO.out.setCell (.inl ⟨hlg,hgh⟩) _).drew
   case measure => simp [intOf];omega
  ·go_wp2
   go_ret
   exact ⟨rfl,k,by omega,hm,ho⟩
set_option maxRecDepth 2000 in
set_option maxHeartbeats 800000 in
theorem clearRange_rows (lo hi pb n g cap:Nat) (rows:List Nat) (f t:Nat) (w:World) (hm:MapAt w lo hi pb n (.slice (some ⟨g,0,none⟩) ((n + 63) / 64) cap) rows) (hft:f ≤ t) (ht:t ≤ n) :
 Calls Tryz.prog 131 #[.pointer (some ⟨pb,0,none⟩),.int .i64 (f:Int),.int .i64 (t:Int)] w fun e w' => e=.returned (.int .i64 0) ∧
  ∃ b,t ≤ b * 64 ∧ MapAt w' lo hi pb n (.slice (some ⟨g,0,none⟩) ((n + 63) / 64) cap) (turnRows (cutT f t) rows (f / 64) b) ∧ Only lo hi w w':=by
 have hn:=hm.nle
 have hc0:=hm.cell0
 have hft':(f:Int) ≤ (t:Int):=by omega
 have ht':(t:Int) ≤ (n:Int):=by omega
 have HM:=Lib.hid hm;clear hm
 go_enter Tryz.func131,Tryz.ntmps131
 go_wp2_with fail
 refine (good_any pb n _ _ _ hc0 (by omega) ht' hft').mono ?_
 rintro e w' ⟨rfl,rfl⟩
 go_wp2_with fail
 go_loopw [7] (fun i wr => ∃ k:Nat,f / 64 ≤ k ∧ k * 64 < t + 64 ∧ i=.int .i64 k ∧ MapAt wr lo hi pb n (.slice (some ⟨g,0,none⟩) ((n + 63) / 64) cap) (turnRows (cutT f t) rows (f / 64) k) ∧ Only lo hi w wr) (fun i _ => t - (intOf i).toNat)
 case atStart => exact ⟨f / 64,Nat.le_refl _,by omega,by go_num,by rw [turnRows_start];exact HM.out,Only.refl _ _ _⟩
 case round =>
  obtain ⟨k,hk1,hk2,rfl,hm,ho⟩:=hrel
  by_cases hlt:k * 64 < t
  ·have hlt':(k:Int) * 64 < (t:Int):=by omega
   have hkL:k < (n + 63) / 64:=by omega
   have hkL':(k:Int) < ((n:Int) + 63) / 64:=by omega
   have hk0:(0:Int) ≤ (k:Int):=by omega
   obtain ⟨g',cap',hv,hgp,hlg,hgh,hLc,hcm,hcell,hfr⟩:=hm.slice (by omega)
   injection hv with e1 e2 e3
   injection e1 with e1
   injection e1 with e1
   subst e1;subst e3
   clear e2
   have hc0:=hm.cell0
   have hc1:=hm.cell1
   have hck:=hcell k hkL
   have hfk:=hfr k
   clear hcell hfr
   have HM2:=Lib.hid hm;clear hm
   have HO:=Lib.hid ho;clear ho
   go_wp2_with fail
   go_still_tail 13,(by kernel_rfl)
   still_call ((part_any (k:Int) (f:Int) (t:Int) _ (by omega) (by omega) (by omega) (by omega) (by omega) (by omega) (by omega) (by omega)).mono fun _ _ ⟨h1,h2⟩ => ⟨h1,h2.symm⟩)
   repeat still_step
   refine wpStill_nil ?_
   change wpList _ _ _ _ _ wr.drew
   go_wp2
   go_roundw
   case rel =>
    have hsm:=HM2.out.small
    have hlen:(turnRows (cutT f t) rows (f / 64) k).length=(n + 63) / 64:=HM2.out.len
    have hrk:((turnRows (cutT f t) rows (f / 64) k)[k]?.getD 0)=(turnRows (cutT f t) rows (f / 64) k).getD k 0:=by rw [List.getD_eq_getElem?_getD]
    have hx:(turnRows (cutT f t) rows (f / 64) k).getD k 0 < 18446744073709551616:=by
     refine hsm _ ?_
     rw [List.getD_eq_getElem?_getD,List.getElem?_eq_getElem (by omega)]
     exact List.getElem_mem _
    refine ⟨k + 1,by omega,by omega,by go_num,?_,?_⟩
    ·rw [hrk,Bm.bits_andNot_u64_nat _ _ hx (Bm.partN_lt _ _ _),← turnRows_step (cutT f t) _ _ _ hk1 (by rw [turnRows_length] at hlen;omega)]
     exact (HM2.out.set k _ (Bm.andNot_lt hx)).drew
    ·exact (HO.out.setCell (.inl ⟨hlg,hgh⟩) _).drew
   case measure => simp [intOf];omega
  ·go_wp2
   go_ret
   exact ⟨rfl,k,by omega,hm,ho⟩
set_option maxRecDepth 2000 in
set_option maxHeartbeats 400000 in
theorem setRange_zero (pb:Nat) (w:World) (h0:w.cell? ⟨pb,0,none⟩=some (.int .i64 ((0:Nat):Int))) :
 Calls Tryz.prog 102 #[.pointer (some ⟨pb,0,none⟩),.int .i64 0,.int .i64 0] w fun e w' => e=.returned (.int .i64 0) ∧ w=w':=by
 have hb:(0:Int) ≤ ((0:Nat):Int):=by omega
 go_enter Tryz.func102,Tryz.ntmps102
 go_wp2_with fail
 refine (good_any pb 0 0 0 _ h0 (by omega) hb (by omega)).mono ?_
 rintro e w' ⟨rfl,rfl⟩
 go_wp2_with fail
 refine wp_loop_rounds 1 ?_
 rw [rounds_succ]
 go_wp2
 go_ret
 exact ⟨rfl,rfl⟩
theorem setRange_yes (lo hi n:Nat) (p:Addr) (S:Nat → Bool) (f t:Int) (w:World) (hm:IsMap w lo hi p n S) (h0:0 ≤ f) (ht:t ≤ (n:Int)) (hft:f ≤ t) :
 Calls Tryz.prog 102 #[.pointer (some p),.int .i64 f,.int .i64 t] w fun e w' => e=.returned (.int .i64 0) ∧
  IsMap w' lo hi p n (fun i => S i || (decide (f ≤ (i:Int)) && decide ((i:Int) < t))) ∧ Only lo hi w w':=by
 obtain ⟨pb,v,rows,rfl,hm,hS,hz⟩:=hm
 obtain ⟨f,rfl⟩:∃ k:Nat,f=k:=⟨f.toNat,by omega⟩
 obtain ⟨t,rfl⟩:∃ k:Nat,t=k:=⟨t.toNat,by omega⟩
 by_cases hn:0 < n
 ·obtain ⟨g,cap,rfl,-⟩:=hm.slice hn
  refine (setRange_rows lo hi pb n g cap rows f t w hm (by omega) (by omega)).mono ?_
  rintro e w' ⟨rfl,b,hb,hm',ho⟩
  refine ⟨rfl,⟨pb,_,_,rfl,hm',?_,?_⟩,ho⟩
  ·intro i hi2
   rw [join_bit rows f t b i hb (by rw [hm.len];omega),hS i hi2]
   simp
  ·intro i hi2
   have:=hz i hi2
   have h1:decide ((i:Int) < (t:Int))=false:=decide_eq_false (by omega)
   simp only [this,h1];simp
 ·obtain rfl:n=0:=by omega
  obtain rfl:t=0:=by omega
  obtain rfl:f=0:=by omega
  refine (setRange_zero pb w hm.cell0).mono ?_
  rintro e w' ⟨rfl,rfl⟩
  refine ⟨rfl,⟨pb,v,rows,rfl,hm,fun i h => by omega,fun i h => ?_⟩,Only.refl _ _ _⟩
  have:=hz i h
  have h1:decide ((i:Int) < ((0:Nat):Int))=false:=decide_eq_false (by omega)
  simp only [this,h1];simp
set_option maxRecDepth 2000 in
set_option maxHeartbeats 400000 in
theorem clearRange_zero (pb:Nat) (w:World) (h0:w.cell? ⟨pb,0,none⟩=some (.int .i64 ((0:Nat):Int))) :
 Calls Tryz.prog 131 #[.pointer (some ⟨pb,0,none⟩),.int .i64 0,.int .i64 0] w fun e w' => e=.returned (.int .i64 0) ∧ w=w':=by
 have hb:(0:Int) ≤ ((0:Nat):Int):=by omega
 go_enter Tryz.func131,Tryz.ntmps131
 go_wp2_with fail
 refine (good_any pb 0 0 0 _ h0 (by omega) hb (by omega)).mono ?_
 rintro e w' ⟨rfl,rfl⟩
 go_wp2_with fail
 refine wp_loop_rounds 1 ?_
 rw [rounds_succ]
 go_wp2
 go_ret
 exact ⟨rfl,rfl⟩
theorem clearRange_yes (lo hi n:Nat) (p:Addr) (S:Nat → Bool) (f t:Int) (w:World) (hm:IsMap w lo hi p n S) (h0:0 ≤ f) (ht:t ≤ (n:Int)) (hft:f ≤ t) :
 Calls Tryz.prog 131 #[.pointer (some p),.int .i64 f,.int .i64 t] w fun e w' => e=.returned (.int .i64 0) ∧
  IsMap w' lo hi p n (fun i => S i && !(decide (f ≤ (i:Int)) && decide ((i:Int) < t))) ∧ Only lo hi w w':=by
 obtain ⟨pb,v,rows,rfl,hm,hS,hz⟩:=hm
 obtain ⟨f,rfl⟩:∃ k:Nat,f=k:=⟨f.toNat,by omega⟩
 obtain ⟨t,rfl⟩:∃ k:Nat,t=k:=⟨t.toNat,by omega⟩
 by_cases hn:0 < n
 ·obtain ⟨g,cap,rfl,-⟩:=hm.slice hn
  refine (clearRange_rows lo hi pb n g cap rows f t w hm (by omega) (by omega)).mono ?_
  rintro e w' ⟨rfl,b,hb,hm',ho⟩
  refine ⟨rfl,⟨pb,_,_,rfl,hm',?_,?_⟩,ho⟩
  ·intro i hi2
   rw [cut_bit rows f t b i hb (by rw [hm.len];omega),hS i hi2]
   simp
  ·intro i hi2
   have:=hz i hi2
   have h1:decide ((i:Int) < (t:Int))=false:=decide_eq_false (by omega)
   simp only [this,h1];simp
 ·obtain rfl:n=0:=by omega
  obtain rfl:t=0:=by omega
  obtain rfl:f=0:=by omega
  refine (clearRange_zero pb w hm.cell0).mono ?_
  rintro e w' ⟨rfl,rfl⟩
  refine ⟨rfl,⟨pb,v,rows,rfl,hm,fun i h => by omega,fun i h => ?_⟩,Only.refl _ _ _⟩
  have:=hz i h
  have h1:decide ((i:Int) < ((0:Nat):Int))=false:=decide_eq_false (by omega)
  simp only [this,h1];simp
end Go.Proofs.YtfbcdmhmpfijjaaGreatDoor
namespace Go.Proofs.YtfbcdmhmpfijjaaGreatDoor.Bm
def first (S:Nat → Bool) (a:Nat):Nat → Int
 | 0 => -1
 | d + 1 => if S a then (a:Int) else first S (a + 1) d
theorem first_eq {S:Nat → Bool} {a d i:Nat} (h1:a ≤ i) (h2:i < a + d) (hi:S i=true) (hn:∀ j,a ≤ j → j < i → S j=false):first S a d=(i:Int):=by
 induction d generalizing a with
 | zero => omega
 | succ d ih =>
  unfold first
  by_cases e:a=i
  ·subst e;rw [if_pos hi]
  ·have:S a=false:=hn a (Nat.le_refl _) (by omega)
   rw [this]
   exact ih (by omega) (by omega) (fun j hj1 hj2 => hn j (by omega) hj2)
theorem first_none {S:Nat → Bool} {a d:Nat} (hn:∀ j,a ≤ j → j < a + d → S j=false):first S a d=-1:=by
 induction d generalizing a with
 | zero => rfl
 | succ d ih =>
  unfold first
  have:S a=false:=hn a (Nat.le_refl _) (by omega)
  rw [this]
  exact ih (fun j hj1 hj2 => hn j (by omega) (by omega))
theorem first_spec (S:Nat → Bool) (a d:Nat):(first S a d=-1 ∧ ∀ j,a ≤ j → j < a + d → S j=false) ∨
 ∃ i:Nat,first S a d=(i:Int) ∧ a ≤ i ∧ i < a + d ∧ S i=true ∧ ∀ j,a ≤ j → j < i → S j=false:=by
 induction d generalizing a with
 | zero => exact .inl ⟨rfl,fun j _ _ => by omega⟩
 | succ d ih =>
  unfold first
  cases ha:S a with
  | true => exact .inr ⟨a,by simp,Nat.le_refl _,by omega,ha,fun j _ _ => by omega⟩
  | false =>
   rcases ih (a + 1) with ⟨h1,h2⟩ | ⟨i,h1,h2,h3,h4,h5⟩
   ·refine .inl ⟨by simpa using h1,fun j hj1 hj2 => ?_⟩
    by_cases e:j=a
    ·subst e;exact ha
    ·exact h2 j (by omega) (by omega)
   ·refine .inr ⟨i,by simpa using h1,by omega,by omega,h4,fun j hj1 hj2 => ?_⟩
    by_cases e:j=a
    ·subst e;exact ha
    ·exact h5 j (by omega) hj2
def next (S:Nat → Bool) (n:Nat) (from':Int):Int:=first (fun i => S i && decide (from' ≤ (i:Int))) 0 n
def count (S:Nat → Bool) (n:Nat) (f t:Int):Nat:=cnt (fun i => S i && (decide (f ≤ (i:Int)) && decide ((i:Int) < t))) 0 n
theorem next_eq {S:Nat → Bool} {n i:Nat} {f:Int} (h1:f ≤ (i:Int)) (h2:i < n) (hi:S i=true) (hn:∀ j:Nat,f ≤ (j:Int) → j < i → S j=false):next S n f=(i:Int):=by
 refine first_eq (Nat.zero_le _) (by omega) (by simp [hi,h1]) (fun j _ hj => ?_)
 by_cases e:f ≤ (j:Int)
 ·rw [hn j e hj];rfl
 ·simp [e]
theorem next_none {S:Nat → Bool} {n:Nat} {f:Int} (hn:∀ j:Nat,f ≤ (j:Int) → j < n → S j=false):next S n f=-1:=by
 refine first_none (fun j _ hj => ?_)
 by_cases e:f ≤ (j:Int)
 ·rw [hn j e (by omega)];rfl
 ·simp [e]
theorem next_spec (S:Nat → Bool) (n:Nat) (f:Int):(next S n f=-1 ∧ ∀ j:Nat,f ≤ (j:Int) → j < n → S j=false) ∨
 ∃ i:Nat,next S n f=(i:Int) ∧ f ≤ (i:Int) ∧ i < n ∧ S i=true ∧ ∀ j:Nat,f ≤ (j:Int) → j < i → S j=false:=by
 rcases first_spec (fun i => S i && decide (f ≤ (i:Int))) 0 n with ⟨h1,h2⟩ | ⟨i,h1,_,h3,h4,h5⟩
 ·refine .inl ⟨h1,fun j hj hj2 => ?_⟩
  have:=h2 j (Nat.zero_le _) (by omega)
  simpa [hj] using this
 ·simp only [Bool.and_eq_true,decide_eq_true_eq] at h4
  refine .inr ⟨i,h1,h4.2,by omega,h4.1,fun j hj hj2 => ?_⟩
  have:=h5 j (Nat.zero_le _) hj2
  simpa [hj] using this
theorem next_clip (S:Nat → Bool) (n:Nat) (f:Int):next S n (max f 0)=next S n f:=by
 unfold next
 congr 1
 funext i
 have:decide (max f 0 ≤ (i:Int))=decide (f ≤ (i:Int)):=by
  by_cases h:f ≤ (i:Int)
  ·rw [decide_eq_true h,decide_eq_true (by omega)]
  ·rw [decide_eq_false h,decide_eq_false (by omega)]
 rw [this]
theorem count_all (S:Nat → Bool) (n:Nat):count S n 0 n=cnt S 0 n:=by
 unfold count
 apply cnt_congr
 intro i _ h2
 have a:decide ((0:Int) ≤ (i:Int))=true:=decide_eq_true (by omega)
 have b:decide ((i:Int) < (n:Int))=true:=decide_eq_true (by omega)
 rw [a,b];simp
theorem count_clip (S:Nat → Bool) (n:Nat) (f t:Int):count S n (max f 0) (min t n)=count S n f t:=by
 unfold count
 apply cnt_congr
 intro i _ h2
 have a:decide (max f 0 ≤ (i:Int))=decide (f ≤ (i:Int)):=by
  by_cases h:f ≤ (i:Int)
  ·rw [decide_eq_true h,decide_eq_true (by omega)]
  ·rw [decide_eq_false h,decide_eq_false (by omega)]
 have b:decide ((i:Int) < min t n)=decide ((i:Int) < t):=by
  by_cases h:(i:Int) < t
  ·rw [decide_eq_true h,decide_eq_true (by omega)]
  ·rw [decide_eq_false h,decide_eq_false (by omega)]
 rw [a,b]
/-! ### A word's lowest bit -/
theorem ctz_bit (x:Nat) (h0:x ≠ 0) (h:x < 18446744073709551616):Lib.ctz 64 x < 64 ∧ x.testBit (Lib.ctz 64 x)=true ∧ ∀ j,j < Lib.ctz 64 x → x.testBit j=false:=by
 obtain ⟨m,hm,hk⟩:=Lib.ctzFrom_spec 64 x (by omega) h
 have e:Lib.ctz 64 x=Lib.ctzFrom 64 x:=by simp [Lib.ctz,h0]
 rw [e]
 generalize Lib.ctzFrom 64 x=c at *
 subst hm
 refine ⟨hk,?_,fun j hj => ?_⟩
 ·rw [Nat.mul_comm,Nat.testBit_mul_two_pow]
  simp
 ·rw [Nat.mul_comm,Nat.testBit_mul_two_pow]
  simp;omega
/-! ### A row's word under its part -/
theorem word_bit (rows:List Nat) (n:Nat) (S:Nat → Bool) (hS:∀ i,i < n → (rows.getD (i / 64) 0).testBit (i % 64)=S i) (k f t j:Nat) (ht:t ≤ n) (hj:j < 64) :
 (rows.getD k 0 &&& partN k f t).testBit j=(S (j + k * 64) && (decide (f ≤ j + k * 64) && decide (j + k * 64 < t))):=by
 rw [Nat.testBit_and,partN_bit,show decide (j < 64)=true from decide_eq_true hj,Bool.true_and,show k * 64 + j=j + k * 64 by omega]
 by_cases h:j + k * 64 < t
 ·have:=hS (j + k * 64) (by omega)
  rw [show (j + k * 64) / 64=k by omega,show (j + k * 64) % 64=j by omega] at this
  rw [this]
 ·rw [decide_eq_false h];simp
theorem word_pc (rows:List Nat) (n:Nat) (S:Nat → Bool) (hS:∀ i,i < n → (rows.getD (i / 64) 0).testBit (i % 64)=S i) (k f t:Nat) (ht:t ≤ n) :
 pc (rows.getD k 0 &&& partN k f t)=cnt (fun i => S i && (decide (f ≤ i) && decide (i < t))) (k * 64) 64:=by
 unfold pc
 rw [show k * 64=0 + k * 64 by omega,cnt_shift]
 apply cnt_congr
 intro j _ hj
 exact word_bit rows n S hS k f t j ht (by omega)
theorem word_lt (rows:List Nat) (k f t:Nat):rows.getD k 0 &&& partN k f t < 18446744073709551616:=Nat.lt_of_le_of_lt Nat.and_le_right (partN_lt _ _ _)
theorem word_zero (rows:List Nat) (n:Nat) (S:Nat → Bool) (hS:∀ i,i < n → (rows.getD (i / 64) 0).testBit (i % 64)=S i) (k f t:Nat) (ht:t ≤ n)
 (h0:rows.getD k 0 &&& partN k f t=0):∀ i,k * 64 ≤ i → i < k * 64 + 64 → f ≤ i → i < t → S i=false:=by
 intro i h1 h2 h3 h4
 have:=word_bit rows n S hS k f t (i - k * 64) ht (by omega)
 rw [h0,show i - k * 64 + k * 64=i by omega,decide_eq_true h3,decide_eq_true h4] at this
 simpa using this.symm
theorem word_first (rows:List Nat) (n:Nat) (S:Nat → Bool) (hS:∀ i,i < n → (rows.getD (i / 64) 0).testBit (i % 64)=S i) (k f:Nat)
 (h0:rows.getD k 0 &&& partN k f n ≠ 0) (hb:∀ i,f ≤ i → i < k * 64 → S i=false) :
 next S n f=((k * 64 + Lib.ctz 64 (rows.getD k 0 &&& partN k f n):Nat):Int) ∧ Lib.ctz 64 (rows.getD k 0 &&& partN k f n) < 64:=by
 obtain ⟨c1,c2,c3⟩:=ctz_bit _ h0 (word_lt rows k f n)
 generalize hc:Lib.ctz 64 (rows.getD k 0 &&& partN k f n)=c at *
 refine ⟨?_,c1⟩
 have hb1:=word_bit rows n S hS k f n c (Nat.le_refl _) c1
 rw [c2] at hb1
 have hb2:=hb1.symm
 simp only [Bool.and_eq_true,decide_eq_true_eq] at hb2
 obtain ⟨b1,b2,b3⟩:=hb2
 rw [show k * 64 + c=c + k * 64 by omega]
 refine next_eq (by omega) b3 b1 (fun j hj1 hj2 => ?_)
 by_cases e:j < k * 64
 ·exact hb j (by omega) e
 ·have:=word_bit rows n S hS k f n (j - k * 64) (Nat.le_refl _) (by omega)
  rw [c3 _ (by omega),show j - k * 64 + k * 64=j by omega,decide_eq_true (by omega:f ≤ j),decide_eq_true (by omega:j < n)] at this
  simpa using this.symm
theorem count_words (S:Nat → Bool) (n f t b:Nat) (ht:t ≤ n) (hb:t ≤ b * 64) (hfb:f / 64 ≤ b) :
 cnt (fun i => S i && (decide (f ≤ i) && decide (i < t))) (f / 64 * 64) ((b - f / 64) * 64)=count S n f t:=by
 have e0:count S n f t=cnt (fun i => S i && (decide (f ≤ i) && decide (i < t))) 0 n:=by
  unfold count
  apply cnt_congr
  intro i _ _
  have a:decide ((f:Int) ≤ (i:Int))=decide (f ≤ i):=by simp
  have b:decide ((i:Int) < (t:Int))=decide (i < t):=by simp
  rw [a,b]
 rw [e0]
 have z1:cnt (fun i => S i && (decide (f ≤ i) && decide (i < t))) 0 (f / 64 * 64)=0:=by
  apply cnt_zero
  intro i _ h2
  have:decide (f ≤ i)=false:=decide_eq_false (by omega)
  rw [this];simp
 by_cases hc:b * 64 ≤ n
 ·have z2:cnt (fun i => S i && (decide (f ≤ i) && decide (i < t))) (b * 64) (n - b * 64)=0:=by
   apply cnt_zero
   intro i h1 h2
   have:decide (i < t)=false:=decide_eq_false (by omega)
   rw [this];simp
  have e1:=cnt_add (fun i => S i && (decide (f ≤ i) && decide (i < t))) 0 (f / 64 * 64) ((b - f / 64) * 64)
  have e2:=cnt_add (fun i => S i && (decide (f ≤ i) && decide (i < t))) 0 (b * 64) (n - b * 64)
  rw [show f / 64 * 64 + (b - f / 64) * 64=b * 64 by rw [← Nat.add_mul];congr 1;omega,z1] at e1
  rw [Nat.zero_add,z2,show b * 64 + (n - b * 64)=n by omega] at e2
  simp only [Nat.zero_add] at e1
  omega
 ·have z2:cnt (fun i => S i && (decide (f ≤ i) && decide (i < t))) n (b * 64 - n)=0:=by
   apply cnt_zero
   intro i h1 h2
   have:decide (i < t)=false:=decide_eq_false (by omega)
   rw [this];simp
  have e1:=cnt_add (fun i => S i && (decide (f ≤ i) && decide (i < t))) 0 (f / 64 * 64) ((b - f / 64) * 64)
  have e2:=cnt_add (fun i => S i && (decide (f ≤ i) && decide (i < t))) 0 n (b * 64 - n)
  rw [show f / 64 * 64 + (b - f / 64) * 64=b * 64 by rw [← Nat.add_mul];congr 1;omega,z1] at e1
  rw [Nat.zero_add,z2,show n + (b * 64 - n)=b * 64 by omega] at e2
  simp only [Nat.zero_add] at e1
  omega
/-! ### Gaps -/
end Go.Proofs.YtfbcdmhmpfijjaaGreatDoor.Bm
