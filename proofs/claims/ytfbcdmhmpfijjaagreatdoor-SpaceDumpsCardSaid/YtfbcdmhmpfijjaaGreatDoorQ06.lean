/-
  Go maps with keys of the type int as they lie in memory.
-/
import Derived.Test.YtfbcdmhmpfijjaaGreatDoorQ05
import Derived.Lib.SliceRun
import Derived.Maps.OwnSet
set_option linter.unusedVariables false
set_option linter.unusedSimpArgs false
set_option linter.unusedSectionVars false
namespace Go.Proofs.YtfbcdmhmpfijjaaGreatDoor
open Go Go.RowKit
def restPg (P:Nat → Pg) (h m:Nat):Nat → Pg:=fun j => if h ≤ j ∧ j < h + m then ⟨3,0,0⟩ else P j
def runPg (P:Nat → Pg) (h m:Nat):Nat → Pg:=fun j => if j=h then ⟨2,0,m⟩ else if h ≤ j ∧ j < h + m then ⟨3,0,0⟩ else P j
theorem restPg_zero (P:Nat → Pg) (h:Nat):restPg P h 0=P:=by
 funext j;unfold restPg;rw [if_neg (by omega)]
theorem restPg_succ (P:Nat → Pg) (h m:Nat):setPg (restPg P h m) (h + m) ⟨3,0,0⟩=restPg P h (m + 1):=by
 funext j
 unfold setPg restPg
 by_cases hj:j=h + m
 ·rw [if_pos hj,if_pos (by omega)]
 ·rw [if_neg hj]
  by_cases h2:h ≤ j ∧ j < h + m
  ·rw [if_pos h2,if_pos (by omega)]
  ·rw [if_neg h2,if_neg (by omega)]
theorem restPg_head (P:Nat → Pg) (h m:Nat):setPg (restPg P h m) h ⟨2,0,m⟩=runPg P h m:=by
 funext j
 unfold setPg restPg runPg
 rfl
set_option maxHeartbeats 1600000 in
theorem run_any (lo hi tb pg cap n h m:Nat) (P:Nat → Pg) (low free:Int) (w:World) (ht:TableAt w lo hi tb pg cap n P low free) (hm:1 ≤ m) (hn:h + m ≤ n) :
 Calls Tryz.prog 110 #[.pointer (some ⟨tb,0,none⟩),.int .i64 (h:Int),.int .i64 (m:Int)] w fun e w' => e=.returned (.int .i64 (h:Int)) ∧ TableAt w' lo hi tb pg cap n (runPg P h m) low (wrap64 (free - m)) ∧ Only lo hi w w':=by
 have hn2:=ht.n2
 have htg:=ht.tg
 have HT:=Lib.hid ht;clear ht
 have hwf:IntKind.i64.wrap (free - (m:Int))=wrap64 (free - m):=IntWalk.i64_left _
 have hh0:(0:Int) ≤ (h:Int):=by omega
 have hh1:(h:Int) < (n:Int):=by omega
 go_enter Tryz.func110,Tryz.ntmps110
 go_wp2_with fail
 go_loopw [9] (fun y wr => ∃ a:Nat,y=.int .i64 (a:Int) ∧ a ≤ m ∧ TableAt wr lo hi tb pg cap n (restPg P h a) low free ∧ Only lo hi w wr) (fun y _ => 5000 - (intOf y).toNat)
 case atStart => exact ⟨0,rfl,Nat.zero_le _,by rw [restPg_zero];exact HT.out,Only.refl _ _ _⟩
 case round =>
  obtain ⟨a,rfl,ha,hta,ho⟩:=hrel
  have hc0:=hta.c0
  have HTA:=Lib.hid hta;clear hta
  have HO:=Lib.hid ho;clear ho
  have ha0:(0:Int) ≤ (a:Int):=by omega
  by_cases hlt:a < m
  ·have hd:(a:Int) < (m:Int):=by omega
   have hs0:(0:Int) ≤ (h:Int) + (a:Int):=by omega
   have hs3:(h:Int) + (a:Int) < (n:Int):=by omega
   have hk:=HTA.out.pk (h + a) (by omega)
   have hcc:=HTA.out.pc (h + a) (by omega)
   have hr:=HTA.out.pr (h + a) (by omega)
   have hfz:=HTA.out.rf ((h + a) * 3)
   have hfz1:=HTA.out.rf ((h + a) * 3 + 1)
   have hfz2:=HTA.out.rf ((h + a) * 3 + 2)
   go_wp2
   go_roundw
   case rel => exact ⟨a + 1,by go_num,by omega,by
    have:=HTA.out.setPage (h + a) (by omega) ⟨3,0,0⟩
    rw [restPg_succ] at this
    exact this,(((HO.out.setCell (p:=⟨pg,(h + a) * 3,none⟩) (.inl ⟨HTA.out.glo,HTA.out.ghi⟩) (.int .i64 3)).setCell (p:=⟨pg,(h + a) * 3 + 1,none⟩) (.inl ⟨HTA.out.glo,HTA.out.ghi⟩) (.int .i64 0)).setCell (p:=⟨pg,(h + a) * 3 + 2,none⟩) (.inl ⟨HTA.out.glo,HTA.out.ghi⟩) (.int .i64 0))⟩
   case measure => simp [intOf];omega
  ·obtain rfl:a=m:=by omega
   have hk:=HTA.out.pk h (by omega)
   have hcc:=HTA.out.pc h (by omega)
   have hr:=HTA.out.pr h (by omega)
   have hfz:=HTA.out.rf (h * 3)
   have hfz1:=HTA.out.rf (h * 3 + 1)
   have hfz2:=HTA.out.rf (h * 3 + 2)
   have ht3:=HTA.out.setPage h (by omega) ⟨2,0,a⟩
   rw [restPg_head] at ht3
   have ho3:=(((HO.out.setCell (p:=⟨pg,h * 3,none⟩) (.inl ⟨HTA.out.glo,HTA.out.ghi⟩) (.int .i64 2)).setCell (p:=⟨pg,h * 3 + 1,none⟩) (.inl ⟨HTA.out.glo,HTA.out.ghi⟩) (.int .i64 0)).setCell (p:=⟨pg,h * 3 + 2,none⟩) (.inl ⟨HTA.out.glo,HTA.out.ghi⟩) (.int .i64 (a:Int)))
   dsimp only at ht3
   have hc2:=ht3.c2
   have hfz:=ht3.f 2
   have ht4:=ht3.setFree (wrap64 (free - a))
   have ho4:=(ho3.setCell (p:=⟨tb,2,none⟩) (.inl ⟨HTA.out.tlo,HTA.out.thi⟩) (.int .i64 (wrap64 (free - a))))
   have HT4:=Lib.hid ht4;have HO4:=Lib.hid ho4
   clear ht3 ho3 ht4 ho4
   go_wp2
   go_ret
   exact ⟨rfl,HT4.out,HO4.out⟩
end Go.Proofs.YtfbcdmhmpfijjaaGreatDoor
namespace Go.Proofs.YtfbcdmhmpfijjaaGreatDoor
open Go Go.RowKit
def seekRun (P:Nat → Pg) (n m i g:Nat):Option Nat :=
 if h:i < n then (if (P i).free then (if g + 1=m then some (i + 1 - m) else seekRun P n m (i + 1) (g + 1)) else seekRun P n m (i + 1) 0) else none
 termination_by n - i
set_option maxHeartbeats 3200000 in
theorem takeRun_any (lo hi tb pg cap n l m:Nat) (P:Nat → Pg) (free:Int) (r:Option Nat) (w:World) (ht:TableAt w lo hi tb pg cap n P (l:Int) free) (hl:l ≤ n) (hm:1 ≤ m) (hm2:m ≤ 16)
 (hr:seekRun P n m (firstFree P n l) 0=r) (Q:Ending → World → Prop)
 (hno:r=none → ∀ w',TableAt w' lo hi tb pg cap n P (firstFree P n l:Nat) free → Only lo hi w w' → Q (.returned (.tuple #[.int .i64 0,.int .i64 20])) w')
 (hyes:∀ h:Nat,r=some h → ∀ w',TableAt w' lo hi tb pg cap n (runPg P h m) (firstFree P n l:Nat) (wrap64 (free - m)) → Only lo hi w w' → Q (.returned (.tuple #[.int .i64 (h:Int),.int .i64 0])) w') :
 Calls Tryz.prog 64 #[.pointer (some ⟨tb,0,none⟩),.int .i64 (m:Int)] w Q:=by
 have HT:=Lib.hid ht;clear ht
 have HN:=Lib.hid hno;clear hno
 have HY:=Lib.hid hyes;clear hyes
 have hn2:=HT.out.n2
 have hd1:decide ((m:Int) < 1)=false:=decide_eq_false (by omega)
 have hd2:decide ((16:Int) < (m:Int))=false:=decide_eq_false (by omega)
 have hff:=firstFree_le P n l hl
 generalize hfi:firstFree P n l=f at *
 have HF:=Lib.hid hfi;clear hfi
 have HR:=Lib.hid hr;clear hr
 go_enter Tryz.func64,Tryz.ntmps64
 go_wp2_with fail
 refine (rise_any lo hi tb pg cap n l P free _ HT.out hl).mono ?_
 rintro e w2 ⟨rfl,ht2,ho2⟩
 rw [HF.out] at ht2
 have hc0:=ht2.c0
 have hc1:=ht2.c1
 have HT2:=Lib.hid ht2;have HO:=Lib.hid ho2
 clear ht2 ho2
 go_wp2_with fail
 go_loopw [6,7] (fun x y wr => ∃ g i:Nat,x=.int .i64 (g:Int) ∧ y=.int .i64 (i:Int) ∧ i ≤ n ∧ g < m ∧ g ≤ i ∧ seekRun P n m i g=r ∧ wr=w2) (fun _ y _ => 5000 - (intOf y).toNat)
 case atStart => exact ⟨0,f,rfl,rfl,hff,by omega,Nat.zero_le _,HR.out,rfl⟩
 case round =>
  obtain ⟨g,i,rfl,rfl,hi1,hg1,hg2,hsr,rfl⟩:=hrel
  have HS:=Lib.hid hsr;clear hsr
  by_cases hlt:i < n
  ·have hil:(i:Int) < (n:Int):=by omega
   by_cases hfr:(P i).free=true
   ·have HFR:Hid (∀ w,wr=w → Calls Tryz.prog 109 #[.pointer (some ⟨tb,0,none⟩),.int .i64 (i:Int)] w fun e w' => e=.returned (.bool true) ∧ w=w'):=Lib.hid fun w hw => by
     subst hw
     have:=isFree_any lo hi tb pg cap n i P _ free _ HT2.out hlt
     rwa [hfr] at this
    by_cases hgm:g + 1=m
    ·have hret:r=some (i + 1 - m):=by rw [← HS.out,seekRun,dif_pos hlt,if_pos hfr,if_pos hgm]
     have HRT:=Lib.hid hret;clear hret hfr
     have hb:((g:Int) + 1 == (m:Int))=true:=by rw [beq_iff_eq];omega
     go_wp2_with fail
     refine (HFR.out _ rfl).mono ?_
     rintro e w3 ⟨rfl,rfl⟩
     go_wp2_with fail
     refine (by rw [show (i:Int) - (m:Int) + 1=((i + 1 - m:Nat):Int) by omega];exact run_any lo hi tb pg cap n (i + 1 - m) m P _ free _ HT2.out hm (by omega):Calls Tryz.prog 110 #[.pointer (some ⟨tb,0,none⟩),.int .i64 ((i:Int) - (m:Int) + 1),.int .i64 (m:Int)] wr _).mono ?_
     rintro e w3 ⟨rfl,ht3,ho3⟩
     have HT3:=Lib.hid ht3;have HO3:=Lib.hid (HO.out.trans ho3)
     clear ht3 ho3
     go_wp2
     exact HY.out _ HRT.out _ HT3.out HO3.out
    ·have hret:seekRun P n m (i + 1) (g + 1)=r:=by rw [← HS.out];rw [seekRun.eq_def P n m i g,dif_pos hlt,if_pos hfr,if_neg hgm]
     have HRT:=Lib.hid hret;clear hret hfr
     have hb:((g:Int) + 1 == (m:Int))=false:=by rw [beq_eq_false_iff_ne];omega
     go_wp2_with fail
     refine (HFR.out _ rfl).mono ?_
     rintro e w3 ⟨rfl,rfl⟩
     go_wp2
     go_roundw
     case rel => exact ⟨g + 1,i + 1,by go_num,by go_num,by omega,by omega,by omega,HRT.out,by first | rfl | trivial⟩
     case measure => simp [intOf];omega
   ·have hff:(P i).free=false:=by simpa using hfr
    have HFR:Hid (∀ w,wr=w → Calls Tryz.prog 109 #[.pointer (some ⟨tb,0,none⟩),.int .i64 (i:Int)] w fun e w' => e=.returned (.bool false) ∧ w=w'):=Lib.hid fun w hw => by
     subst hw
     have:=isFree_any lo hi tb pg cap n i P _ free _ HT2.out hlt
     rwa [hff] at this
    have hret:seekRun P n m (i + 1) 0=r:=by rw [← HS.out];rw [seekRun.eq_def P n m i g,dif_pos hlt,if_neg hfr]
    have HRT:=Lib.hid hret;clear hret hfr hff
    go_wp2_with fail
    refine (HFR.out _ rfl).mono ?_
    rintro e w3 ⟨rfl,rfl⟩
    go_wp2
    go_roundw
    case rel => exact ⟨0,i + 1,rfl,by go_num,by omega,by omega,by omega,HRT.out,by first | rfl | trivial⟩
    case measure => simp [intOf];omega
  ·obtain rfl:i=n:=by omega
   have hret:r=none:=by rw [← HS.out,seekRun,dif_neg hlt]
   have HRT:=Lib.hid hret;clear hret
   go_wp2
   exact HN.out HRT.out _ HT2.out HO.out
end Go.Proofs.YtfbcdmhmpfijjaaGreatDoor
namespace Go.Proofs.YtfbcdmhmpfijjaaGreatDoor
open Go Go.RowKit
def clrPg (P:Nat → Pg) (i k:Nat):Nat → Pg:=fun j => if i ≤ j ∧ j < i + k then ⟨0,0,0⟩ else P j
theorem clrPg_zero (P:Nat → Pg) (i:Nat):clrPg P i 0=P:=by funext j;unfold clrPg;rw [if_neg (by omega)]
theorem clrPg_succ (P:Nat → Pg) (i k:Nat):clrPg (setPg P i ⟨0,0,0⟩) (i + 1) k=clrPg P i (k + 1):=by
 funext j
 unfold clrPg setPg
 by_cases hj:j=i
 ·rw [if_neg (by omega),if_pos hj,if_pos (by omega)]
 ·by_cases h:i + 1 ≤ j ∧ j < i + 1 + k
  ·rw [if_pos h,if_pos (by omega)]
  ·rw [if_neg h,if_neg hj,if_neg (by omega)]
abbrev z64:Value:=.int .i64 0
theorem rep3 (k:Nat):List.replicate (3 * (k + 1)) z64=z64 :: z64 :: z64 :: List.replicate (3 * k) z64:=by
 rw [show 3 * (k + 1)=3 * k + 1 + 1 + 1 by omega]
 simp [List.replicate_succ]
theorem TableAt.clear {lo hi tb pg cap n:Nat} {low free:Int}:∀ (k i:Nat) {w:World} {P:Nat → Pg},TableAt w lo hi tb pg cap n P low free → i + k ≤ n →
 TableAt (w.setCells pg (i * 3) (List.replicate (3 * k) z64)) lo hi tb pg cap n (clrPg P i k) low free
 | 0,i,w,P,h,_ => by rw [clrPg_zero];exact h
 | k + 1,i,w,P,h,hk => by
  rw [rep3]
  simp only [World.setCells]
  have:=TableAt.clear k (i + 1) (h.setPage i (by omega) ⟨0,0,0⟩) (by omega)
  rw [clrPg_succ,show (i + 1) * 3=i * 3 + 1 + 1 + 1 by omega] at this
  exact this
theorem zero3 (k:Nat):(Builtin.zeroCells (Value.agg #[.int .i64 0,.int .i64 0,.int .i64 0]).cells k).toList=List.replicate (3 * k) z64:=by
 rw [show (Value.agg #[.int .i64 0,.int .i64 0,.int .i64 0]).cells=#[z64,z64,z64] from rfl]
 apply List.ext_getElem
 ·simp [Builtin.zeroCells];omega
 ·intro i h1 h2
  have h3:i % 3=0 ∨ i % 3=1 ∨ i % 3=2:=by omega
  simp [Builtin.zeroCells]
  rcases h3 with h | h | h <;> simp [h]
theorem run_clear3 (w:World) (b o k c:Nat) (hk:0 < k) (hc:∀ j,j < 3 * k → (w.cell? ⟨b,o + j,none⟩).isSome=true) (hf:∀ j,j < 3 * k → w.frozen? ⟨b,o + j,none⟩=false) :
 (Builtin.clear_ #[70] 0 #[.slice (some ⟨b,o,none⟩) k c]).run Tryz.prog w=.ok (.tuple #[]) (w.setCells b o (List.replicate (3 * k) z64)):=by
 have hst:=run_storeCells_cells (P:=Tryz.prog) b o (List.replicate (3 * k) z64) 0 w (by simpa using hc) (by simpa using hf) (by intro v hv';rw [List.eq_of_mem_replicate hv'];rfl)
 simp only [Nat.add_zero] at hst
 obtain ⟨m,rfl⟩:∃ m,k=m + 1:=⟨k - 1,by omega⟩
 simp [Builtin.clear_,run_underlying Tryz.underlying70,zero3,hst]
theorem TableAt.cellsome {w:World} {lo hi tb pg cap n:Nat} {P:Nat → Pg} {low free:Int} (h:TableAt w lo hi tb pg cap n P low free) (j:Nat) (hj:j < 3 * n):(w.cell? ⟨pg,j,none⟩).isSome=true:=by
 obtain ⟨r,hrow⟩:=h.row
 simp only [World.cell?,hrow]
 rw [app_at _ _ _ (by rw [pgCells_size];omega),pgCells_at P n j hj]
 rfl
set_option maxHeartbeats 1600000 in
theorem give_any (lo hi tb pg cap n i r l:Nat) (P:Nat → Pg) (free:Int) (w:World) (ht:TableAt w lo hi tb pg cap n P (l:Int) free) (hi':i < n) (hf:(P i).free=false) (hk:(P i).k ≠ 3) (hr:(P i).r=(r:Int)) (hir:i + max 1 r ≤ n) :
 Calls Tryz.prog 146 #[.pointer (some ⟨tb,0,none⟩),.int .i64 (i:Int)] w fun e w' => e=.returned (.int .i64 0) ∧ (∃ free',TableAt w' lo hi tb pg cap n (clrPg P i (max 1 r)) (min l i:Nat) free') ∧ Only lo hi w w':=by
 have hn2:=ht.n2
 have hcM:=ht.capM
 unfold maxLen at hcM
 have hnc:=ht.ncap
 have HFR:=Lib.hid (isFree_any lo hi tb pg cap n i P _ free w ht hi')
 have hc0:=ht.c0
 have hck:=ht.pk i hi'
 have hcr:=ht.pr i hi'
 obtain ⟨m,hm,hm1⟩:∃ m:Nat,max 1 r=m ∧ 1 ≤ m:=⟨max 1 r,rfl,by omega⟩
 have hmx:(if (1:Int) < (r:Int) then (r:Int) else 1)=(m:Int):=by omega
 have hcl:=fun c => run_clear3 w pg (i * 3) m c (by omega) (fun j hj => ht.cellsome _ (by omega)) (fun j _ => ht.rf _)
 have ht2:=ht.clear m i (by omega)
 have ho2:Only lo hi w (w.setCells pg (i * 3) (List.replicate (3 * m) z64)):=only_setCells ⟨ht.glo,ht.ghi⟩ _ _ _ (Only.refl _ _ _)
 rw [hm] at hir ⊢
 generalize hw2:w.setCells pg (i * 3) (List.replicate (3 * m) z64)=w2 at *
 have HT2:=Lib.hid ht2;have HO2:=Lib.hid ho2
 rw [hf] at HFR
 rw [hr] at hcr
 have hb:((P i).k == 3)=false:=beq_eq_false_iff_ne.2 hk
 generalize (P i).k=kk at *
 have hd1:decide ((i:Int) < 0)=false:=decide_eq_false (by omega)
 have hd2:decide ((n:Int) ≤ (i:Int))=false:=decide_eq_false (by omega)
 have hi0:(0:Int) ≤ (i:Int):=by omega
 have hi1:(i:Int) < (n:Int):=by omega
 have hm0:(0:Int) ≤ (m:Int):=by omega
 have him:(i:Int) + (m:Int) ≤ (n:Int):=by omega
 have d0:=ht2.c0
 have d1:=ht2.c1
 have d2:=ht2.c2
 have df:=ht2.f 2
 have df1:=ht2.f 1
 clear ht ht2 ho2 hf hk hr hm hw2
 go_enter Tryz.func146,Tryz.ntmps146
 go_wp2_with fail
 refine HFR.out.mono ?_
 rintro e w3 ⟨rfl,rfl⟩
 go_wp2
 all_goals
  go_ret
  exact ⟨rfl,⟨_,by
   have:=(HT2.out.setFree (wrap64 (free + m))).setLow (min l i:Nat)
   first
    | (rw [show min l i=l by omega] at this ⊢;exact this)
    | (rw [show min l i=i by omega] at this ⊢;exact this)⟩,(HO2.out.setCell (p:=⟨tb,2,none⟩) (.inl ⟨HT2.out.tlo,HT2.out.thi⟩) _).setCell (p:=⟨tb,1,none⟩) (.inl ⟨HT2.out.tlo,HT2.out.thi⟩) _⟩
set_option maxHeartbeats 1600000 in
theorem state_any (lo hi tb pg cap n i:Nat) (P:Nat → Pg) (low free:Int) (w:World) (ht:TableAt w lo hi tb pg cap n P low free) (hi':i < n) :
 Calls Tryz.prog 147 #[.pointer (some ⟨tb,0,none⟩),.int .i64 (i:Int)] w fun e w' => e=.returned (.tuple #[.agg #[.int .i64 (P i).k,.int .i64 (P i).c,.int .i64 (P i).r],.bool true]) ∧ Still w w':=by
 have hc0:=ht.c0
 have hk:=ht.pk i hi'
 have hc:=ht.pc i hi'
 have hr:=ht.pr i hi'
 have htg:pg < w.heap.size:=Nat.lt_of_lt_of_le ht.ghi ht.top
 have htb:tb < w.heap.size:=Nat.lt_of_lt_of_le ht.thi ht.top
 have hd1:decide ((i:Int) < 0)=false:=decide_eq_false (by omega)
 have hd2:decide ((n:Int) ≤ (i:Int))=false:=decide_eq_false (by omega)
 have hi0:(0:Int) ≤ (i:Int):=by omega
 have hi1:(i:Int) < (n:Int):=by omega
 generalize (P i).k=kk at *
 generalize (P i).c=cc at *
 generalize (P i).r=rr at *
 clear ht
 go_enter Tryz.func147,Tryz.ntmps147
 go_wp2
 exact bodyPost_ret (v:=.tuple #[.agg #[.int .i64 kk,.int .i64 cc,.int .i64 rr],.bool true]) (by simp [results,Tryz.results147,go_sem]) rfl ⟨rfl,(Only.refl _ _ w).alloc _⟩
end Go.Proofs.YtfbcdmhmpfijjaaGreatDoor
namespace Go.Proofs.YtfbcdmhmpfijjaaGreatDoor
open Go Go.RowKit
theorem run_pages_copy (w:World) (pg cap n:Nat) (P:Nat → Pg) (hn:1 ≤ n) (hn2:n ≤ 4096) (hrow:∃ r,w.heap[pg]?=some (.cells (pgCells P n ++ r) 146 (0,0))) :
 ∃ cap' r,(Builtin.append_ #[70,70] 70 #[.slice none 0 0,.slice (some ⟨pg,0,none⟩) n cap]).run Tryz.prog w =
  .ok (.slice (some ⟨w.heap.size,0,none⟩) n cap') (w.drew.alloc (.cells (pgCells P n ++ r) 146)) ∧ n ≤ cap' ∧ cap' ≤ maxLen ∧ r.size=(cap' - n) * 3:=by
 obtain ⟨r,hrow⟩:=hrow
 obtain ⟨i0,hi,hz0,hz1,hz2⟩:=info_parts Tryz.infoPg
 have hl:(pgCells P n).toList.length=n * i0.size:=by rw [hz1,Array.length_toList,pgCells_size];omega
 have:=run_append_nil (P:=Tryz.prog) w 70 70 146 i0 _ Tryz.underlying70 hi hz0 ⟨pg,0,none⟩ n cap (pgCells P n).toList hl (fun j u hu => by
  have hj:j < (pgCells P n).size:=by
   have:=(List.getElem?_eq_some_iff.1 hu).1;simpa using this
  have e:(⟨pg,0,none⟩:Addr).add j=⟨pg,j,none⟩:=by unfold Addr.add;split <;> simp_all
  rw [e]
  simp only [World.cell?,hrow]
  rw [app_at _ _ _ hj]
  simpa using hu) hn (by omega) (by rw [hz2];omega)
 exact ⟨_,_,this,grownCap_ge _ _ _ _,grownCap_le_maxLen _ _ _ _ (by unfold maxLen;omega),size_zeroCells _ _⟩
theorem wpList_append_eq {P:Program} {w:World} {ops:Array Oper} {rest:List Oper} {o:Oper} {a:Act} {Q:Exit → Act → World → Prop}
 (hg:o.guard=none) (s x:Operand) (t:TypeId) (hop:o.op=Op.call { callee:=Callee.builtin Builtin.append,args:=#[s,x],argTypes:=#[t,t] })
 (sv xv v':Value) (w':World) (hs:a.eval s=sv) (hx:a.eval x=xv) (hrun:(Builtin.append_ #[t,t] o.type #[sv,xv]).run P w=.ok v' w') (hK:wpList P ops Q rest (a.put o.dst v') w') :
 wpList P ops Q (o :: rest) a w :=
 wpList_plain hg fun K hK' => by
  unfold Oper.wp
  simp [execOp,hop,resolve,invoke,builtin,hs,hx,hrun,Result.andThen]
  exact hK' _ _ hK
set_option maxHeartbeats 800000 in
theorem tall_any (lo hi tb pg cap n:Nat) (P:Nat → Pg) (low free:Int) (w:World) (ht:TableAt w lo hi tb pg cap n P low free) (Q:Ending → World → Prop)
 (hQ:∀ cap' r,n ≤ cap' → cap' ≤ maxLen → r.size=(cap' - n) * 3 → Q (.returned (.slice (some ⟨w.heap.size,0,none⟩) n cap')) (w.drew.alloc (.cells (pgCells P n ++ r) 146))) :
 Calls Tryz.prog 88 #[.pointer (some ⟨tb,0,none⟩)] w Q:=by
 obtain ⟨cap',r,hrun,h1,h2,h3⟩:=run_pages_copy w pg cap n P ht.n1 ht.n2 ht.row
 have hc0:=ht.c0
 have HQ:=Lib.hid (hQ cap' r h1 h2 h3)
 have HR:=Lib.hid hrun;clear hrun
 clear ht h1 h2 h3 hQ
 generalize hw2:w.drew.alloc (.cells (pgCells P n ++ r) 146)=w2 at *
 clear hw2
 go_enter Tryz.func88,Tryz.ntmps88
 go_wp2_with (at_builtin;refine wpList_append_eq rfl _ _ 70 rfl _ _ _ _ rfl rfl HR.out ?_)
 exact HQ.out
set_option maxHeartbeats 800000 in
theorem tcopy_any (lo hi tb pg cap n:Nat) (P:Nat → Pg) (low free:Int) (w:World) (ht:TableAt w lo hi tb pg cap n P low free) (Q:Ending → World → Prop)
 (hQ:∀ tb' pg' cap' w',TableAt w' w.heap.size w'.heap.size tb' pg' cap' n P low free → Still w w' → Q (.returned (.pointer (some ⟨tb',0,none⟩))) w') :
 Calls Tryz.prog 62 #[.pointer (some ⟨tb,0,none⟩)] w Q:=by
 have hc0:=ht.c0
 have hc1:=ht.c1
 have hc2:=ht.c2
 have htb:tb < w.heap.size:=Nat.lt_of_lt_of_le ht.thi ht.top
 have HT:=Lib.hid ht;clear ht
 have HQ:=Lib.hid hQ;clear hQ
 go_enter Tryz.func62,Tryz.ntmps62
 go_wp2_with fail
 refine tall_any lo hi tb pg cap n P low free _ (HT.out.kept ((Only.refl _ _ w).alloc _:Still w _) (.inl HT.out.top)) _ fun cap' r h1 h2 _ => ?_
 have H12:=Lib.hid (And.intro h1 h2);clear h1 h2
 go_wp2
 refine HQ.out w.heap.size (w.heap.size + 1) cap' _ ?_ ((((Only.refl _ _ w).alloc _).alloc _).drew)
 refine ⟨Nat.le_refl _,Nat.le_refl _,by simp;omega,by omega,by simp,by omega,HT.out.n1,HT.out.n2,?_,H12.out.1,H12.out.2,⟨r,?_⟩⟩
 ·exact (heap_alloc_old (w.alloc _) _ (by simp)).trans (heap_alloc_new w _)
 ·have:=heap_alloc_new (w.alloc (.cells #[.slice (some ⟨w.heap.size + 1,0,none⟩) n cap',.int .i64 low,.int .i64 free] 132)) (.cells (pgCells P n ++ r) 146)
  rw [World.size_alloc] at this
  exact this
end Go.Proofs.YtfbcdmhmpfijjaaGreatDoor
namespace Go.Proofs.YtfbcdmhmpfijjaaGreatDoor
open Go Go.RowKit Go.Maps
def Rv (v:Value):Option (DataW Value × List MemPlace):=some (.held v,[])
theorem intKeyed:Keyed Tryz.prog 3:=int_keyed Tryz.underlying3
def MapIs (w:World) (b n:Nat) (f:Int → Option Value):Prop :=
 ∃ D:DataW Value,w.ownsMap Tryz.prog 3 Rv b n D ∧ ∀ x:Int,(Lit.int .i64 x).wf=true → Maps.has D (.int .i64 x)=(f x).isSome ∧ ∀ z,D.atKey (.int .i64 x) (.held z)=.held ((f x).getD z)
def updM {α:Type} (f:Int → Option α) (x:Int) (v:Option α):Int → Option α:=fun y => if y=x then v else f y
theorem updM_map {α β:Type} (g:α → β) (f:Int → Option α) (x:Int) (v:Option α):updM (fun y => (f y).map g) x (v.map g)=fun y => (updM f x v y).map g:=by
 funext y;unfold updM;split <;> rfl
theorem MapIs.lt {w:World} {b n:Nat} {f:Int → Option Value} (h:MapIs w b n f):b < w.heap.size:=by obtain ⟨D,h,_⟩:=h;exact h.lt
theorem MapIs.kept {w w':World} {b n:Nat} {f:Int → Option Value} (h:MapIs w b n f) {lo hi:Nat} (ho:Only lo hi w w') (hb:b < lo ∨ hi ≤ b):MapIs w' b n f:=by
 have hlt:=h.lt
 obtain ⟨D,⟨es,clock,h1,h2,h3,h4⟩,hD⟩:=h
 exact ⟨D,⟨es,clock,(ho.block b hlt hb).trans h1,h2,h3,h4⟩,hD⟩
theorem MapIs.made (w:World):MapIs (w.alloc (.map #[] 0)) w.heap.size 0 (fun _ => none) :=
 ⟨.map [],World.ownsMap_made w _ _ _,fun _x _ => ⟨rfl,fun _z => rfl⟩⟩
theorem wf_of {x:Int} (h:-9223372036854775808 ≤ x ∧ x ≤ 9223372036854775807):(Lit.int .i64 x).wf=true:=WalkArith.wf_i64 h
theorem held_inj {a b:Value} (h:(DataW.held a:DataW Value)=.held b):a=b:=by injection h
theorem Rv_inj {v u:Value} {ps:List MemPlace} (h:Rv v=some (.held u,ps)):v=u:=by
 have h2:=Option.some.inj h
 exact held_inj (congrArg Prod.fst h2)
theorem MapIs.look {w:World} {b n:Nat} {f:Int → Option Value} (h:MapIs w b n f) {t e:TypeId} (ht:Tryz.prog.underlying t=some (.map 3 e)) {z:Value} (hz:(zeroValue e).run Tryz.prog w=.ok z w) {x:Int} (hx:(Lit.int .i64 x).wf=true) :
 (Instr.lookup t (.map (some b)) (.int .i64 x) false).run Tryz.prog w=.ok ((f x).getD z) w:=by
 obtain ⟨D,hown,hD⟩:=h
 obtain ⟨v,ps,hrun,hv⟩:=hown.lookup intKeyed ht hz (zd:=.held z) (zp:=[]) rfl (keyOf_int_mk Tryz.underlying3 hx)
 rw [(hD x hx).2 z] at hv
 have:v=(f x).getD z:=Rv_inj hv
 rw [hrun,this]
theorem MapIs.look_ok {w:World} {b n:Nat} {f:Int → Option Value} (h:MapIs w b n f) {t e:TypeId} (ht:Tryz.prog.underlying t=some (.map 3 e)) {z:Value} (hz:(zeroValue e).run Tryz.prog w=.ok z w) {x:Int} (hx:(Lit.int .i64 x).wf=true) :
 (Instr.lookup t (.map (some b)) (.int .i64 x) true).run Tryz.prog w=.ok (.tuple #[(f x).getD z,.bool (f x).isSome]) w:=by
 obtain ⟨D,hown,hD⟩:=h
 obtain ⟨v,ps,hrun,hv⟩:=hown.look_ok intKeyed ht hz (zd:=.held z) (zp:=[]) rfl (keyOf_int_mk Tryz.underlying3 hx)
 rw [(hD x hx).2 z] at hv
 rw [(hD x hx).1] at hrun
 have:v=(f x).getD z:=Rv_inj hv
 rw [hrun,this]
theorem isKey_int {x:Int} (_hx:(Lit.int .i64 x).wf=true):WideAt.IsKeyLit (.int .i64 x):=by
 trivial
theorem MapIs.put {w:World} {b n:Nat} {f:Int → Option Value} (h:MapIs w b n f) (hn:n < maxLen) {t e:TypeId} (ht:Tryz.prog.underlying t=some (.map 3 e)) {x:Int} (hx:(Lit.int .i64 x).wf=true) (v:Value) :
 ∃ w',(Instr.mapUpdate t (.map (some b)) (.int .i64 x) v).run Tryz.prog w=.ok () w' ∧ MapIs w' b (n + 1) (updM f x (some v)) ∧ Only b (b + 1) w w':=by
 obtain ⟨D,hown,hD⟩:=h
 obtain ⟨w',hrun,h1,h2⟩:=hown.update intKeyed ht hn (d:=.held v) (ps:=[]) (keyOf_int_mk Tryz.underlying3 hx) rfl
 refine ⟨w',hrun,⟨_,h1,fun y hy => ?_⟩,⟨h2.os,h2.tape,h2.output,h2.size,fun k hk hk2 => h2.block k hk (fun e => by injection e with e;omega)⟩⟩
 unfold updM
 by_cases hxy:y=x
 ·subst hxy
  rw [if_pos rfl]
  exact ⟨has_put_same hown.isMap (isKey_int hx) _,fun z => atKey_put_same hown.isMap (isKey_int hx) _ _⟩
 ·rw [if_neg hxy]
  have hne:(Lit.int .i64 y) ≠ .int .i64 x:=fun e => hxy (by injection e)
  rw [has_put_other hne]
  refine ⟨(hD y hy).1,fun z => ?_⟩
  rw [atKey_put_other hne]
  exact (hD y hy).2 z
theorem MapIs.del {w:World} {b n:Nat} {f:Int → Option Value} (h:MapIs w b n f) {t e:TypeId} (ht:Tryz.prog.underlying t=some (.map 3 e)) {x:Int} (hx:(Lit.int .i64 x).wf=true) (ty:TypeId) :
 ∃ w',(Builtin.delete_ #[t,3] ty #[.map (some b),.int .i64 x]).run Tryz.prog w=.ok (.tuple #[]) w' ∧ MapIs w' b n (updM f x none) ∧ Only b (b + 1) w w':=by
 obtain ⟨D,hown,hD⟩:=h
 obtain ⟨w',hrun,h1,h2⟩:=hown.drop intKeyed ht (keyOf_int_mk Tryz.underlying3 hx) ty
 have h2:=h2.grown
 refine ⟨w',hrun,⟨_,h1,fun y hy => ?_⟩,⟨h2.os,h2.tape,h2.output,h2.size,fun k hk hk2 => h2.block k hk (fun e => by injection e with e;omega)⟩⟩
 unfold updM
 by_cases hxy:y=x
 ·subst hxy
  rw [if_pos rfl]
  exact ⟨has_del_same,fun z => atKey_del_same _⟩
 ·rw [if_neg hxy]
  have hne:(Lit.int .i64 y) ≠ .int .i64 x:=fun e => hxy (by injection e)
  rw [has_del_other hne]
  refine ⟨(hD y hy).1,fun z => ?_⟩
  rw [atKey_del_other hne]
  exact (hD y hy).2 z
end Go.Proofs.YtfbcdmhmpfijjaaGreatDoor
