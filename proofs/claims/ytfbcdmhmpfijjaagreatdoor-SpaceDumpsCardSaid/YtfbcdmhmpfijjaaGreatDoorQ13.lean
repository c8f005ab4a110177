/-
  The walk of space.New.
-/
import Derived.Test.YtfbcdmhmpfijjaaGreatDoorQ12
set_option linter.unusedVariables false
set_option linter.unusedSimpArgs false
set_option linter.unusedSectionVars false
namespace Go.Proofs.YtfbcdmhmpfijjaaGreatDoor
open Go Go.RowKit
theorem Sp.bkcw (c:Nat) (hc:c < 8):Sp.bk c * Sp.cw c ≤ 64:=by
 have:=Sp.cw_8 c hc
 rcases this with ⟨h1,h2⟩ | ⟨h1,h2⟩ | ⟨h1,h2⟩ | ⟨h1,h2⟩ | ⟨h1,h2⟩ | ⟨h1,h2⟩ | ⟨h1,h2⟩ | ⟨h1,h2⟩ <;> rw [h1,h2] <;> omega
theorem SpaceAt.clr0 {w:World} {L:Lay} {s:St} (h:SpaceAt w L s) {N a b wd:Nat} (hN:64 * s.n=N) (hba:b - a=wd) (hab:a ≤ b) (hb:b ≤ N) :
 ∃ w',(∀ cc,(Builtin.clear_ #[27] 0 #[.slice (some ⟨L.wb,a,none⟩) (b - a) cc]).run Tryz.prog w=.ok (.tuple #[]) w') ∧ SpaceAt w' L (s.setWs (clrW s.W a wd)) ∧ Only L.lo L.hi w w':=by
 by_cases h0:wd=0
 ·subst h0
  refine ⟨w,fun cc => ?_,?_,Only.refl _ _ _⟩
  ·rw [hba]
   simp [Builtin.clear_,run_underlying Tryz.underlying27]
  ·rw [clrW_zero];exact h
 ·exact h.clr hN (by omega) hba hab hb
set_option maxRecDepth 100000 in
set_option maxHeartbeats 6400000 in
theorem tidy_class (w:World) (L:Lay) (s:St) (h:SpaceAt w L s) (p c:Nat) (hp:p < s.n) (hc:c < 8) (hk:(s.P p).k=1) (hpc:(s.P p).c=(c:Int)) (hE:¬ s.Empty p) (Q:Ending → World → Prop)
 (hQ:∀ w',SpaceAt w' L ((s.tidyLoop p c (Sp.bk c)).setWs (clrW (s.tidyLoop p c (Sp.bk c)).W (p * 64 + Sp.bk c * Sp.cw c) (64 - Sp.bk c * Sp.cw c))) → Only L.lo L.hi w w' → Q (.returned (.tuple #[])) w') :
 Calls Tryz.prog 140 #[.pointer (some ⟨L.sb,0,none⟩),.int .i64 (p:Int)] w Q:=by
 have HQ:=Lib.hid hQ;clear hQ
 have hn2:=h.n2
 have HS:=Lib.hid h
 have HST:=Lib.hid (h.state p hp)
 have hc1:=h.c1
 have hp0:(0:Int) ≤ (p:Int):=by omega
 have hpM:(p:Int) ≤ 4096:=by omega
 have hcnt:Bm.count (s.B 0) (64 * s.n) ((p * 64:Nat):Int) ((p * 64 + 64:Nat):Int) ≠ 0:=fun e => hE ⟨hk,e⟩
 obtain ⟨cn,hcn⟩:∃ cn,Bm.count (s.B 0) (64 * s.n) ((p * 64:Nat):Int) ((p * 64 + 64:Nat):Int)=cn:=⟨_,rfl⟩
 have HCN:Hid (∀ w1,SpaceAt w1 L s → Calls Tryz.prog 111 #[.pointer (some (L.m 0)),.int .i64 ((p:Int) * 64),.int .i64 ((p:Int) * 64 + 64)] w1 fun e w' => e=.returned (.int .i64 (cn:Int)) ∧ ∃ m,w'=w1.drewN m):=Lib.hid fun w1 h1 => by
  have:=h1.countR 0 (by omega) ((p * 64:Nat):Int) ((p * 64 + 64:Nat):Int) (by omega) (by omega)
  rw [hcn,(cast64 p).1,(cast64 p).2] at this
  exact this
 rw [hcn] at hcnt
 have hcb:((cn:Int) == 0)=false:=beq_eq_false_iff_ne.2 (by omega)
 clear hcnt hcn hE
 obtain ⟨pg,hpg⟩:∃ g,s.P p=g:=⟨_,rfl⟩
 rw [hpg] at HST hk hpc
 obtain ⟨k,c',r⟩:=pg
 dsimp only at HST hk hpc
 subst hk;subst hpc
 obtain ⟨N,hN⟩:∃ N,64 * s.n=N:=⟨_,rfl⟩
 have HN:=Lib.hid hN
 have HNN:=Lib.hid (show p * 64 + 64 ≤ N by omega)
 have HPM:=Lib.hid (show p ≤ 4096 by omega)
 have hNI:(p:Int) * 64 + 64 ≤ (N:Int):=by omega
 have HBL:=Lib.hid (Sp.cw_le c hc)
 have HIN:=Lib.hid (Sp.cw_in c hc)
 have HB:=Lib.hid (fun w => blocks_any (c:Int) w)
 rw [Sp.bks_nat c hc] at HB
 have HW:=Lib.hid (fun w => cwords_any (c:Int) w)
 rw [Sp.cww_nat c hc] at HW
 have HST2:Hid (∀ (i:Nat) (w:World),i < Sp.bk c → Calls Tryz.prog 130 #[.int .i64 (c:Int),.int .i64 (i:Int)] w fun e w' => e=.returned (.int .i64 ((i * Sp.cw c:Nat):Int)) ∧ Still w w'):=Lib.hid fun i w hi => by
  have:=start_any (c:Int) (i:Int) w (by omega) (by rw [Sp.bks_nat c hc];omega)
  rw [Sp.cww_nat c hc] at this
  exact this
 have HBX:=Lib.hid (Sp.bkcw c hc)
 have hc0':(0:Int) ≤ (c:Int):=by omega
 have hc8':(c:Int) < 8:=by omega
 clear h hN hpg hn2
 go_enter Tryz.func140,Tryz.ntmps140
 go_wp2_with fail
 refine HST.out.mono ?_
 rintro e w1 ⟨rfl,hs1⟩
 have h1:=HS.out.still hs1
 have hlt1:=h1.sblt
 have hc2:=h1.c2
 have hb1:=heap_alloc_new w1 (.cells #[.int .i64 1,.int .i64 c,.int .i64 r] 146)
 have HTOP1:=Lib.hid h1.top
 have HPB:Hid (w.heap.size ≤ w1.heap.size):=Lib.hid hs1.size
 have H1:=Lib.hid (h1.alloc (.cells #[.int .i64 1,.int .i64 c,.int .i64 r] 146))
 have HO1:=Lib.hid ((hs1.any L.lo L.hi).alloc (.cells #[.int .i64 1,.int .i64 c,.int .i64 r] 146))
 clear hs1 h1
 go_wp2_with fail
 refine (HCN.out _ H1.out).mono ?_
 rintro e w2 ⟨rfl,m,rfl⟩
 have H2:=Lib.hid (H1.out.drewN m)
 have HO2:=Lib.hid (HO1.out.drewN m)
 replace hb1:((w1.alloc (.cells #[.int .i64 1,.int .i64 c,.int .i64 r] 146)).drewN m).heap[w1.heap.size]?=some (.cells #[.int .i64 1,.int .i64 c,.int .i64 r] 146):=hb1
 generalize (w1.alloc (.cells #[.int .i64 1,.int .i64 c,.int .i64 r] 146)).drewN m=w2 at *
 generalize w1.heap.size=pb at *
 clear H1 HO1 hc2 hlt1
 have hx0:=cell_of (v:=.int .i64 1) hb1 0 rfl
 have hx1:=cell_of (v:=.int .i64 c) hb1 1 rfl
 have hpl:=(Array.getElem?_eq_some_iff.1 hb1).1
 have HPK:Hid (∀ w',Only L.lo L.hi w2 w' → w'.heap[pb]?=some (.cells #[.int .i64 1,.int .i64 c,.int .i64 r] 146)):=Lib.hid fun w' ho => by
  rw [ho.block pb (Array.getElem?_eq_some_iff.1 hb1).1 (.inr HTOP1.out)];exact hb1
 go_wp2_with fail
 refine (HB.out _).mono ?_
 rintro e w3 ⟨rfl,hs3⟩
 have H3:=Lib.hid (H2.out.still hs3)
 have HO3:=Lib.hid (hs3.any L.lo L.hi)
 have hb3:=HPK.out _ HO3.out
 have hy1:=cell_of (v:=.int .i64 c) hb3 1 rfl
 have hyl:=(Array.getElem?_eq_some_iff.1 hb3).1
 clear hs3 hb3 hx0 hx1 hpl
 generalize hbk:Sp.bk c=b at *
 have HBK:=Lib.hid hbk;clear hbk
 generalize hcw:Sp.cw c=x at *
 have HCW:=Lib.hid hcw;clear hcw
 have hb32:b ≤ 32:=HBL.out.2.2.2
 have hx32:x ≤ 32:=HBL.out.2.1
 go_wp2_with fail
 refine (HW.out _).mono ?_
 rintro e w4 ⟨rfl,hs4⟩
 have H4:=Lib.hid (H3.out.still hs4)
 have HO4:=Lib.hid (HO3.out.andStill hs4)
 clear hs4 hy1 hyl
 go_wp2_with fail
 go_loopw [65] (fun y wr => ∃ i:Nat,y=.int .i64 (i:Int) ∧ i ≤ b ∧ SpaceAt wr L (s.tidyLoop p c i) ∧ Only L.lo L.hi w2 wr) (fun y _ => 100 - (intOf y).toNat)
 case atStart => exact ⟨0,rfl,Nat.zero_le _,H4.out,HO4.out⟩
 case round =>
  clear H4 HO4 H3 HO3 H2
  obtain ⟨i,rfl,hi,hsp,ho⟩:=hrel
  have HSP:=Lib.hid hsp;have HO:=Lib.hid ho
  have hi0:(0:Int) ≤ (i:Int):=by omega
  by_cases hlt:i < b
  ·have hil:(i:Int) < (b:Int):=by omega
   have hin:=HIN.out i hlt
   obtain ⟨a,ha⟩:∃ a,i * x=a:=⟨_,rfl⟩
   obtain ⟨t,ht⟩:∃ t,p * 64 + a=t:=⟨_,rfl⟩
   have HSTi:Hid (∀ w,Calls Tryz.prog 130 #[.int .i64 (c:Int),.int .i64 (i:Int)] w fun e w' => e=.returned (.int .i64 (a:Int)) ∧ Still w w'):=Lib.hid fun w => by
    have:=HST2.out i w hlt;rwa [ha] at this
   rw [ha] at hin
   have HTN:=Lib.hid (t_lt HNN.out hin HBL.out.1 ht)
   have hsum:=t_sum3 ht
   have ha64:(a:Int) ≤ 64:=by have:=a_le hin;omega
   have hts:=HTN.out
   have htx:t + x ≤ N:=by have:=HNN.out;omega
   have htN:(t:Int) < (N:Int):=by omega
   have ht0:(0:Int) ≤ (t:Int):=by omega
   have hNM:(N:Int) ≤ 262144:=by have:=HS.out.n2;have:=HN.out;omega
   have HTX:=Lib.hid htx
   have htxI:(t:Int) + (x:Int) ≤ (N:Int):=by omega
   have HX1:Hid (1 ≤ x):=Lib.hid (by have:=HBL.out.1;omega)
   have hnR:64 * (s.tidyLoop p c i).n=N:=by rw [St.tidyLoop_n];exact HN.out
   have HTS:Hid (t < 64 * (s.tidyLoop p c i).n):=Lib.hid (by rw [hnR];exact hts)
   have HNR:=Lib.hid hnR
   have HLS:Hid (s.tidyLoop p c (i + 1)=if (s.tidyLoop p c i).B 0 t then s.tidyLoop p c i else ((s.tidyLoop p c i).setB (c + 1) (setS ((s.tidyLoop p c i).B (c + 1)) t true)).setWs (clrW (s.tidyLoop p c i).W t x)):=Lib.hid (by
    rw [← ht,← ha,← HCW.out];rfl)
   clear ha ht hin hts htx hnR
   have hbr:=HPK.out _ ho
   have hx1:=cell_of (v:=.int .i64 c) hbr 1 rfl
   have hpl:=(Array.getElem?_eq_some_iff.1 hbr).1
   clear hbr hsp ho
   obtain ⟨sr,hsr⟩:∃ sr,s.tidyLoop p c i=sr:=⟨_,rfl⟩
   rw [hsr] at HSP HTS HNR HLS
   clear hsr
   go_wp2_with fail
   refine (HSTi.out _).mono ?_
   rintro e w5 ⟨rfl,hs5⟩
   have H5:=Lib.hid (HSP.out.still hs5)
   have HO5:=Lib.hid (HO.out.andStill hs5)
   have hb5:=HPK.out _ HO5.out
   have hy1:=cell_of (v:=.int .i64 c) hb5 1 rfl
   have hyl:=(Array.getElem?_eq_some_iff.1 hb5).1
   have hc2:=H5.out.c2
   clear hs5 HSP HO hb5 hx1 hpl
   cases hB:sr.B 0 t with
   | true =>
    have hget:sr.has (t:Int)=true:=by unfold St.has;rw [decide_eq_true ht0,Int.toNat_natCast,hB];rfl
    have HG:=Lib.hid hget
    have hL:=HLS.out
    rw [if_pos hB] at hL
    have HL:=Lib.hid hL
    clear hB hget hL HLS
    go_wp2_with fail
    refine (H5.out.get t HG.out).mono ?_
    rintro e w6 ⟨rfl,rfl⟩
    go_wp2
    go_roundw
    case rel => exact ⟨i + 1,by go_num,hlt,by rw [HL.out];exact H5.out,HO5.out⟩
    case measure => simp [intOf];omega
   | false =>
    have hget:sr.has (t:Int)=false:=by unfold St.has;rw [decide_eq_true ht0,Int.toNat_natCast,hB];rfl
    have HG:=Lib.hid hget
    have hL:=HLS.out
    rw [if_neg (by rw [hB];decide)] at hL
    have HL:=Lib.hid hL
    clear hB hget hL HLS
    go_wp2_with fail
    refine (H5.out.get t HG.out).mono ?_
    rintro e w6 ⟨rfl,rfl⟩
    have hc3:=H5.out.c3 c hc
    go_wp2_with fail
    go_region_held3 (fun w' => w'.cell? ⟨L.sb,3 + c,none⟩=some (.pointer (some (L.m (c + 1)))) ∧ w'.cell? ⟨pb,1,none⟩=some (.int .i64 c)) (first | exact ⟨hc3,hy1⟩ | exact ⟨hd3,hz1⟩)
     (first
       | (go_at_call 52;refine (H5.out.drew.set (c + 1) (by omega) t HTS.out).mono ?_;rintro e w7 ⟨rfl,h7,ho7⟩;have H7:=Lib.hid h7;have HO7:=Lib.hid (HO5.out.drew.trans ho7);clear h7 ho7;have hd3:=H7.out.c3 c hc;have hz1:=cell_of (v:=.int .i64 c) (HPK.out _ HO7.out) 1 rfl))
    clear hc3 hd3 hz1 hy1 hyl hc2
    have hn7:64 * (sr.setB (c + 1) (setS (sr.B (c + 1)) t true)).n=N:=HNR.out
    have hc0:=H7.out.c0N hn7
    obtain ⟨w8,hcl,h8,ho8⟩:=H7.out.clr (a:=t) (b:=t + x) (wd:=x) hn7 HX1.out (by omega) (by omega) HTX.out
    rw [show t + x - t=x by omega] at hcl
    have H8:=Lib.hid h8
    have HO8:=Lib.hid (HO7.out.trans ho8)
    clear h8 ho8 hn7
    go_wp2
    go_roundw
    case rel => exact ⟨i + 1,by go_num,hlt,by rw [HL.out];exact H8.out,HO8.out⟩
    case measure => simp [intOf];omega
  ·obtain rfl:i=b:=by omega
   obtain ⟨bx,hbx⟩:∃ bx,i * x=bx:=⟨_,rfl⟩
   have hbxI:(i:Int) * (x:Int)=(bx:Int):=by rw [← hbx];simp
   have hbx64:=HBX.out
   rw [hbx] at hbx64
   obtain ⟨t,ht⟩:∃ t,p * 64 + bx=t:=⟨_,rfl⟩
   have hsum:=t_sum3 ht
   have hnR:64 * (s.tidyLoop p c i).n=N:=by rw [St.tidyLoop_n];exact HN.out
   have hNM:(N:Int) ≤ 262144:=by have:=HS.out.n2;have:=HN.out;omega
   have htt:t ≤ p * 64 + 64:=by omega
   obtain ⟨u,hu⟩:∃ u,p * 64 + 64=u:=⟨_,rfl⟩
   have huI:(p:Int) * 64 + 64=(u:Int):=by omega
   have hut:t ≤ u:=by omega
   have huN:u ≤ N:=by rw [← hu];exact HNN.out
   have HQ2:Hid (∀ w',SpaceAt w' L ((s.tidyLoop p c i).setWs (clrW (s.tidyLoop p c i).W t (64 - bx))) → Only L.lo L.hi w w' → Q (.returned (.tuple #[])) w'):=Lib.hid (by
    have:=HQ.out
    rw [hbx,ht] at this
    exact this)
   have hc0:=HSP.out.c0N hnR
   by_cases htN:t < N
   ·obtain ⟨w8,hcl,h8,ho8⟩:=HSP.out.clr0 (a:=t) (b:=u) (wd:=64 - bx) hnR (by omega) hut huN
    have H8:=Lib.hid h8
    have HO8:=Lib.hid (HO2.out.trans (HO.out.trans ho8))
    have htNI:(t:Int) < (N:Int):=by omega
    have htu:(t:Int) ≤ (u:Int):=by omega
    have huNI:(u:Int) ≤ (N:Int):=by omega
    clear h8 ho8 hsp ho hnR hbx hbx64 ht HQ hu
    go_wp2
    go_end0
    exact HQ2.out _ H8.out HO8.out
   ·obtain rfl:t=N:=by omega
    obtain rfl:u=t:=by omega
    have hwd:64 - bx=0:=by omega
    rw [hwd,clrW_zero] at HQ2
    have hcl:∀ ad cc,(Builtin.clear_ #[27] 0 #[.slice ad 0 cc]).run Tryz.prog wr=.ok (.tuple #[]) wr:=fun ad cc => by
     cases ad <;> simp [Builtin.clear_,run_underlying Tryz.underlying27]
    have HO8:=Lib.hid (HO2.out.trans HO.out)
    clear hsp ho hnR hbx hbx64 ht HQ hu hwd
    go_wp2
    go_end0
    exact HQ2.out _ HSP.out HO8.out
end Go.Proofs.YtfbcdmhmpfijjaaGreatDoor
namespace Go.Proofs.YtfbcdmhmpfijjaaGreatDoor
open Go Go.RowKit
def St.new (n:Nat):St:=⟨n,fun _ => 0,fun _ => ⟨0,0,0⟩,0,fun _ _ => false,fun _ => none,fun _ => none,0,0,0⟩
def optP (m:Nat → Addr) (i j:Nat):Value:=.pointer (if j < i then some (m j) else none)
def partCells (wb tb sm qm n:Nat) (m:Nat → Addr) (i:Nat):Array Value :=
 #[.slice (some ⟨wb,0,none⟩) (64 * n) (64 * n),.pointer (some ⟨tb,0,none⟩),optP m i 0,optP m i 1,optP m i 2,optP m i 3,optP m i 4,optP m i 5,optP m i 6,optP m i 7,optP m i 8,.map (some sm),.map (some qm),.int .i64 0,.int .i64 0]
structure PartAt (w0 w:World) (tlo thi tb pg cap wb sm qm sb n:Nat) (ma mb:Nat → Nat) (m:Nat → Addr) (i:Nat):Prop where
 still:Still w0 w
 o0:w0.heap.size ≤ tlo
 o1:tlo < thi
 o2:thi ≤ wb
 o3:wb < sm
 o4:sm < qm
 o5:qm < sb
 o6:sb < w.heap.size
 head:w.heap[sb]?=some (.cells (partCells wb tb sm qm n m i) 84 (0,0))
 words:WordsAt w wb (64 * n) (fun _ => 0)
 table:∃ free,TableAt w tlo thi tb pg cap n (fun _ => ⟨0,0,0⟩) 0 free
 shapes:MapIs w sm 0 (fun _ => none)
 places:MapIs w qm 0 (fun _ => none)
 maps:∀ j,j < i → IsMap w (ma j) (mb j) (m j) (64 * n) (fun _ => false)
 mlo:∀ j,j < i → sb < ma j ∧ ma j < mb j ∧ mb j ≤ w.heap.size
 mout:∀ j k,j < k → k < i → mb j ≤ ma k
theorem IsMap.bounds {w:World} {lo hi n:Nat} {p:Addr} {S:Nat → Bool} (h:IsMap w lo hi p n S):lo < hi ∧ hi ≤ w.heap.size:=by
 obtain ⟨pb,v,rows,_,hm,_⟩:=h
 have:=hm.plo;have:=hm.phi;have:=hm.top
 omega
theorem partCells_set (wb tb sm qm n:Nat) (m:Nat → Addr) (i:Nat) (hi:i < 9) (p:Addr) :
 (partCells wb tb sm qm n m i).setIfInBounds (2 + i) (.pointer (some p))=partCells wb tb sm qm n (fun j => if j=i then p else m j) (i + 1):=by
 have hi':i=0 ∨ i=1 ∨ i=2 ∨ i=3 ∨ i=4 ∨ i=5 ∨ i=6 ∨ i=7 ∨ i=8:=by omega
 rcases hi' with rfl | rfl | rfl | rfl | rfl | rfl | rfl | rfl | rfl <;> simp [partCells,optP]
theorem PartAt.step {w0 w w':World} {tlo thi tb pg cap wb sm qm sb n:Nat} {ma mb:Nat → Nat} {m:Nat → Addr} {i:Nat} (h:PartAt w0 w tlo thi tb pg cap wb sm qm sb n ma mb m i) (hi:i < 9) {p:Addr}
 (hs:Still w w') (hm:IsMap w' w.heap.size w'.heap.size p (64 * n) (fun _ => false)) :
 PartAt w0 (w'.setCell ⟨sb,2 + i,none⟩ (.pointer (some p))) tlo thi tb pg cap wb sm qm sb n (fun j => if j=i then w.heap.size else ma j) (fun j => if j=i then w'.heap.size else mb j) (fun j => if j=i then p else m j) (i + 1):=by
 obtain ⟨free,ht⟩:=h.table
 have hb:=hm.bounds
 have hoc:=only_cell w' sb (2 + i) (.pointer (some p))
 have a1:=h.o1;have a2:=h.o2;have a3:=h.o3;have a4:=h.o4;have a5:=h.o5;have a6:=h.o6;have a0:=h.o0
 have hsz:=hs.size
 have hws:=h.words.kept hs (.inl h.words.lt)
 have htop:=ht.top
 refine ⟨(Still.trans h.still hs).setCell (.inr (by show w0.heap.size ≤ sb;omega)) _,h.o0,h.o1,h.o2,h.o3,h.o4,h.o5,by simp [World.setCell];omega,?_,hws.kept hoc (by omega),⟨free,(ht.kept hs (.inl htop)).kept hoc (by omega)⟩,(h.shapes.kept hs (.inl h.shapes.lt)).kept hoc (by omega),(h.places.kept hs (.inl h.places.lt)).kept hoc (by omega),fun j hj => ?_,fun j hj => ?_,fun j k hjk hk => ?_⟩
 ·have hh:w'.heap[sb]?=some (.cells (partCells wb tb sm qm n m i) 84 (0,0)):=by rw [hs.block sb h.o6 (.inl h.o6)];exact h.head
  simp only [World.setCell,Array.getElem?_modify,hh,if_pos,Option.map_some,Option.isSome_none,Bool.false_eq_true,if_false]
  rw [partCells_set _ _ _ _ _ _ _ hi]
 ·by_cases hji:j=i
  ·subst hji
   simp only [if_true]
   exact hm.kept hoc (.inr (by omega))
  ·simp only [if_neg hji]
   have hm2:=h.mlo j (by omega)
   exact ((h.maps j (by omega)).kept hs (.inl hm2.2.2)).kept hoc (.inr (by omega))
 ·simp only [World.setCell,Array.size_modify]
  by_cases hji:j=i
  ·subst hji
   simp only [if_true]
   omega
  ·simp only [if_neg hji]
   have hm2:=h.mlo j (by omega)
   omega
 ·by_cases hki:k=i
  ·subst hki
   simp only [if_true,if_neg (Nat.ne_of_lt hjk)]
   exact (h.mlo j hjk).2.2
  ·simp only [if_neg hki,if_neg (show j ≠ i by omega)]
   exact h.mout j k hjk (by omega)
theorem PartAt.done {w0 w:World} {tlo thi tb pg cap wb sm qm sb n:Nat} {ma mb:Nat → Nat} {m:Nat → Addr} (h:PartAt w0 w tlo thi tb pg cap wb sm qm sb n ma mb m 9) (hT:Tab w0) (h0:0 < w0.heap.size) (h1:1 ≤ n) (h2:n ≤ 4096) :
 ∃ L:Lay,L.sb=sb ∧ L.lo=w0.heap.size ∧ SpaceAt w L (St.new n):=by
 have a1:=h.o1;have a2:=h.o2;have a3:=h.o3;have a4:=h.o4;have a5:=h.o5;have a6:=h.o6;have a0:=h.o0
 refine ⟨⟨w0.heap.size,w.heap.size,sb,wb,tlo,thi,tb,pg,cap,sm,qm,ma,mb,m⟩,rfl,rfl,?_⟩
 refine ⟨⟨h0,fun i hi => ?_,fun i j hi hj hij => ?_⟩,Nat.le_refl _,h1,h2,Nat.zero_le _,by show 0 ≤ _;omega,?_,h.words,h.table,h.shapes,h.places,fun j hj => h.maps j hj,hT.only h.still h0⟩
 ·match i,hi with
  | 0,_ => simp only [Lay.a,Lay.b];omega
  | 1,_ => simp only [Lay.a,Lay.b];omega
  | 2,_ => simp only [Lay.a,Lay.b];omega
  | 3,_ => simp only [Lay.a,Lay.b];omega
  | 4,_ => simp only [Lay.a,Lay.b];omega
  | j + 5,hj => have:=h.mlo j (by omega);simp only [Lay.a,Lay.b];omega
 ·match i,hi,j,hj with
  | 0,_,0,_ => exact absurd rfl hij
  | 0,_,1,_ => simp only [Lay.a,Lay.b];omega
  | 0,_,2,_ => simp only [Lay.a,Lay.b];omega
  | 0,_,3,_ => simp only [Lay.a,Lay.b];omega
  | 0,_,4,_ => simp only [Lay.a,Lay.b];omega
  | 0,_,k + 5,hk => have:=h.mlo k (by omega);simp only [Lay.a,Lay.b];omega
  | 1,_,0,_ => simp only [Lay.a,Lay.b];omega
  | 1,_,1,_ => exact absurd rfl hij
  | 1,_,2,_ => simp only [Lay.a,Lay.b];omega
  | 1,_,3,_ => simp only [Lay.a,Lay.b];omega
  | 1,_,4,_ => simp only [Lay.a,Lay.b];omega
  | 1,_,k + 5,hk => have:=h.mlo k (by omega);simp only [Lay.a,Lay.b];omega
  | 2,_,0,_ => simp only [Lay.a,Lay.b];omega
  | 2,_,1,_ => simp only [Lay.a,Lay.b];omega
  | 2,_,2,_ => exact absurd rfl hij
  | 2,_,3,_ => simp only [Lay.a,Lay.b];omega
  | 2,_,4,_ => simp only [Lay.a,Lay.b];omega
  | 2,_,k + 5,hk => have:=h.mlo k (by omega);simp only [Lay.a,Lay.b];omega
  | 3,_,0,_ => simp only [Lay.a,Lay.b];omega
  | 3,_,1,_ => simp only [Lay.a,Lay.b];omega
  | 3,_,2,_ => simp only [Lay.a,Lay.b];omega
  | 3,_,3,_ => exact absurd rfl hij
  | 3,_,4,_ => simp only [Lay.a,Lay.b];omega
  | 3,_,k + 5,hk => have:=h.mlo k (by omega);simp only [Lay.a,Lay.b];omega
  | 4,_,0,_ => simp only [Lay.a,Lay.b];omega
  | 4,_,1,_ => simp only [Lay.a,Lay.b];omega
  | 4,_,2,_ => simp only [Lay.a,Lay.b];omega
  | 4,_,3,_ => simp only [Lay.a,Lay.b];omega
  | 4,_,4,_ => exact absurd rfl hij
  | 4,_,k + 5,hk => have:=h.mlo k (by omega);simp only [Lay.a,Lay.b];omega
  | k + 5,hk,0,_ => have:=h.mlo k (by omega);simp only [Lay.a,Lay.b];omega
  | k + 5,hk,1,_ => have:=h.mlo k (by omega);simp only [Lay.a,Lay.b];omega
  | k + 5,hk,2,_ => have:=h.mlo k (by omega);simp only [Lay.a,Lay.b];omega
  | k + 5,hk,3,_ => have:=h.mlo k (by omega);simp only [Lay.a,Lay.b];omega
  | k + 5,hk,4,_ => have:=h.mlo k (by omega);simp only [Lay.a,Lay.b];omega
  | k + 5,hk,l + 5,hl =>
   simp only [Lay.a,Lay.b]
   rcases Nat.lt_or_gt_of_ne (show k ≠ l by omega) with hlt | hgt
   ·exact .inl (h.mout k l hlt (by omega))
   ·exact .inr (h.mout l k hgt (by omega))
 ·have:=h.head
  simpa [partCells,optP,headCells,St.new] using this
theorem made_words (N:Nat):madeCells #[.int .i64 0] N=wdCells (fun _ => 0) N:=by
 rw [made_replicate]
 apply Array.ext_getElem?
 intro j
 by_cases hj:j < N
 ·rw [wd_at _ N j hj];simp [hj]
 ·rw [Array.getElem?_eq_none (by simpa using Nat.not_lt.1 hj),Array.getElem?_eq_none (by rw [wd_size];omega)]
theorem sb_set {w:World} {sb i N wb:Nat} (h1:w.cell? ⟨sb,0,none⟩=some (.slice (some ⟨wb,0,none⟩) N N)) (p:Addr) :
 (w.setCell ⟨sb,3 + i,none⟩ (.pointer (some p))).cell? ⟨sb,0,none⟩=some (.slice (some ⟨wb,0,none⟩) N N):=by
 refine (World.cell?_setCell_other _ _ _ _ ?_).trans h1
 intro e
 injection e with _ e2
 omega
theorem Tryz.infoI2:(Tryz.prog.info? 3).map (fun i => (i.zero,i.size,i.bytes))=some (some (.int .i64 0),1,8):=by kernel_rfl
theorem PartAt.start {w w1:World} {tb pg n N:Nat} (hN:64 * n=N) (hs:Still w w1) (ht:TableAt w1 w.heap.size w1.heap.size tb pg n n (fun _ => ⟨0,0,0⟩) 0 n) :
 PartAt w ((((w1.alloc (.cells (wdCells (fun _ => 0) N) 3)).alloc (.map #[] 0)).alloc (.map #[] 0)).alloc (.cells (partCells w1.heap.size tb (w1.heap.size + 1) (w1.heap.size + 1 + 1) n (fun _ => ⟨0,0,none⟩) 0) 84))
  w.heap.size w1.heap.size tb pg n w1.heap.size (w1.heap.size + 1) (w1.heap.size + 1 + 1) (w1.heap.size + 1 + 1 + 1) n (fun _ => 0) (fun _ => 0) (fun _ => ⟨0,0,none⟩) 0:=by
 subst hN
 have hb:=ht.thi;have hb2:=ht.tlo
 have e1:(w1.alloc (.cells (wdCells (fun _ => 0) (64 * n)) 3)).heap.size=w1.heap.size + 1:=by simp
 have e2:((w1.alloc (.cells (wdCells (fun _ => 0) (64 * n)) 3)).alloc (.map #[] 0)).heap.size=w1.heap.size + 1 + 1:=by simp
 have e3:(((w1.alloc (.cells (wdCells (fun _ => 0) (64 * n)) 3)).alloc (.map #[] 0)).alloc (.map #[] 0)).heap.size=w1.heap.size + 1 + 1 + 1:=by simp
 refine ⟨(((hs.alloc _).alloc _).alloc _).alloc _,Nat.le_refl _,by omega,Nat.le_refl _,by omega,by omega,by omega,by simp,?_,?_,⟨n,?_⟩,?_,?_,fun j hj => by omega,fun j hj => by omega,fun j k _ hk => by omega⟩
 ·have:=heap_alloc_new (((w1.alloc (.cells (wdCells (fun _ => 0) (64 * n)) 3)).alloc (.map #[] 0)).alloc (.map #[] 0)) (.cells (partCells w1.heap.size tb (w1.heap.size + 1) (w1.heap.size + 1 + 1) n (fun _ => ⟨0,0,none⟩) 0) 84)
  rw [e3] at this
  exact this
 ·have h0:WordsAt (w1.alloc (.cells (wdCells (fun _ => 0) (64 * n)) 3)) w1.heap.size (64 * n) (fun _ => 0):=heap_alloc_new w1 _
  exact h0.kept ((((Only.refl _ _ _).alloc _).alloc _).alloc _:Still _ _) (.inl h0.lt)
 ·exact ht.kept (((((Only.refl _ _ _).alloc _).alloc _).alloc _).alloc _:Still w1 _) (.inl ht.top)
 ·have h0:=MapIs.made (w1.alloc (.cells (wdCells (fun _ => 0) (64 * n)) 3))
  rw [e1] at h0
  exact h0.kept (((Only.refl _ _ _).alloc _).alloc _:Still _ _) (.inl h0.lt)
 ·have h0:=MapIs.made ((w1.alloc (.cells (wdCells (fun _ => 0) (64 * n)) 3)).alloc (.map #[] 0))
  rw [e2] at h0
  exact h0.kept ((Only.refl _ _ _).alloc _:Still _ _) (.inl h0.lt)
set_option maxRecDepth 100000 in
set_option maxHeartbeats 6400000 in
theorem snew_yes (n:Nat) (w:World) (h1:1 ≤ n) (h2:n ≤ 4096) (hT:Tab w) (h0:0 < w.heap.size) (Q:Ending → World → Prop)
 (hQ:∀ w' (L:Lay),L.lo=w.heap.size → SpaceAt w' L (St.new n) → Still w w' → Q (.returned (.tuple #[.pointer (some ⟨L.sb,0,none⟩),.int .i64 0])) w') :
 Calls Tryz.prog 16 #[.int .i64 (n:Int)] w Q:=by
 have HQ:Hid (∀ w' tlo thi tb pg cap wb sm qm sb ma mb m,PartAt w w' tlo thi tb pg cap wb sm qm sb n ma mb m 9 → Q (.returned (.tuple #[.pointer (some ⟨sb,0,none⟩),.int .i64 0])) w'):=Lib.hid fun w' tlo thi tb pg cap wb sm qm sb ma mb m hp => by
  obtain ⟨L,e1,e2,hs⟩:=hp.done hT h0 h1 h2
  rw [← e1]
  exact hQ w' L e2 hs hp.still
 clear hQ
 obtain ⟨i0,hi,hz0,hz1,hz2⟩:=info_parts Tryz.infoI2
 have hN0:(0:Int) ≤ (n:Int) * 64:=by omega
 obtain ⟨N,hN⟩:∃ N,64 * n=N:=⟨_,rfl⟩
 have HN:=Lib.hid hN
 have HMK:Hid (∀ w,(Instr.makeSlice 27 (.int .i64 ((n:Int) * 64)) (.int .i64 ((n:Int) * 64))).run Tryz.prog w=.ok (.slice (some ⟨w.heap.size,0,none⟩) N N) (w.alloc (.cells (wdCells (fun _ => 0) N) 3))):=Lib.hid fun w => by
  have hmk:=run_make (P:=Tryz.prog) w 27 3 i0 (.int .i64 0) Tryz.underlying27 hi hz0 .i64 .i64 ((n:Int) * 64) ((n:Int) * 64) hN0 (Int.le_refl _) (by rw [hz2];omega) (by omega)
  rw [hz1,show ((n:Int) * 64).toNat=N by omega,show (Value.int IntKind.i64 0).cells=#[Value.int IntKind.i64 0] from rfl,Nat.mul_one,made_words] at hmk
  exact hmk
 have HP:=Lib.hid (pnew_yes n w h1 h2)
 have HNW:=Lib.hid (fun w => new_yes N w (by omega))
 have hn0:(0:Int) ≤ (n:Int):=by omega
 have hnM:(n:Int) ≤ 4096:=by omega
 clear hi hz0 hz1 hz2 hN0 hT h0 h1 h2 hN
 go_enter Tryz.func16,Tryz.ntmps16
 go_wp2_with fail
 refine HP.out.mono ?_
 rintro e w1 ⟨tb,pg,rfl,ht,hs⟩
 have HPA:=Lib.hid (PartAt.start HN.out hs ht)
 have hmk:=HMK.out w1
 have hmm:=@run_makeMap Tryz.prog
 clear ht hs
 go_wp2_with fail
 have HPA:Hid (PartAt w ((((w1.alloc (.cells (wdCells (fun _ => 0) N) 3)).alloc (.map #[] 0)).alloc (.map #[] 0)).alloc (.cells #[.slice (some ⟨w1.heap.size,0,none⟩) N N,.pointer (some ⟨tb,0,none⟩),.pointer none,.pointer none,.pointer none,.pointer none,.pointer none,.pointer none,.pointer none,.pointer none,.pointer none,.map (some (w1.heap.size + 1)),.map (some (w1.heap.size + 1 + 1)),.int .i64 0,.int .i64 0] 84))
  w.heap.size w1.heap.size tb pg n w1.heap.size (w1.heap.size + 1) (w1.heap.size + 1 + 1) (w1.heap.size + 1 + 1 + 1) n (fun _ => 0) (fun _ => 0) (fun _ => ⟨0,0,none⟩) 0):=Lib.hid (by
  have:=HPA.out
  unfold partCells at this
  rw [HN.out] at this
  exact this)
 generalize (((w1.alloc (.cells (wdCells (fun _ => 0) N) 3)).alloc (.map #[] 0)).alloc (.map #[] 0)).alloc (.cells #[.slice (some ⟨w1.heap.size,0,none⟩) N N,.pointer (some ⟨tb,0,none⟩),.pointer none,.pointer none,.pointer none,.pointer none,.pointer none,.pointer none,.pointer none,.pointer none,.pointer none,.map (some (w1.heap.size + 1)),.map (some (w1.heap.size + 1 + 1)),.int .i64 0,.int .i64 0] 84)=w2 at *
 generalize w1.heap.size + 1 + 1 + 1=sb at *
 generalize w1.heap.size + 1 + 1=qm at *
 generalize w1.heap.size + 1=sm at *
 generalize w1.heap.size=wb at *
 refine (HNW.out w2).mono ?_
 rintro e w3 ⟨p,rfl,hm,hs3⟩
 rw [← HN.out] at hm
 have HP1:=Lib.hid (HPA.out.step (by omega) hs3 hm)
 have hh3:w3.heap[sb]?=some (.cells (partCells wb tb sm qm n (fun _ => ⟨0,0,none⟩) 0) 84 (0,0)):=by rw [hs3.block sb HPA.out.o6 (.inl HPA.out.o6)];exact HPA.out.head
 have hx2:=cell_of (v:=.pointer none) hh3 2 rfl
 have hf2:=frozen_of hh3 2
 clear hm hs3 hh3
 go_wp2_with fail
 go_loopw [36] (fun y wr => ∃ i:Nat,y=.int .i64 (i:Int) ∧ i ≤ 8 ∧ ∃ (ma mb:Nat → Nat) (m:Nat → Addr),PartAt w wr w.heap.size wb tb pg n wb sm qm sb n ma mb m (i + 1)) (fun y _ => 100 - (intOf y).toNat)
 case atStart => exact ⟨0,rfl,by omega,_,_,_,HP1.out⟩
 case round =>
  clear HP1 hx2 hf2
  obtain ⟨i,rfl,hi,ma,mb,m,hp⟩:=hrel
  have HPR:=Lib.hid hp
  have hi0:(0:Int) ≤ (i:Int):=by omega
  by_cases hlt:i < 8
  ·have hil:(i:Int) < 8:=by omega
   have hh:=hp.head
   have hsl:sb < wr.heap.size:=hp.o6
   have hx0:wr.cell? ⟨sb,0,none⟩=some (.slice (some ⟨wb,0,none⟩) N N):=by rw [← HN.out];exact cell_of hh 0 rfl
   have hcs:Hid (∀ w',Still wr w' → w'.cell? ⟨sb,0,none⟩=some (.slice (some ⟨wb,0,none⟩) N N) ∧ w'.cell? ⟨sb,3 + i,none⟩=some (.pointer none) ∧ w'.frozen? ⟨sb,3 + i,none⟩=false):=Lib.hid fun w' hs => by
    have hh':w'.heap[sb]?=some (.cells (partCells wb tb sm qm n m (i + 1)) 84 (0,0)):=by rw [hs.block sb hsl (.inl hsl)];exact hh
    have hc:i=0 ∨ i=1 ∨ i=2 ∨ i=3 ∨ i=4 ∨ i=5 ∨ i=6 ∨ i=7:=by omega
    refine ⟨by rw [← HN.out];exact cell_of hh' 0 rfl,?_,frozen_of hh' _⟩
    rcases hc with rfl | rfl | rfl | rfl | rfl | rfl | rfl | rfl <;> exact cell_of hh' _ rfl
   obtain ⟨y0,y3,yf⟩:=hcs.out wr (Only.refl _ _ _)
   clear hp hh hx0
   go_wp2_with fail
   go_region_held3 (fun w' => w'.cell? ⟨sb,0,none⟩=some (.slice (some ⟨wb,0,none⟩) N N) ∧ (∃ v,w'.cell? ⟨sb,3 + i,none⟩=some v) ∧ w'.frozen? ⟨sb,3 + i,none⟩=false) (first | exact ⟨y0,⟨_,y3⟩,yf⟩ | exact ⟨z0,⟨_,z3⟩,zf⟩ | exact ⟨sb_set z0 _,⟨_,World.cell?_setCell_same _ _ _ z3⟩,(World.frozen?_setCell _ _ _ _).trans zf⟩)
    (first
      | (go_at_call 45;refine (HNW.out _).mono ?_;rintro e w4 ⟨p2,rfl,hm,hs4⟩;obtain ⟨z0,z3,zf⟩:=hcs.out w4 (Still.trans ((Only.refl _ _ wr).drew:Still wr _) hs4);have HM4:=Lib.hid hm;have HS4:=Lib.hid hs4;clear hm hs4))
   have hst:=(HPR.out.step (i:=i + 1) (p:=p2) (by omega) (Still.trans ((Only.refl _ _ wr).drew:Still wr _) HS4.out) (by have:=HM4.out;rw [← HN.out] at this;exact this))
   rw [show 2 + (i + 1)=3 + i by omega] at hst
   have HST:=Lib.hid hst
   clear hst y0 y3 yf z0 z3 zf
   go_wp2
   go_roundw
   case rel => exact ⟨i + 1,by go_num,hlt,_,_,_,HST.out⟩
   case measure => simp [intOf];omega
  ·obtain rfl:i=8:=by omega
   go_wp2
   exact HQ.out _ _ _ _ _ _ _ _ _ _ _ _ _ HPR.out
end Go.Proofs.YtfbcdmhmpfijjaaGreatDoor
