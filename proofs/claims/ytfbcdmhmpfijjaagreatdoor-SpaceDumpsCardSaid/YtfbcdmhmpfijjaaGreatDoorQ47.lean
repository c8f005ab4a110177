/-
  The walks of space.Fits and of its closure.
-/
import Derived.Laws.Rows
import Derived.Test.YtfbcdmhmpfijjaaGreatDoorQ45
import Derived.Test.YtfbcdmhmpfijjaaGreatDoorQ25
import Derived.Deep.Cut
import Derived.Deep.CutRange
set_option linter.unusedVariables false
set_option linter.unusedSimpArgs false
set_option linter.unusedSectionVars false
namespace Go.Proofs.YtfbcdmhmpfijjaaGreatDoor
open Go Go.RowKit
theorem kb_step {wK wx:World} {M pb:Nat} {L:Lay} {R:RLay} {s:St} {own:Nat → Lb} {qf:Nat → Nat} {C:Nat} {v e:Value} (hp:PairAt wK pb L R s own qf C) (hs:Still wK wx) (hl:wx.ownsRow wK.heap.size 95 5 v s.blks.length (obCells s.blks))
 (hlt:∀ g,v.ownBlock=some g → g < M) (hM:wK.heap.size ≤ M) (hl2:wx.ownsRow M 95 5 e s.blks.length (obCells s.blks)) (hC:C + 8 ≤ 900000) (q:Bool) :
 Calls Tryz.prog 30 #[.pointer (some ⟨pb,2,none⟩),v,e,.bool q] wx fun e w' => e=.returned (.bool true) ∧ ∃ own',PairAt w' pb L R s own' qf (C + 8) ∧ PFr L R wK own w' own':=by
 have hn:=hp.n24
 have hb:=s.blk_len (64 * s.n)
 have hb:s.blks.length ≤ 64 * s.n:=hb
 have hpx:=hp.still hs
 have q3:QIn wx own wK.heap.size 2 v e s.blks.length (blF s):=qin_of (by omega) hM hl hlt hl2 (blF_at s) hp.olt
 exact kblocks_any wx pb _ _ own qf C wK.heap.size _ _ _ _ hpx.k q3 hs.size hC q _ fun w' own' hk hf => ⟨rfl,own',hpx.lists hk hf hp.rf.top,KFB.pfr hs hf⟩
set_option maxRecDepth 100000 in
set_option maxHeartbeats 6400000 in
theorem looked16 (w:World) (pb:Nat) (L:Lay) (R:RLay) (s:St) (own:Nat → Lb) (qf:Nat → Nat) (C:Nat) (h:PairAt w pb L R s own qf C) (hC16:C + 16 ≤ 900000) (wh a b c:Int) (la:Option Addr) (ll lc:Nat) :
 Calls Tryz.prog 13 #[.pointer (some ⟨pb,0,none⟩),opVal wh 16 a b c la ll lc] w fun e w' => e=.returned (.bool true) ∧ ∃ own',PairAt w' pb L R s own' qf (C + 16) ∧ PFr L R w own w' own':=by
 have HP:=Lib.hid h
 have HD1:Hid (∀ w',SpaceAt w' L s → Calls Tryz.prog 31 #[.pointer (some ⟨L.sb,0,none⟩)] w' fun e w2 => (∃ v,e=.returned v ∧ w2.ownsRow w'.heap.size 95 5 v s.blks.length (obCells s.blks)) ∧ Still w' w2):=Lib.hid fun w' hs => sblocks_any w' L s hs
 have HD2:Hid (∀ w',RefAt w' R s → Calls Tryz.prog 32 #[.pointer (some ⟨R.rb,0,none⟩)] w' fun e w2 => (∃ v,e=.returned v ∧ w2.ownsRow w'.heap.size 95 5 v s.blks.length (obCells s.blks)) ∧ Still w' w2):=Lib.hid fun w' hs => rblocks_of w' R s hs h.iv.refOk
 clear h
 go_enter Tryz.func13,Tryz.ntmps13
 go_upto_region 21 with fail
 have hsb:Still w (w.alloc (opObj wh 16 a b c la ll lc)):=(Only.refl _ _ w).alloc _
 generalize w.alloc (opObj wh 16 a b c la ll lc)=wK at *
 have hpK:=HP.out.still hsb
 have hfK:PFr L R w own wK own:=PFr.of hsb
 have hsC:Still wK wK:=Only.refl _ _ _
 have k0:=hpK.c0
 have k1:=hpK.c1
 have hpl:=hpK.lt
 clear hsb
 go_cut [4] from 133 to 162 (fun s4 wx => s4=.bool true ∧ ∃ own',PairAt wx pb L R s own' qf (C + 16) ∧ PFr L R w own wx own')
 case first =>
  go_region_held3 (fun w' => w'.cell? ⟨pb,0,none⟩=some (.pointer (some ⟨L.sb,0,none⟩)) ∧ w'.cell? ⟨pb,1,none⟩=some (.pointer (some ⟨R.rb,0,none⟩)))
   (exact (fun (x:PairAt _ pb L R s _ qf _) => ⟨x.c0,x.c1⟩) (hpK.still (by (repeat first | with_reducible exact hsC | with_reducible exact Only.refl _ _ _ | with_reducible apply Only.drew | with_reducible apply Only.drewN | with_reducible apply Only.alloc))))
   (first
     | (go_at_call 31;refine (HD1.out _ (hpK.sp.still (by (repeat first | with_reducible exact hsC | with_reducible exact Only.refl _ _ _ | with_reducible apply Only.drew | with_reducible apply Only.drewN | with_reducible apply Only.alloc)))).mono ?_;rintro e wp ⟨⟨v1,rfl,hl⟩,hcall⟩;have hl:=ownsRow_le (base':=wK.heap.size) hl (Only.size (lo:=wK.heap.size) (hi:=wK.heap.size) (w:=wK) (by (repeat first | with_reducible exact hsC | with_reducible exact Only.refl _ _ _ | with_reducible apply Only.drew | with_reducible apply Only.drewN | with_reducible apply Only.alloc)));have hsC:Still wK wp:=Still.trans (by (repeat first | with_reducible exact hsC | with_reducible exact Only.refl _ _ _ | with_reducible apply Only.drew | with_reducible apply Only.drewN | with_reducible apply Only.alloc)) hcall;have hlt:∀ g,v1.ownBlock=some g → g < wp.heap.size:=fun g hg => (hl.lt g hg).2;have hsP:Still wp wp:=Only.refl _ _ _)
     | (go_at_call 32;refine (HD2.out _ (hpK.rf.still (by (repeat first | with_reducible exact hsC | with_reducible exact Only.refl _ _ _ | with_reducible apply Only.drew | with_reducible apply Only.drewN | with_reducible apply Only.alloc)))).mono ?_;rintro e wq ⟨⟨e1,rfl,hl2⟩,hcall⟩;have hl2:=ownsRow_le (base':=wp.heap.size) hl2 (Only.size (lo:=wp.heap.size) (hi:=wp.heap.size) (w:=wp) (by (repeat first | with_reducible exact hsP | with_reducible exact Only.refl _ _ _ | with_reducible apply Only.drew | with_reducible apply Only.drewN | with_reducible apply Only.alloc)));have hl:=ownsRow_still hl (Still.trans (by (repeat first | with_reducible exact hsP | with_reducible exact Only.refl _ _ _ | with_reducible apply Only.drew | with_reducible apply Only.drewN | with_reducible apply Only.alloc)) hcall);have hMM:wK.heap.size ≤ wp.heap.size:=hsC.size;have hsC:Still wK wq:=Still.trans (by (repeat first | with_reducible exact hsC | with_reducible exact Only.refl _ _ _ | with_reducible apply Only.drew | with_reducible apply Only.drewN | with_reducible apply Only.alloc)) hcall;have hsQ:Still wq wq:=Only.refl _ _ _)
     | (go_at_call 30;refine (kb_step hpK (by (repeat first | with_reducible exact hsC | with_reducible exact Only.refl _ _ _ | with_reducible apply Only.drew | with_reducible apply Only.drewN | with_reducible apply Only.alloc)) (ownsRow_still hl (by (repeat first | with_reducible exact hsQ | with_reducible exact Only.refl _ _ _ | with_reducible apply Only.drew | with_reducible apply Only.drewN | with_reducible apply Only.alloc))) hlt hMM (ownsRow_still hl2 (by (repeat first | with_reducible exact hsQ | with_reducible exact Only.refl _ _ _ | with_reducible apply Only.drew | with_reducible apply Only.drewN | with_reducible apply Only.alloc))) (by omega) _).mono ?_;rintro e wN ⟨rfl,ownN,hpN,hfN⟩;have hfK:=hfK.trans hfN;clear hpK hsC hl hlt hMM hl2 hsP hsQ;have hpK:=hpN;have hsC:Still wN wN:=Only.refl _ _ _;obtain ⟨wK,hwK⟩:∃ x,x=wN:=⟨_,rfl⟩;subst hwK))
  all_goals
   go_wp2_with fail
   go_meet
   exact ⟨rfl,_,hpK.still (by (repeat first | with_reducible exact hsC | with_reducible exact Only.refl _ _ _ | with_reducible apply Only.drew | with_reducible apply Only.drewN | with_reducible apply Only.alloc)),hfK.still (by (repeat first | with_reducible exact hsC | with_reducible exact Only.refl _ _ _ | with_reducible apply Only.drew | with_reducible apply Only.drewN | with_reducible apply Only.alloc))⟩
 case rest =>
  obtain ⟨rfl,own',hp',hf'⟩:=hcut
  have HE:=Lib.hid (And.intro hp' hf')
  clear hp' hf' hpK hfK
  go_wp2_with fail
  go_ret
  exact ⟨rfl,own',HE.out⟩
end Go.Proofs.YtfbcdmhmpfijjaaGreatDoor
namespace Go.Proofs.YtfbcdmhmpfijjaaGreatDoor
open Go Go.RowKit
def lfCells (f:Nat → Int):Array Value:=#[.int .i64 (f 0),.int .i64 (f 1),.int .i64 (f 2),.int .i64 (f 3),.int .i64 (f 4),.int .i64 (f 5),.int .i64 (f 6),.int .i64 (f 7)]
theorem lf_set (f:Nat → Int) (c:Nat) (hc:c < 8) (u:Int):(lfCells f).setIfInBounds c (.int .i64 u)=lfCells (updF f c u):=by
 have h8:c=0 ∨ c=1 ∨ c=2 ∨ c=3 ∨ c=4 ∨ c=5 ∨ c=6 ∨ c=7:=by omega
 rcases h8 with rfl | rfl | rfl | rfl | rfl | rfl | rfl | rfl <;> rfl
theorem lf_at (f:Nat → Int) (c:Nat) (hc:c < 8):(lfCells f)[c]?=some (.int .i64 (f c)):=by
 have h8:c=0 ∨ c=1 ∨ c=2 ∨ c=3 ∨ c=4 ∨ c=5 ∨ c=6 ∨ c=7:=by omega
 rcases h8 with rfl | rfl | rfl | rfl | rfl | rfl | rfl | rfl <;> rfl
structure Sim where
 P:Nat → Pg
 low:Nat
 left:Nat → Int
def St.sim0 (s:St):Sim:=⟨s.P,s.low,fun _ => -1⟩
def Sim.ff (x:Sim) (n:Nat):Nat:=firstFree x.P n x.low
def Sim.cnt (x:Sim) (s:St) (c:Nat):Int:=if x.left c < 0 then (Bm.cnt (s.B (c + 1)) 0 (64 * s.n):Nat) else x.left c
def Sim.step (x:Sim) (s:St) (z:Int):Option Sim :=
 if Sp.cls z < 0 then none
 else if Sp.cls z=8 then
  match seekRun x.P s.n (Sp.pgs z).toNat (x.ff s.n) 0 with
  | none => none
  | some h => some ⟨runPg x.P h (Sp.pgs z).toNat,x.ff s.n,x.left⟩
 else if x.cnt s (Sp.cls z).toNat=0 then
  if x.ff s.n=s.n then none else some ⟨setPg x.P (x.ff s.n) ⟨1,Sp.cls z,0⟩,x.ff s.n,updF x.left (Sp.cls z).toNat ((Sp.bk (Sp.cls z).toNat:Int) - 1)⟩
 else some ⟨x.P,x.low,updF x.left (Sp.cls z).toNat (x.cnt s (Sp.cls z).toNat - 1)⟩
def St.simTo (s:St) (zs:Nat → Int):Nat → Option Sim
 | 0 => some s.sim0
 | k + 1 => (s.simTo zs k).bind (·.step s (zs k))
theorem St.simTo_none (s:St) (zs:Nat → Int) {i:Nat}:∀ k,s.simTo zs i=none → s.simTo zs (i + k)=none
 | 0,h => h
 | k + 1,h => by
  show (s.simTo zs (i + k)).bind _=none
  rw [s.simTo_none zs k h];rfl
theorem Sim.cnt_nn (x:Sim) (s:St) (c:Nat):0 ≤ x.cnt s c:=by
 unfold Sim.cnt
 split <;> omega
theorem cnt_le (S:Nat → Bool):∀ N,Bm.cnt S 0 N ≤ N
 | 0 => Nat.le_refl _
 | N + 1 => by
  have:=cnt_le S N
  show Bm.cnt S 0 N + (S (0 + N)).toNat ≤ _
  cases S (0 + N) <;> simp <;> omega
def OneObj (W:World) (b:Nat) (o:Obj):Prop:=W.heap[b]?=some o
theorem updF_at {α:Type} (f:Nat → α) (c:Nat) (y:α):updF f c y c=y:=if_pos rfl
theorem updF_same {α:Type} (f:Nat → α) (c:Nat):updF f c (f c)=f:=by
 funext j
 unfold updF
 split
 ·next h => rw [h]
 ·rfl
theorem updF_twice {α:Type} (f:Nat → α) (c:Nat) (y z:α):updF (updF f c y) c z=updF f c z:=by
 funext j
 unfold updF
 split <;> rfl
theorem bks_bk (c:Nat) (hc:c < 8):Sp.bks (c:Int)=(Sp.bk c:Int):=by
 have h8:c=0 ∨ c=1 ∨ c=2 ∨ c=3 ∨ c=4 ∨ c=5 ∨ c=6 ∨ c=7:=by omega
 rcases h8 with rfl | rfl | rfl | rfl | rfl | rfl | rfl | rfl <;> rfl
theorem bk_le (c:Nat) (hc:c < 8):1 ≤ Sp.bk c ∧ Sp.bk c ≤ 32:=by
 have h8:c=0 ∨ c=1 ∨ c=2 ∨ c=3 ∨ c=4 ∨ c=5 ∨ c=6 ∨ c=7:=by omega
 rcases h8 with rfl | rfl | rfl | rfl | rfl | rfl | rfl | rfl <;> decide
structure FitAt (w0:World) (lb:Nat) (s:St) (x:Sim) (cp:Bool) (tb:Nat) (W:World):Prop where
 st:Still w0 W
 lbeq:w0.heap.size ≤ lb
 left:W.heap[lb]?=some (.cells (lfCells x.left) 71 (0,0))
 bnd:∀ c,c < 8 → -1 ≤ x.left c ∧ x.left c ≤ 262144
 low:x.low ≤ s.n
 tbox:W.heap[lb + 1]?=some (.cells #[.pointer (some ⟨tb,0,none⟩)] 76 (0,0))
 cbox:W.heap[lb + 2]?=some (.cells #[.bool cp] 4 (0,0))
 tab:∃ (tlo thi pg cap:Nat) (free:Int),TableAt W tlo thi tb pg cap s.n x.P (x.low:Int) free ∧ (cp=true → lb + 3 ≤ tlo) ∧ (cp=false → thi ≤ w0.heap.size)
theorem FitAt.still {w0:World} {lb:Nat} {s:St} {x:Sim} {cp:Bool} {tb:Nat} {W W':World} (h:FitAt w0 lb s x cp tb W) (hs:Still W W'):FitAt w0 lb s x cp tb W':=by
 obtain ⟨tlo,thi,pg,cap,free,h1,h2,h3⟩:=h.tab
 exact ⟨Still.trans h.st hs,h.lbeq,at_only hs h.left (.inl (Array.getElem?_eq_some_iff.1 h.left).1),h.bnd,h.low,at_only hs h.tbox (.inl (Array.getElem?_eq_some_iff.1 h.tbox).1),at_only hs h.cbox (.inl (Array.getElem?_eq_some_iff.1 h.cbox).1),tlo,thi,pg,cap,free,h1.kept hs (.inl h1.top),h2,h3⟩
theorem FitAt.turn {w0:World} {lb:Nat} {s:St} {x:Sim} {cp:Bool} {tb:Nat} {W:World} (h:FitAt w0 lb s x cp tb W) {c:Nat} (hc:c < 8) {u:Int} (hu:-1 ≤ u ∧ u ≤ 262144) :
 FitAt w0 lb s ⟨x.P,x.low,updF x.left c u⟩ cp tb (W.setCell ⟨lb,c,none⟩ (.int .i64 u)):=by
 obtain ⟨tlo,thi,pg,cap,free,h1,h2,h3⟩:=h.tab
 have hl:=h.lbeq
 refine ⟨h.st.setCell (p:=⟨lb,c,none⟩) (.inr hl) _,hl,?_,fun j hj => ?_,h.low,?_,?_,tlo,thi,pg,cap,free,h1.kept (only_cell W lb c (.int .i64 u)) ?_,h2,h3⟩
 ·have:=cells_set h.left c (.int .i64 u)
  rw [lf_set _ _ hc] at this
  exact this
 ·show -1 ≤ updF x.left c u j ∧ updF x.left c u j ≤ 262144
  unfold updF
  split
  ·exact hu
  ·exact h.bnd j hj
 ·rw [Below.heap_setCell _ _ _ _ (by show lb + 1 ≠ lb;omega)];exact h.tbox
 ·rw [Below.heap_setCell _ _ _ _ (by show lb + 2 ≠ lb;omega)];exact h.cbox
 ·cases cp with
  | true => have:=h2 rfl;omega
  | false => have:=h3 rfl;omega
theorem FitAt.table {w0:World} {lb:Nat} {s:St} {x:Sim} {tb tlo thi pg cap:Nat} {free:Int} {W W':World} (h:FitAt w0 lb s x true tb W) (ho:Only tlo thi W W') (htl:lb + 3 ≤ tlo) {P:Nat → Pg} {low:Nat} (ht:TableAt W' tlo thi tb pg cap s.n P (low:Int) free) (hlow:low ≤ s.n) :
 FitAt w0 lb s ⟨P,low,x.left⟩ true tb W':=by
 have l0:=(Array.getElem?_eq_some_iff.1 h.left).1
 have l1:=(Array.getElem?_eq_some_iff.1 h.tbox).1
 have l2:=(Array.getElem?_eq_some_iff.1 h.cbox).1
 have hst:=h.st.size
 have hlb:=h.lbeq
 exact ⟨h.st.trans' ho (.inr (by omega)) (.inr (by omega)),h.lbeq,at_only ho h.left (.inl (by omega)),h.bnd,hlow,at_only ho h.tbox (.inl (by omega)),at_only ho h.cbox (.inl (by omega)),tlo,thi,pg,cap,free,ht,fun _ => htl,fun h => by cases h⟩
set_option maxHeartbeats 1600000 in
theorem fits1_any (w0:World) (lb:Nat) (s:St) (x:Sim) (cp:Bool) (tb:Nat) (W:World) (h:FitAt w0 lb s x cp tb W) :
 Calls Tryz.prog 61 #[.pointer (some ⟨lb + 2,0,none⟩),.pointer (some ⟨lb + 1,0,none⟩)] W fun e W' => e=.returned (.tuple #[]) ∧ ∃ tb',FitAt w0 lb s x true tb' W':=by
 have H:=Lib.hid h
 have c1:=cell_of (v:=.pointer (some ⟨tb,0,none⟩)) h.tbox 0 rfl
 have c2:=cell_of (v:=.bool cp) h.cbox 0 rfl
 have l1:=(Array.getElem?_eq_some_iff.1 h.tbox).1
 have l2:=(Array.getElem?_eq_some_iff.1 h.cbox).1
 clear h
 cases cp with
 | true =>
  go_enter Tryz.func61,Tryz.ntmps61
  go_wp2_with fail
  go_end0
  exact ⟨rfl,tb,H.out⟩
 | false =>
  obtain ⟨tlo,thi,pg,cap,free,h1,_,_⟩:=H.out.tab
  have HT:=Lib.hid h1
  clear h1
  go_enter Tryz.func61,Tryz.ntmps61
  go_wp2_with fail
  refine tcopy_any _ _ _ _ _ _ _ _ _ _ HT.out _ (fun tb' pg' cap' W' ht hs => ?_)
  have h2:=H.out.still hs
  have d1:=cell_of (v:=.pointer (some ⟨tb,0,none⟩)) h2.tbox 0 rfl
  have d2:=cell_of (v:=.bool false) h2.cbox 0 rfl
  have f1:=frozen_of h2.tbox 0
  have f2:=frozen_of h2.cbox 0
  have m1:=(Array.getElem?_eq_some_iff.1 h2.tbox).1
  have m2:=(Array.getElem?_eq_some_iff.1 h2.cbox).1
  have H2:=Lib.hid h2
  have HT2:=Lib.hid ht
  clear h2 ht hs
  go_wp2_with fail
  go_end0
  have hl:=H.out.lbeq
  refine ⟨rfl,tb',?_⟩
  have hb1:=cells_set H2.out.tbox 0 (.pointer (some ⟨tb',0,none⟩))
  have hk1:=cells_set (W:=W'.setCell ⟨lb + 1,0,none⟩ (.pointer (some ⟨tb',0,none⟩))) (b:=lb + 2) (by rw [Below.heap_setCell _ _ _ _ (by show lb + 2 ≠ lb + 1;omega)];exact H2.out.cbox) 0 (.bool true)
  refine ⟨(H2.out.st.setCell (p:=⟨lb + 1,0,none⟩) (.inr (by show w0.heap.size ≤ lb + 1;omega)) _).setCell (p:=⟨lb + 2,0,none⟩) (.inr (by show w0.heap.size ≤ lb + 2;omega)) _,hl,?_,H2.out.bnd,H2.out.low,?_,hk1,W.heap.size,W'.heap.size,pg',cap',free,?_,fun _ => by omega,fun h => by cases h⟩
  ·rw [Below.heap_setCell _ _ _ _ (by show lb ≠ lb + 2;omega),Below.heap_setCell _ _ _ _ (by show lb ≠ lb + 1;omega)];exact H2.out.left
  ·rw [Below.heap_setCell _ _ _ _ (by show lb + 1 ≠ lb + 2;omega)];exact hb1
  ·exact (HT2.out.kept (only_cell W' (lb + 1) 0 _) (.inr (by omega))).kept (only_cell _ (lb + 2) 0 _) (.inr (by omega))
def FitX (w0:World) (lb:Nat) (s:St) (x:Sim) (W:World):Prop:=∃ cp tb,FitAt w0 lb s x cp tb W
theorem FitAt.cell {w0:World} {lb:Nat} {s:St} {x:Sim} {cp:Bool} {tb:Nat} {W:World} (h:FitAt w0 lb s x cp tb W) (c:Nat) (hc:c < 8):W.cell? ⟨lb,c,none⟩=some (.int .i64 (x.left c)):=by
 simp only [World.cell?,h.left]
 rw [lf_at _ _ hc]
 rfl
theorem takeRun_no {lo hi tb pg cap n l m:Nat} {P:Nat → Pg} {free:Int} {w:World} (ht:TableAt w lo hi tb pg cap n P (l:Int) free) (hl:l ≤ n) (hm:1 ≤ m) (hm2:m ≤ 16) (hr:seekRun P n m (firstFree P n l) 0=none) :
 Calls Tryz.prog 64 #[.pointer (some ⟨tb,0,none⟩),.int .i64 (m:Int)] w fun e w' => e=.returned (.tuple #[.int .i64 0,.int .i64 20]) ∧ TableAt w' lo hi tb pg cap n P (firstFree P n l:Nat) free ∧ Only lo hi w w' :=
 takeRun_any lo hi tb pg cap n l m P free none w ht hl hm hm2 hr _ (fun _ w' h1 h2 => ⟨rfl,h1,h2⟩) (fun h e => by cases e)
theorem takeRun_yes {lo hi tb pg cap n l m h:Nat} {P:Nat → Pg} {free:Int} {w:World} (ht:TableAt w lo hi tb pg cap n P (l:Int) free) (hl:l ≤ n) (hm:1 ≤ m) (hm2:m ≤ 16) (hr:seekRun P n m (firstFree P n l) 0=some h) :
 Calls Tryz.prog 64 #[.pointer (some ⟨tb,0,none⟩),.int .i64 (m:Int)] w fun e w' => e=.returned (.tuple #[.int .i64 (h:Int),.int .i64 0]) ∧ TableAt w' lo hi tb pg cap n (runPg P h m) (firstFree P n l:Nat) (wrap64 (free - m)) ∧ Only lo hi w w' :=
 takeRun_any lo hi tb pg cap n l m P free (some h) w ht hl hm hm2 hr _ (fun e => by cases e) (fun h' e w' h1 h2 => by injection e with e;subst e;exact ⟨rfl,h1,h2⟩)
def lfTo (c:Nat) (j:Nat):Int:=if j < c then -1 else 0
theorem lfTo_succ (c:Nat):updF (lfTo c) c (-1)=lfTo (c + 1):=by
 funext j
 unfold updF lfTo
 by_cases h:j=c
 ·rw [if_pos h,if_pos (by omega)]
 ·rw [if_neg h]
  by_cases h2:j < c
  ·rw [if_pos h2,if_pos (by omega)]
  ·rw [if_neg h2,if_neg (by omega)]
set_option maxRecDepth 100000 in
set_option maxHeartbeats 3200000 in
theorem sfits_any (w:World) (L:Lay) (s:St) (h:SpaceAt w L s) (a:Option Addr) (len cap:Nat) (zs:Nat → Int) (hz:IsRowI w a len cap zs) (hlen:len ≤ 1000000) :
 Calls Tryz.prog 25 #[.pointer (some ⟨L.sb,0,none⟩),.slice a len cap] w fun e w' => e=.returned (.bool (s.simTo zs len).isSome) ∧ Still w w':=by
 have HS:=Lib.hid h
 have HZ:=Lib.hid hz
 have hlI:(len:Int) ≤ 1000000:=by omega
 clear h hz
 go_enter Tryz.func25,Tryz.ntmps25
 go_wp2_with fail
 have hb0:=heap_alloc_new w (.cells #[.int .i64 0,.int .i64 0,.int .i64 0,.int .i64 0,.int .i64 0,.int .i64 0,.int .i64 0,.int .i64 0] 71)
 have hs0:Still w (w.alloc (.cells #[.int .i64 0,.int .i64 0,.int .i64 0,.int .i64 0,.int .i64 0,.int .i64 0,.int .i64 0,.int .i64 0] 71)):=(Only.refl _ _ w).alloc _
 have hz0:(w.alloc (.cells #[.int .i64 0,.int .i64 0,.int .i64 0,.int .i64 0,.int .i64 0,.int .i64 0,.int .i64 0,.int .i64 0] 71)).heap.size=w.heap.size + 1:=by simp
 generalize w.alloc (.cells #[.int .i64 0,.int .i64 0,.int .i64 0,.int .i64 0,.int .i64 0,.int .i64 0,.int .i64 0,.int .i64 0] 71)=w1 at *
 obtain ⟨lb,hlb⟩:∃ lb,w.heap.size=lb:=⟨_,rfl⟩
 rw [hlb] at hb0 hz0 ⊢
 have HB0:Hid (w1.heap[lb]?=some (.cells (lfCells (lfTo 0)) 71 (0,0))):=Lib.hid hb0
 have HS0:=Lib.hid hs0
 have HLB:=Lib.hid (And.intro hlb hz0)
 clear hb0 hs0 hz0 hlb
 go_loopw [14] (fun y W => ∃ c:Nat,y=.int .i64 (c:Int) ∧ c ≤ 8 ∧ Still w W ∧ W.heap.size=lb + 1 ∧ ∃ f,f=lfTo c ∧ OneObj W lb (.cells (lfCells f) 71 (0,0))) (fun y _ => 9 - (intOf y).toNat)
 case atStart => exact ⟨0,rfl,Nat.zero_le _,HS0.out,HLB.out.2,_,rfl,HB0.out⟩
 case round =>
  obtain ⟨c,rfl,hc,hst,hsz,f,rfl,hbx⟩:=hrel
  have hc0:(0:Int) ≤ (c:Int):=by omega
  have HST:=Lib.hid hst
  have HBX:=Lib.hid hbx
  have HSZ:=Lib.hid hsz
  by_cases hc8:c < 8
  ·have hcI:(c:Int) < 8:=by omega
   have y0:wr.cell? ⟨lb,c,none⟩=some (.int .i64 (lfTo c c)):=by
    simp only [World.cell?,show wr.heap[lb]?=_ from hbx]
    rw [lf_at _ _ hc8]
    rfl
   have f0:=frozen_of (show wr.heap[lb]?=some (.cells _ _ _) from hbx) c
   have ll:=(Array.getElem?_eq_some_iff.1 (show wr.heap[lb]?=some _ from hbx)).1
   have hnb:=cells_set (show wr.heap[lb]?=some (.cells _ _ _) from hbx) c (.int .i64 (-1))
   rw [lf_set _ _ hc8,lfTo_succ] at hnb
   have HNB:Hid (OneObj (wr.setCell ⟨lb,c,none⟩ (.int .i64 (-1))) lb (.cells (lfCells (lfTo (c + 1))) 71 (0,0))):=Lib.hid hnb
   have HNS:=Lib.hid (hst.setCell (p:=⟨lb,c,none⟩) (.inr (by show w.heap.size ≤ lb;have:=HLB.out.1;omega)) (.int .i64 (-1)))
   generalize lfTo c c=u at *
   clear hst hbx hnb hsz
   go_wp2_with fail
   exact ⟨⟨c + 1,by go_num,hc8,HNS.out,by simpa [World.setCell] using HSZ.out,_,rfl,HNB.out⟩,by simp [intOf];omega⟩
  ·obtain rfl:c=8:=by omega
   have hS:=HS.out.still hst
   have c1:=hS.c1
   have cl:=hS.sblt
   have hst3:Still wr ((wr.alloc (.cells #[.pointer (some ⟨L.tb,0,none⟩)] 76)).alloc (.cells #[.bool false] 4)):=((Only.refl _ _ wr).alloc _).alloc _
   have hx1:((wr.alloc (.cells #[.pointer (some ⟨L.tb,0,none⟩)] 76)).alloc (.cells #[.bool false] 4)).heap[lb + 1]?=some (.cells #[.pointer (some ⟨L.tb,0,none⟩)] 76 (0,0)):=by
    rw [Below.heap_alloc _ _ _ (by simp [hsz]),← hsz];exact heap_alloc_new wr _
   have hx2:((wr.alloc (.cells #[.pointer (some ⟨L.tb,0,none⟩)] 76)).alloc (.cells #[.bool false] 4)).heap[lb + 2]?=some (.cells #[.bool false] 4 (0,0)):=by
    have:=heap_alloc_new (wr.alloc (.cells #[.pointer (some ⟨L.tb,0,none⟩)] 76)) (.cells #[.bool false] 4)
    rwa [World.size_alloc,hsz] at this
   clear hS hst hbx hsz
   go_wp2_with fail
   generalize (wr.alloc (.cells #[.pointer (some ⟨L.tb,0,none⟩)] 76)).alloc (.cells #[.bool false] 4)=w3 at *
   rw [HSZ.out]
   have hst4:=Still.trans HST.out hst3
   have hF:FitAt w lb s s.sim0 false L.tb w3:=by
    obtain ⟨free,ht⟩:=HS.out.table
    have hi2:=HS.out.ok.inn 2 (by omega)
    have htp:=HS.out.top
    exact ⟨hst4,by have:=HLB.out.1;omega,at_only hst3 (show wr.heap[lb]?=some (.cells (lfCells fun _ => -1) 71 (0,0)) from HBX.out) (.inl (Array.getElem?_eq_some_iff.1 (show wr.heap[lb]?=some _ from HBX.out)).1),fun c hc => ⟨Int.le_refl _,by show (-1:Int) ≤ 262144;omega⟩,HS.out.lowle,hx1,hx2,L.tlo,L.thi,L.pg,L.cap,free,ht.kept hst4 (.inl ht.top),fun h => (by cases h),fun _ => by simp only [Lay.b] at hi2;omega⟩
   have HF:=Lib.hid hF
   clear hF hst3 hst4 hx1 hx2 c1 cl HBX
   go_loopw [27] (fun y W => ∃ (k:Nat) (x:Sim),y=.int .i64 (k:Int) ∧ k ≤ len ∧ s.simTo zs k=some x ∧ FitX w lb s x W) (fun y _ => len + 1 - (intOf y).toNat)
   case atStart => exact ⟨0,_,rfl,Nat.zero_le _,rfl,_,_,HF.out⟩
   case round =>
    obtain ⟨k,x,rfl,hk,hsim,cp,tb,hfit⟩:=hrel
    have hk0:(0:Int) ≤ (k:Int):=by omega
    have HFT:=Lib.hid hfit
    have HSIM:=Lib.hid hsim
    by_cases hkl:k < len
    ·have hkI:(k:Int) < (len:Int):=by omega
     obtain ⟨ad,rfl,had,hwf⟩:=HZ.out.2 k hkl
     have hal:=World.block_lt_of_cell? w _ had
     have had2:wr.cell? (ad.add k)=some (.int .i64 (zs k)):=(hfit.st.cell (p:=ad.add k) hal (.inl hal)).trans had
     have HNX:Hid (s.simTo zs (k + 1)=x.step s (zs k)):=Lib.hid (by show (s.simTo zs k).bind _=_;rw [hsim];rfl)
     have HBAD:Hid (x.step s (zs k)=none → (s.simTo zs len).isSome=false):=Lib.hid fun h => by
      have:=s.simTo_none zs (i:=k + 1) (len - (k + 1)) (by rw [HNX.out];exact h)
      rw [show k + 1 + (len - (k + 1))=len by omega] at this
      rw [this];rfl
     obtain ⟨z,hz⟩:∃ z,zs k=z:=⟨_,rfl⟩
     rw [hz] at had2 HNX HBAD
     have HOF:=Lib.hid (of_any z wr)
     clear hsim hfit hz had hal hwf
     go_wp2_with fail
     refine HOF.out.mono ?_
     rintro e w4 ⟨rfl,hs4⟩
     have HF4:=Lib.hid (HFT.out.still hs4)
     clear hs4 HOF HFT had2
     have hcz:Sp.cls z=-1 ∨ Sp.cls z=8 ∨ ∃ c:Nat,c < 8 ∧ Sp.cls z=(c:Int):=by
      by_cases h1:1 ≤ z ∧ z ≤ 1024
      ·have:=Sp.cls_in h1.1 h1.2
       by_cases h8:Sp.cls z=8
       ·exact .inr (.inl h8)
       ·exact .inr (.inr ⟨(Sp.cls z).toNat,by omega,by omega⟩)
      ·left;unfold Sp.cls;rw [if_pos (by omega)]
     rcases hcz with h1 | h8 | ⟨c,hc,hcz⟩
     ·have hbad:=HBAD.out (by unfold Sim.step;rw [if_pos (by omega)])
      have HB1:=Lib.hid hbad
      rw [h1]
      clear hbad h1
      go_wp2_with fail
      go_ret
      exact ⟨by rw [HB1.out];rfl,HF4.out.st⟩
     ·have hst8:x.step s z=match seekRun x.P s.n (Sp.pgs z).toNat (x.ff s.n) 0 with
       | none => none
       | some h => some ⟨runPg x.P h (Sp.pgs z).toNat,x.ff s.n,x.left⟩:=by
       unfold Sim.step
       rw [if_neg (by omega),if_pos h8]
      have hpz:1 ≤ (Sp.pgs z).toNat ∧ (Sp.pgs z).toNat ≤ 16 ∧ Sp.pgs z=(((Sp.pgs z).toNat:Nat):Int):=by
       have h2:=(Sp.wide_run h8).2
       have h3:Sp.pgs z=(z + 63) / 64:=by unfold Sp.pgs;rw [if_pos h8]
       have h4:=Sp.cls_8 h8
       omega
      have HPG:=Lib.hid (fun W => pages_any z W)
      rw [hpz.2.2] at HPG
      obtain ⟨m,hm⟩:∃ m,(Sp.pgs z).toNat=m:=⟨_,rfl⟩
      rw [hm] at HPG hpz hst8
      rw [h8]
      have HF1:=Lib.hid (fits1_any w lb s x cp tb w4 HF4.out)
      have hlow:=HF4.out.low
      clear hm h8 HF4
      go_wp2_with (go_at_call 61;refine HF1.out.mono ?_;rintro e w5 ⟨rfl,tb',hf5⟩;have HF5:=Lib.hid hf5;have c5:=cell_of (v:=.pointer (some ⟨tb',0,none⟩)) hf5.tbox 0 rfl;have l5:=(Array.getElem?_eq_some_iff.1 hf5.tbox).1;clear hf5)
      obtain ⟨tlo,thi,pg,cap5,free,ht5,htl,_⟩:=HF5.out.tab
      have htlo:=htl rfl
      clear htl
      have HT5:=Lib.hid ht5
      have hff:firstFree x.P s.n x.low ≤ s.n:=firstFree_le _ _ _ hlow
      have HS1:Hid (∀ w',Only tlo thi w5 w' → w'.cell? ⟨lb + 1,0,none⟩=some (.pointer (some ⟨tb',0,none⟩))):=Lib.hid fun w' h => cell_of (v:=.pointer (some ⟨tb',0,none⟩)) (at_only h HF5.out.tbox (.inl (by omega))) 0 rfl
      cases hr:seekRun x.P s.n m (x.ff s.n) 0 with
      | none =>
       rw [hr] at hst8
       have HB1:=Lib.hid (HBAD.out hst8)
       have HTR:=Lib.hid (fun (W:World) (h:TableAt W tlo thi tb' pg cap5 s.n x.P (x.low:Int) free) => takeRun_no h hlow hpz.1 hpz.2.1 hr)
       have hsW:Still w5 w5:=Only.refl _ _ _
       clear hst8 hr ht5
       go_region_held3 (fun w' => w'.cell? ⟨lb + 1,0,none⟩=some (.pointer (some ⟨tb',0,none⟩)))
        ((refine HS1.out _ ?_;repeat first | with_reducible exact hOW | with_reducible exact Still.any hsW _ _ | with_reducible exact Only.refl _ _ _ | with_reducible apply Only.drew | with_reducible apply Only.drewN | with_reducible apply Only.alloc))
        (first
          | (go_at_call 65;refine (HPG.out _).mono ?_;rintro e wp ⟨rfl,hcall⟩;have hsW:Still w5 wp:=Still.trans (by (repeat first | with_reducible exact hsW | with_reducible exact Only.refl _ _ _ | with_reducible apply Only.drew | with_reducible apply Only.drewN | with_reducible apply Only.alloc)) hcall)
          | (go_at_call 64;refine (HTR.out _ (HT5.out.kept (by (repeat first | with_reducible exact hsW | with_reducible exact Only.refl _ _ _ | with_reducible apply Only.drew | with_reducible apply Only.drewN | with_reducible apply Only.alloc):Still w5 _) (.inl HT5.out.top))).mono ?_;rintro e wq ⟨rfl,htq,hoq⟩;have hOW:Only tlo thi w5 wq:=Only.trans (Still.any (by (repeat first | with_reducible exact hsW | with_reducible exact Only.refl _ _ _ | with_reducible apply Only.drew | with_reducible apply Only.drewN | with_reducible apply Only.alloc)) _ _) hoq))
       rename_i hHeld
       clear hHeld
       have HFQ:=Lib.hid (HF5.out.table hOW htlo htq hff)
       clear htq hOW
       go_wp2_with fail
       go_ret
       exact ⟨by rw [HB1.out];rfl,HFQ.out.st⟩
      | some h =>
       rw [hr] at hst8
       have HNX2:=Lib.hid (HNX.out.trans hst8)
       have HTR:=Lib.hid (fun (W:World) (h:TableAt W tlo thi tb' pg cap5 s.n x.P (x.low:Int) free) => takeRun_yes h hlow hpz.1 hpz.2.1 hr)
       have hsW:Still w5 w5:=Only.refl _ _ _
       clear hst8 hr ht5
       go_region_held3 (fun w' => w'.cell? ⟨lb + 1,0,none⟩=some (.pointer (some ⟨tb',0,none⟩)))
        ((refine HS1.out _ ?_;repeat first | with_reducible exact hOW | with_reducible exact Still.any hsW _ _ | with_reducible exact Only.refl _ _ _ | with_reducible apply Only.drew | with_reducible apply Only.drewN | with_reducible apply Only.alloc))
        (first
          | (go_at_call 65;refine (HPG.out _).mono ?_;rintro e wp ⟨rfl,hcall⟩;have hsW:Still w5 wp:=Still.trans (by (repeat first | with_reducible exact hsW | with_reducible exact Only.refl _ _ _ | with_reducible apply Only.drew | with_reducible apply Only.drewN | with_reducible apply Only.alloc)) hcall)
          | (go_at_call 64;refine (HTR.out _ (HT5.out.kept (by (repeat first | with_reducible exact hsW | with_reducible exact Only.refl _ _ _ | with_reducible apply Only.drew | with_reducible apply Only.drewN | with_reducible apply Only.alloc):Still w5 _) (.inl HT5.out.top))).mono ?_;rintro e wq ⟨rfl,htq,hoq⟩;have hOW:Only tlo thi w5 wq:=Only.trans (Still.any (by (repeat first | with_reducible exact hsW | with_reducible exact Only.refl _ _ _ | with_reducible apply Only.drew | with_reducible apply Only.drewN | with_reducible apply Only.alloc)) _ _) hoq))
       rename_i hHeld
       clear hHeld
       have HFQ:=Lib.hid (HF5.out.table hOW htlo htq hff)
       clear htq hOW
       go_wp2_with fail
       refine ⟨?_,by simp [intOf];omega⟩
       repeat apply Exists.intro
       refine ⟨⟨k + 1,_,?hy,hkl,HNX2.out,_,_,HFQ.out⟩,rfl⟩
       case hy => go_num
     ·have hst0:x.step s z=if x.cnt s c=0 then (if x.ff s.n=s.n then none else some ⟨setPg x.P (x.ff s.n) ⟨1,(c:Int),0⟩,x.ff s.n,updF x.left c ((Sp.bk c:Int) - 1)⟩) else some ⟨x.P,x.low,updF x.left c (x.cnt s c - 1)⟩:=by
       unfold Sim.step
       rw [if_neg (by omega),if_neg (by omega),hcz,Int.toNat_natCast]
      have hS4:=HS.out.still HF4.out.st
      have c3:=hS4.c3 c hc
      have cl:=hS4.sblt
      have y0:=HF4.out.cell c hc
      have yf:=frozen_of HF4.out.left c
      have yl:=(Array.getElem?_eq_some_iff.1 HF4.out.left).1
      have hbn:=HF4.out.bnd c hc
      have HCN:=Lib.hid (count_any _ _ _ _ _ w4 (hS4.maps (c + 1) (by omega)))
      have hc0:(0:Int) ≤ (c:Int):=by omega
      have hcI:(c:Int) < 8:=by omega
      have hc8:((c:Int) == 8)=false:=by simp;omega
      have hcl:=cnt_le (s.B (c + 1)) (64 * s.n)
      have hn2:=HS.out.n2
      have hcnt:x.cnt s c=if x.left c < 0 then (Bm.cnt (s.B (c + 1)) 0 (64 * s.n):Int) else x.left c:=rfl
      obtain ⟨u,hu⟩:∃ u,x.left c=u:=⟨_,rfl⟩
      have HU:=Lib.hid hu
      rw [hu] at y0 hbn hcnt
      rw [hcz]
      have HC0:=Lib.hid hst0
      clear hst0 hS4 hcz hu
      go_upto_if 36 with fail
      go_cut [13] from 36 to 45 (fun s13 wx => s13=.int .i64 0 ∧ FitAt w lb s ⟨x.P,x.low,updF x.left c (x.cnt s c)⟩ cp tb wx)
      case first =>
       by_cases hu0:u < 0
       ·rw [if_pos hu0] at hcnt
        have HCT:=Lib.hid hcnt
        clear hcnt
        go_wp2_with fail
        refine HCN.out.mono ?_
        rintro e w5 ⟨rfl,q,rfl⟩
        have hf5:=HF4.out.still ((Only.refl _ _ w4).drewN q:Still w4 _)
        have z0:=hf5.cell c hc
        have zf:=frozen_of hf5.left c
        have zl:=(Array.getElem?_eq_some_iff.1 hf5.left).1
        have HTN:=Lib.hid (hf5.turn hc (u:=(Bm.cnt (s.B (c + 1)) 0 (64 * s.n):Int)) (by omega))
        clear hf5
        go_wp2_with fail
        go_meet
        exact ⟨rfl,by rw [HCT.out];exact HTN.out⟩
       ·rw [if_neg hu0] at hcnt
        have HCT:=Lib.hid hcnt
        clear hcnt
        have hu1:0 ≤ u:=by omega
        go_wp2_with fail
        go_meet
        exact ⟨rfl,by rw [HCT.out,← HU.out,updF_same];exact HF4.out⟩
      case rest =>
       obtain ⟨rfl,hf5⟩:=hcut
       have hl0:=x.cnt_nn s c
       have hl1:x.cnt s c ≤ 262144:=by rw [hcnt];split <;> omega
       obtain ⟨l,hl⟩:∃ l,x.cnt s c=l:=⟨_,rfl⟩
       rw [hl] at hf5 hl0 hl1
       have HCL:=Lib.hid hl
       have z0:wc.cell? ⟨lb,c,none⟩=some (.int .i64 (updF x.left c l c)):=hf5.cell c hc
       rw [updF_at] at z0
       have zf:=frozen_of hf5.left c
       have zl:=(Array.getElem?_eq_some_iff.1 hf5.left).1
       have HF5:=Lib.hid hf5
       clear hf5 hl hcnt y0 yf yl c3 cl HCN HF4
       by_cases h0:l=0
       ·subst h0
        have HF1:=Lib.hid (fits1_any w lb s _ cp tb wc HF5.out)
        have hlow:=HF5.out.low
        clear zf zl hl0 hl1 HF5
        go_wp2_with (go_at_call 61;refine HF1.out.mono ?_;rintro e w6 ⟨rfl,tb',hf6⟩;have HF6:=Lib.hid hf6;have c6:=cell_of (v:=.pointer (some ⟨tb',0,none⟩)) hf6.tbox 0 rfl;have l6:=(Array.getElem?_eq_some_iff.1 hf6.tbox).1;clear hf6)
        obtain ⟨tlo,thi,pg,cap5,free,ht5,htl,_⟩:=HF6.out.tab
        have htlo:=htl rfl
        have HT5:=Lib.hid ht5
        clear htl ht5
        have hbk:=bk_le c hc
        have HBL:=Lib.hid (fun W => blocks_any (c:Int) W)
        rw [bks_bk c hc] at HBL
        obtain ⟨bk,hbke⟩:∃ bk,Sp.bk c=bk:=⟨_,rfl⟩
        rw [hbke] at HBL hbk HC0
        rw [HCL.out,if_pos rfl] at HC0
        have hwb:IntKind.i64.wrap ((bk:Int) - 1)=(bk:Int) - 1:=by rw [IntKind.wrap_i64];omega
        clear hbke
        have hff:x.ff s.n ≤ s.n:=firstFree_le _ _ _ hlow
        by_cases hfn:x.ff s.n=s.n
        ·rw [if_pos hfn] at HC0
         have HB1:=Lib.hid (HBAD.out HC0.out)
         refine (takeClass_none _ _ _ _ _ _ _ _ _ _ _ HT5.out hlow ⟨hc0,hcI⟩ hfn).mono ?_
         rintro e w7 ⟨rfl,ht7,ho7⟩
         have hf7:=HF6.out.table ho7 htlo ht7 (Nat.le_refl _)
         have z0:=hf7.cell c hc
         have zf:=frozen_of hf7.left c
         have zl:=(Array.getElem?_eq_some_iff.1 hf7.left).1
         have HF7:=Lib.hid hf7
         clear ht7 ho7 hf7 HC0
         go_wp2_with fail
         refine (HBL.out _).mono ?_
         rintro e w8 ⟨rfl,hs8⟩
         have hf8:=HF7.out.still hs8
         have z0:=hf8.cell c hc
         have zf:=frozen_of hf8.left c
         have zl:=(Array.getElem?_eq_some_iff.1 hf8.left).1
         have HST8:=Lib.hid (((hf8.st.setCell (p:=⟨lb,c,none⟩) (.inr (by show w.heap.size ≤ lb;have:=hf8.lbeq;omega)) (.int .i64 (bk:Int))).setCell (p:=⟨lb,c,none⟩) (.inr (by show w.heap.size ≤ lb;have:=hf8.lbeq;omega)) (.int .i64 ((bk:Int) - 1))))
         clear hs8 hf8
         go_wp2_with fail
         go_ret
         exact ⟨by rw [HB1.out];rfl,HST8.out⟩
        ·rw [if_neg hfn] at HC0
         have HNX2:=Lib.hid (HNX.out.trans HC0.out)
         obtain ⟨ff,hffe⟩:∃ ff,x.ff s.n=ff:=⟨_,rfl⟩
         rw [hffe] at hff hfn HNX2
         refine (takeClass_yes _ _ _ _ _ _ _ ff _ _ _ _ HT5.out hlow ⟨hc0,hcI⟩ hffe (by omega)).mono ?_
         rintro e w7 ⟨rfl,ht7,ho7⟩
         have hf7:=HF6.out.table ho7 htlo ht7 (by omega)
         have HF7:=Lib.hid hf7
         have hffI:(0:Int) ≤ (ff:Int):=by omega
         clear ht7 ho7 hf7 HC0
         go_wp2_with fail
         refine (HBL.out _).mono ?_
         rintro e w8 ⟨rfl,hs8⟩
         have hf8:=HF7.out.still hs8
         have z0:=hf8.cell c hc
         have zf:=frozen_of hf8.left c
         have zl:=(Array.getElem?_eq_some_iff.1 hf8.left).1
         have hf9:=(hf8.turn hc (u:=(bk:Int)) (by omega)).turn hc (u:=(bk:Int) - 1) (by omega)
         dsimp only at hf9
         rw [updF_twice,updF_twice] at hf9
         have HF9:=Lib.hid hf9
         clear hs8 hf8 hf9
         go_wp2_with fail
         refine ⟨?_,by simp [intOf];omega⟩
         repeat apply Exists.intro
         refine ⟨?hr,rfl⟩
         case hr => first | exact ⟨k + 1,_,by go_num,hkl,HNX2.out,_,_,HF9.out⟩ | exact ⟨k + 1,by go_num,hkl,_,HNX2.out,_,_,HF9.out⟩
       ·have hne:(l == 0)=false:=by simpa using h0
        have HNX2:Hid (s.simTo zs (k + 1)=some ⟨x.P,x.low,updF x.left c (l - 1)⟩):=Lib.hid (by rw [HNX.out,HC0.out,HCL.out,if_neg h0])
        have HTN:=HF5.out.turn hc (u:=l - 1) (by omega)
        have hwl:IntKind.i64.wrap (l - 1)=l - 1:=by rw [IntKind.wrap_i64];omega
        rw [show updF (updF x.left c l) c (l - 1)=updF x.left c (l - 1) from updF_twice _ _ _ _] at HTN
        have HTT:=Lib.hid HTN
        clear HTN
        go_wp2_with fail
        refine ⟨?_,by simp [intOf];omega⟩
        repeat apply Exists.intro
        refine ⟨?hr,rfl,rfl,rfl,rfl,rfl⟩
        case hr => first | exact ⟨k + 1,_,by go_num,hkl,HNX2.out,_,_,HTT.out⟩ | exact ⟨k + 1,by go_num,hkl,_,HNX2.out,_,_,HTT.out⟩
    ·obtain rfl:k=len:=by omega
     have HST9:=Lib.hid hfit.st
     clear hfit hsim
     go_wp2_with fail
     go_ret
     exact ⟨by rw [HSIM.out];rfl,HST9.out⟩
end Go.Proofs.YtfbcdmhmpfijjaaGreatDoor
