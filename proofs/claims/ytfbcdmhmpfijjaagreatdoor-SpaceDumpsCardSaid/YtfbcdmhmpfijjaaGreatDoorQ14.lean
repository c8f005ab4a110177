/-
  What Keep makes of a space; marks of loops.
-/
import Derived.RangeFuncLeaves
import Derived.RangeFuncSeq
import Derived.RangeFuncCalls
import Derived.WalkKit
import Derived.OwnWalkIn
import Derived.TacticsInMore
import Derived.LoopNIn
import Derived.LoopIn
import Derived.Test.YtfbcdmhmpfijjaaGreatDoorQ13
import Derived.Shelf.Abstract
set_option linter.unusedVariables false
set_option linter.unusedSimpArgs false
set_option linter.unusedSectionVars false
namespace Go.Proofs.YtfbcdmhmpfijjaaGreatDoor
open Go Go.RowKit
structure Rc where
 fn:FuncId
 tmps:Array Value
 ps:Array Tmp
 assign:Code
 body:Code
 D:Nat
def Rc.at (r:Rc) (st:LoopState) (pe:Option Code):Obj:=.loop { state:=st,pending:=pe,fn:=r.fn,tmps:=r.tmps,params:=r.ps,assign:=r.assign,body:=r.body,defers:=r.D }
def Rc.post (r:Rc) (l:Nat) (R:Ending → World → Prop):Exit → Act → World → Prop
 | .normal,_,w => w.heap[l]?=some (r.at .busy none) ∧ R (.returned (.bool true)) (w.putObj l (r.at .ready none))
 | .ret,_,w => w.heap[l]?=some (r.at .busy none) ∧ R (.returned (.bool false)) (w.putObj l (r.at .done (some .ret)))
 | .exit id,_,w => w.heap[l]?=some (r.at .busy none) ∧ R (.returned (.bool false)) (w.putObj l (r.at .done (some (.exit id))))
 | _,_,_ => False
section
variable {P:Program} {n:Nat}
theorem yield_at (r:Rc) {l:Nat} {args:Array Value} {W:World} {R:Ending → World → Prop} (hl:W.heap[l]?=some (r.at .ready none)) (hs:args.size=r.ps.size)
 (h:r.assign.wpIn (Fence.wide.inRound l) n P (Exit.then (fun a₁ w₁ => w₁.heap[l]?=some (r.at .ready none) ∧ r.body.wpIn (Fence.wide.inRound l) n P (r.post l R) a₁ (w₁.putObj l (r.at .busy none))) (fun _ _ _ => False))
   { tmps:=(r.ps.zip args).foldl (fun t (p,v) => t.setIfInBounds p v) r.tmps,defers:=[] } W) :
 YieldAt Fence.wide n P l args W R:=by
 unfold Rc.at at hl
 refine ⟨r.fn,_,r.assign,r.body,run_yield hl hs,roundIn_of_wpIn trivial ?_⟩
 refine wpIn_mono h ?_
 intro e a₁ w₁ hp
 cases e with
 | normal =>
  obtain ⟨hl1,hb⟩:=hp
  unfold Rc.at at hl1
  refine ⟨_,run_beginRound hl1 rfl,?_⟩
  refine wpIn_mono hb ?_
  intro e2 a2 w2 hp2
  cases e2 with
  | normal =>
   obtain ⟨h1,h2⟩:=hp2
   unfold Rc.at at h1
   exact ⟨_,_,run_endRound none h1,h2⟩
  | ret =>
   obtain ⟨h1,h2⟩:=hp2
   unfold Rc.at at h1
   exact ⟨_,_,run_endRound (some .ret) h1,h2⟩
  | exit id =>
   obtain ⟨h1,h2⟩:=hp2
   unfold Rc.at at h1
   exact ⟨_,_,run_endRound (some (.exit id)) h1,h2⟩
  | goto t => exact hp2.elim
  | panic ch => exact hp2.elim
  | outgrown => exact hp2.elim
 | ret => exact hp.elim
 | exit id => exact hp.elim
 | goto t => exact hp.elim
 | panic ch => exact hp.elim
 | outgrown => exact hp.elim
def markOf (D:Nat):Deferred:={ target:=.collected D,args:=#[] }
theorem wpIn_range {g:Operand} {ps:Array Tmp} {assign body:Code} {Q:Exit → Act → World → Prop} {a:Act} {w:World} {gf:Nat} {lb:Array Value}
 (hg:a.eval g=.func (.func gf) #[] lb) (eg:∀ args w,(callFunc gf args).run P w=.ok (.enter gf args) w)
 (h:∀ r:Rc,r.tmps=a.tmps → r.ps=ps → r.assign=assign → r.body=body → ∀ W1,W1=(w.alloc (.deferred (some []))).alloc (r.at .ready none) →
   CallsIn Fence.wide (n - 1) P gf (#[.func (.yield (w.heap.size + 1)) #[] #[]] ++ lb) W1 fun e W2 => (∃ v,e=.returned v) ∧
    ((W2.heap[w.heap.size + 1]?=some (r.at .ready none) ∧ Q .normal { a with defers:=markOf w.heap.size :: a.defers } (W2.putObj (w.heap.size + 1) (r.at .exhausted none))) ∨
     (∃ c,W2.heap[w.heap.size + 1]?=some (r.at .done (some c)) ∧ c.wpIn Fence.wide n P Q { a with defers:=markOf w.heap.size :: a.defers } (W2.putObj (w.heap.size + 1) (r.at .exhausted (some c)))))) :
 (Code.rangeFunc g ps assign body).wpIn Fence.wide n P Q a w:=by
 refine wpIn_rangeFunc ?_
 intro fn _
 have hc:=h ⟨fn,a.tmps,ps,assign,body,w.heap.size⟩ rfl rfl rfl rfl _ rfl
 refine ⟨w.heap.size + 1,[markOf w.heap.size],(w.alloc (.deferred (some []))).alloc (Rc.at ⟨fn,a.tmps,ps,assign,body,w.heap.size⟩ .ready none),{ target:=.fn (.func gf) lb,args:=#[.func (.yield (w.heap.size + 1)) #[] #[]] },(w.alloc (.deferred (some []))).alloc (Rc.at ⟨fn,a.tmps,ps,assign,body,w.heap.size⟩ .ready none),gf,
  #[.func (.yield (w.heap.size + 1)) #[] #[]] ++ lb,(w.alloc (.deferred (some []))).alloc (Rc.at ⟨fn,a.tmps,ps,assign,body,w.heap.size⟩ .ready none),?_,?_,fun _ _ => trivial,?_,fun hh => (by cases hh),?_⟩
 ·exact run_enterLoop_outer _ _ _ _ _
 ·simp only [resolve,hg]
  simp [go_sem]
 ·simp [invoke,go_sem,eg]
 ·refine hc.mono ?_
  rintro e W2 ⟨⟨v,rfl⟩,h | ⟨c,h1,h2⟩⟩
  ·obtain ⟨h1,h2⟩:=h
   unfold Rc.at at h1
   exact ⟨none,_,run_endLoop h1 (by simp),h2⟩
  ·unfold Rc.at at h1
   exact ⟨some c,_,run_endLoop h1 (by simp),h2⟩
end
end Go.Proofs.YtfbcdmhmpfijjaaGreatDoor
namespace Go.Proofs.YtfbcdmhmpfijjaaGreatDoor
open Go Go.RowKit
set_option maxRecDepth 100000 in
set_option maxHeartbeats 1600000 in
theorem iter_in (n l:Nat) (J:Nat → (Nat → Bool) → World → Prop) (D:World → Prop) (lo hi N bx:Nat) (p:Addr)
 (hmap:∀ a S w,J a S w → IsMap w lo hi p N S ∧ Tab w ∧ w.cell? ⟨bx,0,none⟩=some (.pointer (some p)))
 (hyield:∀ a S w i,J a S w → Bm.next S N a=((i:Nat):Int) → a ≤ i → i < N →
   YieldAt Fence.wide (n - 1) Tryz.prog l #[.int .i64 (i:Int)] w fun e w' => (e=.returned (.bool true) ∧ ∃ S',J (i + 1) S' w') ∨ (e=.returned (.bool false) ∧ D w'))
 (hdrew:∀ a S w m,J a S w → J a S (w.drewN m))
 (hend:∀ a S w,J a S w → Bm.next S N a=-1 → D w)
 (S:Nat → Bool) (w:World) (h:J 0 S w) :
 CallsIn Fence.wide n Tryz.prog 124 #[.func (.yield l) #[] #[],.pointer (some ⟨bx,0,none⟩)] w fun e w' => (∃ v,e=.returned v) ∧ D w':=by
 obtain ⟨hm,hT,hb⟩:=hmap 0 S w h
 have HJ:=Lib.hid h;clear h
 have HM:=Lib.hid hmap;clear hmap
 have HY:=Lib.hid hyield;clear hyield
 have HE:=Lib.hid hend;clear hend
 have HDR:=Lib.hid hdrew;clear hdrew
 have H1:=Lib.hid hm;clear hm
 have H2:=Lib.hid hT;clear hT
 refine callsIn_of_wp Tryz.func124 rfl trivial ?_ rfl
 simp only [Tryz.ntmps124,List.size_toArray,List.length_cons,List.length_nil,Nat.reduceAdd,Nat.reduceSub,Array.replicate_succ,Array.replicate_zero,List.push_toArray,List.append_toArray,List.nil_append,List.cons_append]
 gi_wp2_with fail
 refine ⟨trivial,fun hh => (by cases hh),(callsIn_wide.2 (next_any lo hi N p S 0 _ H1.out H2.out (by omega))).mono ?_⟩
 rintro e w' ⟨rfl,m,rfl⟩
 gi_wp2_with fail
 gi_loopw [3] (fun x wr => ∃ a S,x=.int .i64 (Bm.next S N ((a:Nat):Int)) ∧ J a S wr) (fun x _ => itm N x)
 case atStart => exact ⟨0,S,rfl,HDR.out _ _ _ _ HJ.out⟩
 case round =>
  obtain ⟨a,S1,rfl,hj⟩:=hrel
  have HJ1:=Lib.hid hj;clear hj
  have hns:=Bm.next_spec S1 N (a:Int)
  generalize hx:Bm.next S1 N (a:Int)=x at *
  have HX:=Lib.hid hx;clear hx
  rcases hns with ⟨h1,h2⟩ | ⟨i,h1,h2,h3,h4,h5⟩
  ·clear h2
   have hx0:x < 0:=by omega
   have H1:=Lib.hid h1;clear h1
   gi_wp2
   go_end0
   exact ⟨⟨_,rfl⟩,HE.out a S1 _ HJ1.out (by rw [HX.out,H1.out])⟩
  ·subst h1
   clear h4 h5
   have hi0:(0:Int) ≤ (i:Int):=by omega
   have hiM:(i:Int) ≤ 262144:=by
    obtain ⟨hm1,_,_⟩:=HM.out a S1 _ HJ1.out
    obtain ⟨pb,v,rows,_,hm2,_⟩:=hm1
    have:=hm2.nle;omega
   obtain ⟨fn,tmps,assign,body,hy,hR⟩:=HY.out a S1 wr i HJ1.out HX.out (by omega) h3
   have HR:=Lib.hid hR;clear hR
   gi_wp2_with fail
   refine ⟨fun hh => (by cases hh),HR.out.mono ?_⟩
   rintro e w' (⟨rfl,S2,hj2⟩ | ⟨rfl,hd⟩)
   ·obtain ⟨hm2,hT2,hb2⟩:=HM.out (i + 1) S2 w' hj2
    have HJ2:=Lib.hid hj2;clear hj2
    have G1:=Lib.hid hm2;clear hm2
    have G2:=Lib.hid hT2;clear hT2
    gi_wp2_with fail
    refine ⟨trivial,fun hh => (by cases hh),(callsIn_wide.2 (next_any lo hi N p S2 ((i:Int) + 1) _ G1.out G2.out (by omega))).mono ?_⟩
    rintro e w2 ⟨rfl,m2,hw2⟩
    have HW2:=Lib.hid hw2;clear hw2
    gi_wp2
    go_roundw
    case rel => exact ⟨i + 1,S2,by go_num,by rw [HW2.out];exact HDR.out _ _ _ _ HJ2.out⟩
    case measure =>
     have hns:=Bm.next_spec S2 N ((i:Int) + 1)
     refine itm_lt N i _ h3 ?_
     rcases hns with ⟨h,_⟩ | ⟨j,h,hj,_⟩
     ·exact .inl h
     ·exact .inr (by omega)
   ·have HD:=Lib.hid hd;clear hd
    gi_wp2
    refine bodyPost_ret (results_none rfl _ _ _) rfl ⟨⟨_,rfl⟩,HD.out⟩
end Go.Proofs.YtfbcdmhmpfijjaaGreatDoor
namespace Go.Proofs.YtfbcdmhmpfijjaaGreatDoor
open Go Go.RowKit
attribute [local go_sem] Oper.semAt_some
theorem sall_any (p:Addr) (w:World) :
 Calls Tryz.prog 75 #[.pointer (some p)] w fun e w' => e=.returned (.func (.func 121) #[] #[.pointer (some ⟨w.heap.size,0,none⟩)]) ∧ w'=w.alloc (.cells #[.pointer (some p)] 34):=by
 go_enter Tryz.func75,Tryz.ntmps75
 go_wp2
 go_ret
 exact ⟨rfl,rfl⟩
theorem only_put {w:World} {l:Nat} (o:Obj):Only l (l + 1) w (w.putObj l o) :=
 ⟨rfl,rfl,rfl,by simp,fun k _ hk2 => World.putObj_heap_other (by omega)⟩
def Kept4 (B:Nat) (w w':World):Prop:=∀ k,B ≤ k → k < B + 4 → w'.heap[k]?=w.heap[k]?
set_option maxRecDepth 100000 in
set_option maxHeartbeats 3200000 in
theorem all1_fn (J:Nat → St → World → Prop) (D:World → Prop) (L:Lay) (N bx:Nat) (fy:FuncId) (cap:Array Value) (w0:World)
 (hcf:∀ (args:Array Value) (w:World),(callFunc fy args).run Tryz.prog w=.ok (.enter fy args) w)
 (hmap:∀ a s w,J a s w → SpaceAt w L s ∧ 64 * s.n=N ∧ w.cell? ⟨bx,0,none⟩=some (.pointer (some ⟨L.sb,0,none⟩)))
 (hst:∀ a s w w',J a s w → Only w0.heap.size (w0.heap.size + 4) w w' → J a s w')
 (hstD:∀ w w',D w → Only w0.heap.size (w0.heap.size + 4) w w' → D w')
 (hyield:∀ a s w i,J a s w → Bm.next (s.B 0) N a=((i:Nat):Int) → a ≤ i → i < N → w0.heap.size + 4 ≤ w.heap.size →
   Calls Tryz.prog fy (#[blockV (i:Int) (s.sh i)] ++ cap) w fun e w' => (e=.returned (.bool true) ∧ Kept4 w0.heap.size w w' ∧ ∃ s',J (i + 1) s' w') ∨ (e=.returned (.bool false) ∧ Kept4 w0.heap.size w w' ∧ D w'))
 (hend:∀ a s w,J a s w → Bm.next (s.B 0) N a=-1 → D w)
 (s:St) (h:J 0 s w0) :
 Calls Tryz.prog 121 #[.func (.func fy) #[] cap,.pointer (some ⟨bx,0,none⟩)] w0 fun e w' => e=.returned (.tuple #[]) ∧ D w':=by
 obtain ⟨hs,hN,hb⟩:=hmap 0 s w0 h
 have HJ:=Lib.hid h
 have HM:=Lib.hid hmap
 have HST:=Lib.hid hst
 have HSTD:=Lib.hid hstD
 have HY:=Lib.hid hyield
 have HE:=Lib.hid hend
 have H0:=Lib.hid hs
 have hbl:bx < w0.heap.size:=World.block_lt_of_cell? w0 _ hb
 have hc2:=hs.c2
 have hlt:=hs.sblt
 refine (callsIn_wide (n:=9)).1 ?_
 clear h hmap hst hstD hyield hend hs
 refine callsIn_of_wp_marks Tryz.func121 rfl trivial ?_ rfl
 simp only [Tryz.ntmps121,List.size_toArray,List.length_cons,List.length_nil,Nat.reduceAdd,Nat.reduceSub,Array.replicate_succ,Array.replicate_zero,List.push_toArray,List.append_toArray,List.nil_append,List.cons_append]
 gi_wp2_with fail
 refine ⟨trivial,(callsIn_wide.2 (all_any _ _)).mono ?_⟩
 rintro e w' ⟨rfl,rfl⟩
 gi_wp2_with fail
 have hB0:((w0.alloc (.cells #[.func (.func fy) #[] cap] 118)).alloc (.cells #[.pointer (some (L.m 0))] 81)).heap[w0.heap.size]?=some (.cells #[.func (.func fy) #[] cap] 118):=by
  rw [Below.heap_alloc _ _ _ (by simp)];exact heap_alloc_new w0 _
 have hB1:((w0.alloc (.cells #[.func (.func fy) #[] cap] 118)).alloc (.cells #[.pointer (some (L.m 0))] 81)).heap[w0.heap.size + 1]?=some (.cells #[.pointer (some (L.m 0))] 81):=by
  have:=heap_alloc_new (w0.alloc (.cells #[.func (.func fy) #[] cap] 118)) (.cells #[.pointer (some (L.m 0))] 81)
  rwa [World.size_alloc] at this
 have hsz:((w0.alloc (.cells #[.func (.func fy) #[] cap] 118)).alloc (.cells #[.pointer (some (L.m 0))] 81)).heap.size=w0.heap.size + 1 + 1:=by simp
 have hO2:Still w0 ((w0.alloc (.cells #[.func (.func fy) #[] cap] 118)).alloc (.cells #[.pointer (some (L.m 0))] 81)):=((Only.refl _ _ w0).alloc _).alloc _
 generalize (w0.alloc (.cells #[.func (.func fy) #[] cap] 118)).alloc (.cells #[.pointer (some (L.m 0))] 81)=w2 at *
 have hJ2:=HST.out 0 s w0 w2 HJ.out (hO2.any _ _)
 have HC0:=Lib.hid hB0
 have HC1:=Lib.hid hB1
 have HSZ:=Lib.hid hsz
 have HTOP:=Lib.hid H0.out.top
 clear hB0 hB1 hO2
 refine wpIn_range (gf:=124) (lb:=#[.pointer (some ⟨w0.heap.size + 1,0,none⟩)]) rfl (enters_of Tryz.func124 (by kernel_rfl) rfl) ?_
 intro r ht hps has hbd W1 hW1
 have HRT:=Lib.hid ht;have HRP:=Lib.hid hps;have HRA:=Lib.hid has;have HRB:=Lib.hid hbd
 clear ht hps has hbd
 have hl0:W1.heap[w0.heap.size + 1 + 1 + 1]?=some (r.at .ready none):=by
  rw [hW1]
  have:=World.alloc_heap_new (w2.alloc (.deferred (some []))) (r.at .ready none)
  rw [World.size_alloc,HSZ.out] at this
  exact this
 have hd0:W1.heap[w0.heap.size + 1 + 1]?=some (.deferred (some [])):=by
  rw [hW1,Below.heap_alloc _ _ _ (by simp [HSZ.out]),← HSZ.out]
  exact World.alloc_heap_new w2 _
 have hO1:Still w2 W1:=by rw [hW1];exact ((Only.refl _ _ w2).alloc _).alloc _
 have hc0:W1.heap[w0.heap.size]?=some (.cells #[.func (.func fy) #[] cap] 118):=by rw [hO1.block _ (by rw [HSZ.out];omega) (.inl (by rw [HSZ.out];omega))];exact HC0.out
 have hc1:W1.heap[w0.heap.size + 1]?=some (.cells #[.pointer (some (L.m 0))] 81):=by rw [hO1.block _ (by rw [HSZ.out];omega) (.inl (by rw [HSZ.out];omega))];exact HC1.out
 have hJ1:=HST.out 0 s w2 W1 hJ2 (hO1.any _ _)
 rw [HSZ.out]
 clear hO1 hW1 hJ2 hc2 hlt
 refine (iter_in (9 - 1) (w0.heap.size + 1 + 1 + 1)
  (fun a S w => ∃ s,S=s.B 0 ∧ J a s w ∧ w.heap[w0.heap.size]?=some (.cells #[.func (.func fy) #[] cap] 118) ∧ w.heap[w0.heap.size + 1]?=some (.cells #[.pointer (some (L.m 0))] 81) ∧ w.heap[w0.heap.size + 1 + 1]?=some (.deferred (some [])) ∧ w.heap[w0.heap.size + 1 + 1 + 1]?=some (r.at .ready none))
  (fun w => D w ∧ w.heap[w0.heap.size + 1 + 1]?=some (.deferred (some [])) ∧ (w.heap[w0.heap.size + 1 + 1 + 1]?=some (r.at .ready none) ∨ w.heap[w0.heap.size + 1 + 1 + 1]?=some (r.at .done (some .ret))))
  (L.ma 0) (L.mb 0) N (w0.heap.size + 1) (L.m 0) ?hmap ?hyield ?hdrew ?hend (s.B 0) W1 ⟨s,rfl,hJ1,hc0,hc1,hd0,hl0⟩).mono ?_
 case hmap =>
  rintro a S w ⟨s,rfl,hj,h0,h1,h2,h3⟩
  obtain ⟨hs,hn,_⟩:=HM.out a s w hj
  have:=hs.maps 0 (by omega)
  rw [hn] at this
  exact ⟨this,hs.tab,cell_of h1 0 rfl⟩
 case hdrew =>
  rintro a S w m ⟨s,rfl,hj,h0,h1,h2,h3⟩
  exact ⟨s,rfl,HST.out a s w _ hj ((Only.refl _ _ w).drewN m),h0,h1,h2,h3⟩
 case hend =>
  rintro a S w ⟨s,rfl,hj,h0,h1,h2,h3⟩ he
  exact ⟨HE.out a s w hj he,h2,.inl h3⟩
 case hyield =>
  rintro a S w i ⟨s,rfl,hj,h0,h1,h2,h3⟩ hn hai hiN
  refine yield_at r h3 (by rw [HRP.out];rfl) ?_
  rw [HRA.out,HRT.out,HRP.out]
  gi_wp2
  rw [HRB.out]
  have hl3:w0.heap.size + 1 + 1 + 1 < w.heap.size:=(Array.getElem?_eq_some_iff.1 h3).1
  have ho5:Only w0.heap.size (w0.heap.size + 4) w (w.putObj (w0.heap.size + 1 + 1 + 1) (r.at .busy none)):=(only_put _).mono (by omega) (by omega)
  have hj5:=HST.out a s w _ hj ho5
  have k0:(w.putObj (w0.heap.size + 1 + 1 + 1) (r.at .busy none)).heap[w0.heap.size]?=some (.cells #[.func (.func fy) #[] cap] 118):=(World.putObj_heap_other (by omega)).trans h0
  have k1:(w.putObj (w0.heap.size + 1 + 1 + 1) (r.at .busy none)).heap[w0.heap.size + 1]?=some (.cells #[.pointer (some (L.m 0))] 81):=(World.putObj_heap_other (by omega)).trans h1
  have k2:(w.putObj (w0.heap.size + 1 + 1 + 1) (r.at .busy none)).heap[w0.heap.size + 1 + 1]?=some (.deferred (some [])):=(World.putObj_heap_other (by omega)).trans h2
  have k3:(w.putObj (w0.heap.size + 1 + 1 + 1) (r.at .busy none)).heap[w0.heap.size + 1 + 1 + 1]?=some (r.at .busy none):=World.putObj_heap_same hl3
  generalize w.putObj (w0.heap.size + 1 + 1 + 1) (r.at .busy none)=w5 at *
  clear h0 h1 h2 h3 hj ho5 hl3
  obtain ⟨hs5,hn5,hb5⟩:=HM.out a s w5 hj5
  have hhas:s.has (i:Int)=true:=by
   unfold St.has
   rw [decide_eq_true (by omega),Int.toNat_natCast]
   rcases Bm.next_spec (s.B 0) N (a:Int) with ⟨e,_⟩ | ⟨i',e,_,_,hi',_⟩
   ·rw [hn] at e;omega
   ·rw [hn] at e
    obtain rfl:i=i':=by omega
    rw [hi'];rfl
  have HS5:=Lib.hid hs5
  have HJ5:=Lib.hid hj5
  have HN5:=Lib.hid hn5
  have HK:=Lib.hid (And.intro k0 (And.intro k1 (And.intro k2 k3)))
  have HH:=Lib.hid hhas
  have HNX:=Lib.hid hn
  have hsl:bx < w5.heap.size:=World.block_lt_of_cell? w5 _ hb5
  have HI:=Lib.hid (And.intro hai hiN)
  clear hs5 hj5 hn5 k1 k2 k3 hhas hn
  have hcf0:=cell_of (v:=.func (.func fy) #[] cap) k0 0 rfl
  have hkl:=(Array.getElem?_eq_some_iff.1 k0).1
  have HWF:=Lib.hid (wf_of (x:=(i:Int)) (by have:=HS5.out.n2;have:=HN5.out;omega))
  gi_wp2_with fail
  refine ⟨trivial,(CallsIn.inRound _ (callsIn_wide.2 (block_yes w5 L s HS5.out i HWF.out HH.out))).mono ?_⟩
  rintro e w6 ⟨rfl,hs6⟩
  have hj6:=HST.out a s w5 w6 HJ5.out (hs6.any _ _)
  have hK6:∀ k,k < w5.heap.size → w6.heap[k]?=w5.heap[k]?:=fun k hk => hs6.block k hk (.inl hk)
  obtain ⟨k0,k1,k2,k3⟩:=HK.out
  have q0:=(hK6 _ (Array.getElem?_eq_some_iff.1 k0).1).trans k0
  have q1:=(hK6 _ (Array.getElem?_eq_some_iff.1 k1).1).trans k1
  have q2:=(hK6 _ (Array.getElem?_eq_some_iff.1 k2).1).trans k2
  have q3:=(hK6 _ (Array.getElem?_eq_some_iff.1 k3).1).trans k3
  have hcf6:=cell_of (v:=.func (.func fy) #[] cap) q0 0 rfl
  have hkl6:=(Array.getElem?_eq_some_iff.1 q0).1
  have HQ6:=Lib.hid (And.intro q0 (And.intro q1 (And.intro q2 q3)))
  have HJ6:=Lib.hid hj6
  clear hj6 hK6 k0 k1 k2 k3 q0 q1 q2 q3 hs6 hcf0 hkl hb5
  obtain ⟨⟨kx,zx,sx,tx⟩,hx⟩:∃ x,s.sh (i:Int)=x:=⟨_,rfl⟩
  rw [hx]
  have HX:=Lib.hid hx;clear hx
  gi_wp2_with fail
  have hj7:=HST.out a s w6 (w6.alloc (.cells #[.int .i64 (i:Int),.int .i64 kx,.int .i64 zx,.int .i64 sx,.int .i64 tx] 95)) HJ6.out ((Only.refl _ _ w6).alloc _)
  have hK7:∀ k,k < w6.heap.size → (w6.alloc (.cells #[.int .i64 (i:Int),.int .i64 kx,.int .i64 zx,.int .i64 sx,.int .i64 tx] 95)).heap[k]?=w6.heap[k]?:=fun k hk => Below.heap_alloc _ _ _ hk
  obtain ⟨k0,k1,k2,k3⟩:=HQ6.out
  have q0:=(hK7 _ (Array.getElem?_eq_some_iff.1 k0).1).trans k0
  have q1:=(hK7 _ (Array.getElem?_eq_some_iff.1 k1).1).trans k1
  have q2:=(hK7 _ (Array.getElem?_eq_some_iff.1 k2).1).trans k2
  have q3:=(hK7 _ (Array.getElem?_eq_some_iff.1 k3).1).trans k3
  have HQ7:=Lib.hid (And.intro q0 (And.intro q1 (And.intro q2 q3)))
  have HJ7:=Lib.hid hj7
  clear hj7 hK7 k0 k1 k2 k3 q0 q1 q2 q3 hcf6 hkl6
  generalize w6.alloc (.cells #[.int .i64 (i:Int),.int .i64 kx,.int .i64 zx,.int .i64 sx,.int .i64 tx] 95)=w7 at *
  have hsz7:w0.heap.size + 4 ≤ w7.heap.size:=by obtain ⟨_,_,_,q3⟩:=HQ7.out;exact (Array.getElem?_eq_some_iff.1 q3).1
  have HYY:=Lib.hid (HY.out a s w7 i HJ7.out HNX.out HI.out.1 HI.out.2 hsz7)
  clear hsz7
  rw [HX.out] at HYY
  refine ⟨trivial,(CallsIn.inRound _ (callsIn_wide.2 HYY.out)).mono ?_⟩
  rintro e w8 (⟨rfl,hk8,s',hj8⟩ | ⟨rfl,hk8,hd8⟩)
  ·obtain ⟨k0,k1,k2,k3⟩:=HQ7.out
   have q0:=(hk8 _ (by omega) (by omega)).trans k0
   have q1:=(hk8 _ (by omega) (by omega)).trans k1
   have q2:=(hk8 _ (by omega) (by omega)).trans k2
   have q3:=(hk8 _ (by omega) (by omega)).trans k3
   have HQ8:=Lib.hid (And.intro q0 (And.intro q1 (And.intro q2 q3)))
   have HJ8:=Lib.hid hj8
   clear k0 k1 k2 k3 q0 q1 q2 q3 hk8 hj8
   gi_wp2_with fail
   obtain ⟨k0,k1,k2,k3⟩:=HQ8.out
   exact ⟨k3,.inl ⟨rfl,_,s',rfl,HST.out _ _ _ _ HJ8.out ((only_put _).mono (by omega) (by omega)),(World.putObj_heap_other (by omega)).trans k0,(World.putObj_heap_other (by omega)).trans k1,(World.putObj_heap_other (by omega)).trans k2,World.putObj_heap_same (Array.getElem?_eq_some_iff.1 k3).1⟩⟩
  ·obtain ⟨k0,k1,k2,k3⟩:=HQ7.out
   have q2:=(hk8 _ (by omega) (by omega)).trans k2
   have q3:=(hk8 _ (by omega) (by omega)).trans k3
   have HQ8:=Lib.hid (And.intro q2 q3)
   have HD8:=Lib.hid hd8
   clear k0 k1 k2 k3 q2 q3 hk8 hd8
   gi_wp2_with fail
   obtain ⟨k2,k3⟩:=HQ8.out
   exact ⟨k3,.inr ⟨rfl,HSTD.out _ _ HD8.out ((only_put _).mono (by omega) (by omega)),(World.putObj_heap_other (by omega)).trans k2,.inr (World.putObj_heap_same (Array.getElem?_eq_some_iff.1 k3).1)⟩⟩
 ·rintro e W2 ⟨hv,hd,h2,h3⟩
  refine ⟨hv,?_⟩
  have hk:∀ o,(W2.putObj (w0.heap.size + 1 + 1 + 1) o).heap[w0.heap.size + 1 + 1]?=some (.deferred (some [])):=fun o => (World.putObj_heap_other (by omega)).trans h2
  have hfin:∀ o,D ((W2.putObj (w0.heap.size + 1 + 1 + 1) o).putObj (w0.heap.size + 1 + 1) (.deferred none)):=fun o =>
   HSTD.out _ _ hd (((only_put _).mono (by omega) (by omega):Only w0.heap.size (w0.heap.size + 4) _ _).trans ((only_put _).mono (by omega) (by omega)))
  rcases h3 with h3 | h3
  ·refine .inl ⟨h3,?_⟩
   have HK:=Lib.hid (hk (r.at .exhausted none))
   have HF:=Lib.hid (hfin (r.at .exhausted none))
   clear hk hfin h2 hd
   gi_wp2
   refine ⟨by simp,.inl ⟨_,_,rfl,run_takeDeferred HK.out,?_⟩⟩
   exact ⟨_,results_none rfl _ _ _,rfl,HF.out⟩
  ·refine .inr ⟨.ret,h3,?_⟩
   have HK:=Lib.hid (hk (r.at .exhausted (some .ret)))
   have HF:=Lib.hid (hfin (r.at .exhausted (some .ret)))
   clear hk hfin h2 hd
   gi_wp2
   refine ⟨by simp,.inl ⟨_,_,rfl,run_takeDeferred HK.out,?_⟩⟩
   exact ⟨_,results_none rfl _ _ _,rfl,HF.out⟩
end Go.Proofs.YtfbcdmhmpfijjaaGreatDoor
namespace Go.Proofs.YtfbcdmhmpfijjaaGreatDoor
open Go Go.RowKit
def St.dropTo (s:St) (stay:Nat → Bool):Nat → St
 | 0 => s
 | a + 1 => if (s.dropTo stay a).B 0 a && !stay a then (s.dropTo stay a).drop a else s.dropTo stay a
def St.dropN (s:St) (stay:Nat → Bool):Nat → Nat
 | 0 => 0
 | a + 1 => if (s.dropTo stay a).B 0 a && !stay a then s.dropN stay a + 1 else s.dropN stay a
theorem St.dropTo_n (s:St) (stay:Nat → Bool):∀ a,(s.dropTo stay a).n=s.n
 | 0 => rfl
 | a + 1 => by
  unfold St.dropTo
  split
  ·exact St.dropTo_n s stay a
  ·exact St.dropTo_n s stay a
theorem St.dropTo_gap (s:St) (stay:Nat → Bool) (a:Nat):∀ d,(∀ j,a ≤ j → j < a + d → (s.dropTo stay a).B 0 j=false) → s.dropTo stay (a + d)=s.dropTo stay a ∧ s.dropN stay (a + d)=s.dropN stay a
 | 0,_ => ⟨rfl,rfl⟩
 | d + 1,h => by
  obtain ⟨h1,h2⟩:=St.dropTo_gap s stay a d (fun j hj hj2 => h j hj (by omega))
  have h3:=h (a + d) (by omega) (by omega)
  rw [← Nat.add_assoc]
  have e1:s.dropTo stay (a + d + 1)=if (s.dropTo stay (a + d)).B 0 (a + d) && !stay (a + d) then (s.dropTo stay (a + d)).drop (a + d) else s.dropTo stay (a + d):=rfl
  have e2:s.dropN stay (a + d + 1)=if (s.dropTo stay (a + d)).B 0 (a + d) && !stay (a + d) then s.dropN stay (a + d) + 1 else s.dropN stay (a + d):=rfl
  rw [e1,e2,h1,h3]
  exact ⟨by simp,by simp [h2]⟩
theorem St.dropN_le (s:St) (stay:Nat → Bool):∀ a,s.dropN stay a ≤ a
 | 0 => Nat.le_refl _
 | a + 1 => by
  unfold St.dropN
  have:=St.dropN_le s stay a
  split <;> omega
def St.reset (s:St) (i:Nat):St:={ s with B:=fun j => if 1 ≤ j ∧ j ≤ i then (fun _ => false) else s.B j }
theorem St.reset_zero (s:St):s.reset 0=s:=by
 unfold St.reset
 congr 1
 funext j
 rw [if_neg (by omega)]
theorem St.reset_succ (s:St) (i:Nat):(s.reset i).setB (i + 1) (fun _ => false)=s.reset (i + 1):=by
 unfold St.reset St.setB
 congr 1
 funext j
 dsimp only
 by_cases h:j=i + 1
 ·rw [if_pos h,if_pos (by omega)]
 ·rw [if_neg h]
  by_cases h2:1 ≤ j ∧ j ≤ i
  ·rw [if_pos h2,if_pos (by omega)]
  ·rw [if_neg h2,if_neg (by omega)]
def St.tidyTo (s:St):Nat → St
 | 0 => s
 | p + 1 => (s.tidyTo p).tidy p
def St.linkTo (s:St) (c:Nat):Nat → St
 | 0 => s
 | a + 1 => if s.B (c + 1) a then (s.linkTo c a).setWs (setW (s.linkTo c a).W a (s.link c a)) else s.linkTo c a
theorem St.linkTo_form (s:St) (c:Nat):∀ a,∃ W,s.linkTo c a=s.setWs W
 | 0 => ⟨s.W,rfl⟩
 | a + 1 => by
  obtain ⟨W,h⟩:=St.linkTo_form s c a
  unfold St.linkTo
  split
  ·exact ⟨_,by rw [h];rfl⟩
  ·exact ⟨W,h⟩
theorem St.linkTo_gap (s:St) (c a:Nat):∀ d,(∀ j,a ≤ j → j < a + d → s.B (c + 1) j=false) → s.linkTo c (a + d)=s.linkTo c a
 | 0,_ => rfl
 | d + 1,h => by
  rw [← Nat.add_assoc]
  show (if s.B (c + 1) (a + d) then _ else _)=_
  rw [h (a + d) (by omega) (by omega)]
  exact St.linkTo_gap s c a d (fun j hj hj2 => h j hj (by omega))
def St.links (s:St):Nat → St
 | 0 => s
 | c + 1 => (s.links c).linkTo c (64 * s.n)
theorem St.links_form (s:St):∀ c,∃ W,s.links c=s.setWs W
 | 0 => ⟨s.W,rfl⟩
 | c + 1 => by
  obtain ⟨W,h⟩:=St.links_form s c
  obtain ⟨W2,h2⟩:=St.linkTo_form (s.links c) c (64 * s.n)
  exact ⟨W2,by show (s.links c).linkTo c (64 * s.n)=_;rw [h2,h];rfl⟩
def St.keep (s:St) (stay:Nat → Bool):St:=((((s.dropTo stay (64 * s.n)).reset 8).tidyTo s.n).links 8)
theorem St.tidy_n (s:St) (p:Nat):(s.tidy p).n=s.n:=by
 unfold St.tidy
 repeat' split
 all_goals first | rfl | exact St.tidyLoop_n _ _ _ _
theorem St.tidyTo_n (s:St):∀ p,(s.tidyTo p).n=s.n
 | 0 => rfl
 | p + 1 => by show ((s.tidyTo p).tidy p).n=_;rw [St.tidy_n];exact St.tidyTo_n s p
def St.DropOk (s:St) (a:Nat):Prop:=(-9223372036854775808 ≤ (s.sh a).s ∧ (s.sh a).s ≤ 9223372036854775807) ∧ (-1000000000000000 ≤ s.room ∧ s.room ≤ 1000000000000000) ∧ (Sp.cls (s.sh a).z=8 → s.Givable (a / 64))
def St.TidyOk (s:St) (p:Nat):Prop:=((s.P p).k=1 → ∃ c:Nat,c < 8 ∧ (s.P p).c=(c:Int)) ∧ (s.Empty p → s.Givable p)
theorem tidy_any (w:World) (L:Lay) (s:St) (h:SpaceAt w L s) (p:Nat) (hp:p < s.n) (hok:s.TidyOk p) (Q:Ending → World → Prop)
 (hQ:∀ w',SpaceAt w' L (s.tidy p) → Only L.lo L.hi w w' → Q (.returned (.tuple #[])) w') :
 Calls Tryz.prog 140 #[.pointer (some ⟨L.sb,0,none⟩),.int .i64 (p:Int)] w Q:=by
 obtain ⟨ok1,ok2⟩:=hok
 by_cases hE:s.Empty p
 ·refine tidy_empty w L s h p hp hE (ok2 hE) Q (fun w' a b => hQ w' ?_ b)
  unfold St.tidy;rw [if_pos hE];exact a
 ·by_cases h0:(s.P p).k=0
  ·refine tidy_free w L s h p hp h0 Q (fun w' a b => hQ w' ?_ b)
   unfold St.tidy;rw [if_neg hE,if_pos h0];exact a
  ·by_cases h1:(s.P p).k=1
   ·obtain ⟨c,hc,hpc⟩:=ok1 h1
    refine tidy_class w L s h p c hp hc h1 hpc hE Q (fun w' a b => hQ w' ?_ b)
    unfold St.tidy
    rw [if_neg hE,if_neg h0,if_pos h1,hpc,Int.toNat_natCast]
    exact a
   ·refine tidy_other w L s h p hp h0 h1 Q (fun w' a b => hQ w' ?_ b)
    unfold St.tidy;rw [if_neg hE,if_neg h0,if_neg h1];exact a
def IntsAt (w:World) (v:Value) (zs:List Int):Prop :=
 (v=.slice none 0 0 ∧ zs=[]) ∨ ∃ b o cap,v=.slice (some ⟨b,o,none⟩) zs.length cap ∧ zs.length ≤ 140737488355328 ∧ ∀ j,j < zs.length → w.cell? ⟨b,o + j,none⟩=some (.int .i64 (zs.getD j 0))
theorem leaves_marks {fn:Func} {n:Nat} {tmps:Array Value} {R:Ending → World → Prop} (B hi:Nat):∀ (ds:List Nat) (w:World),ds.Nodup → (∀ D ∈ ds,B ≤ D ∧ D < hi ∧ w.heap[D]?=some (.deferred (some []))) →
 (∀ w',Only B hi w w' → LeavesIn Fence.wide n Tryz.prog fn tmps R [] .returning w') → LeavesInM Fence.wide n Tryz.prog fn tmps R (ds.map markOf) .returning w
 | [],w,_,_,h => h w (Only.refl _ _ _)
 | D :: ds,w,hn,hd,h => by
  have h1:=hd D (by simp)
  refine ⟨by simp,.inl ⟨D,_,rfl,run_takeDeferred h1.2.2,?_⟩⟩
  have hn2:=List.nodup_cons.1 hn
  refine leaves_marks B hi ds _ hn2.2 (fun D' hD' => ?_) (fun w' ho => h w' (((only_put _).mono h1.1 (by omega)).trans ho))
  have h2:=hd D' (by simp [hD'])
  exact ⟨h2.1,h2.2.1,(World.putObj_heap_other (fun e => hn2.1 (by rw [← e];exact hD'))).trans h2.2.2⟩
end Go.Proofs.YtfbcdmhmpfijjaaGreatDoor
