/-
  The walk of space.Blocks.
-/
import Derived.Test.YtfbcdmhmpfijjaaGreatDoorQ20
import Derived.BigQuiet
import Derived.Test.YtfbcdmhmpfijjaaGreatDoorQ14
set_option linter.unusedVariables false
set_option linter.unusedSimpArgs false
set_option linter.unusedSectionVars false
namespace Go.Proofs.YtfbcdmhmpfijjaaGreatDoor
open Go Go.RowKit
theorem cnt_set {S:Nat → Bool} {x:Nat} (hx:S x=true):∀ N,x < N → Bm.cnt S 0 N=Bm.cnt (setS S x false) 0 N + 1
 | 0,h => by omega
 | N + 1,h => by
  show Bm.cnt S 0 N + (S (0 + N)).toNat=Bm.cnt (setS S x false) 0 N + (setS S x false (0 + N)).toNat + 1
  rw [Nat.zero_add]
  by_cases e:x=N
  ·subst e
   have h1:Bm.cnt S 0 x=Bm.cnt (setS S x false) 0 x:=Bm.cnt_congr fun i _ hi => by unfold setS;rw [if_neg (by omega)]
   rw [h1,hx]
   unfold setS
   rw [if_pos rfl]
   rfl
  ·rw [cnt_set hx N (by omega)]
   have h1:setS S x false N=S N:=by unfold setS;rw [if_neg (fun h => e h.symm)]
   rw [h1]
   omega
def ob0:Ob:=⟨0,Sh.zero⟩
end Go.Proofs.YtfbcdmhmpfijjaaGreatDoor
namespace Go.Proofs.YtfbcdmhmpfijjaaGreatDoor
open Go Go.RowKit
theorem obCells_at (os:List Ob):∀ (i c:Nat),i < os.length → c < 5 → (obCells os)[i * 5 + c]?=(os.getD i ob0).cells[c]?:=by
 unfold obCells
 induction os with
 | nil => intro i c h;simp at h
 | cons o os ih =>
  intro i c hi hc
  rw [List.flatMap_cons]
  have h5:o.cells.length=5:=rfl
  cases i with
  | zero =>
   rw [Nat.zero_mul,Nat.zero_add,List.getElem?_append_left (by omega)]
   rfl
  | succ i =>
   rw [List.getElem?_append_right (by omega),h5,show (i + 1) * 5 + c - 5=i * 5 + c by omega,ih i c (by simpa using hi) hc]
   rfl
theorem Tryz.infoI5:(Tryz.prog.info? 3).map (fun i => (i.zero,i.size,i.bytes))=some (some (.int .i64 0),1,8):=by kernel_rfl
theorem int_append (W:World) (base:Nat) (zs:List Int) (v:Value) (hr:W.ownsRow base 3 1 v zs.length (zs.map (Value.int .i64))) (hb:base ≤ W.heap.size) (hl:zs.length ≤ 1000000) (x:Int) (N:Nat) (hN:W.heap.size=N) :
 ∃ v' w',(Builtin.append_ #[27,27] 27 #[v,.slice (some ⟨N,0,none⟩) 1 1]).run Tryz.prog (W.alloc (.cells #[.int .i64 x] 3))=.ok v' w' ∧
  w'.ownsRow base 3 1 v' (zs ++ [x]).length ((zs ++ [x]).map (Value.int .i64)) ∧ Only base W.heap.size W w' ∧ W.heap.size < w'.heap.size:=by
 subst hN
 obtain ⟨i0,hi,hz0,hz1,hz2⟩:=info_parts Tryz.infoI5
 obtain ⟨v',w',h1,h2,h3,_⟩:=run_append_own (P:=Tryz.prog) (W.alloc (.cells #[.int .i64 x] 3)) base 27 27 3 i0 _ 1 8 Tryz.underlying27 hi hz0 hz1 hz2 rfl (by decide) v zs.length (zs.map (Value.int .i64)) (hr.alloc _)
  ⟨W.heap.size,0,none⟩ 1 1 [.int .i64 x] rfl (fun j u hu => by
   have e:(⟨W.heap.size,0,none⟩:Addr).add j=⟨W.heap.size,j,none⟩:=by unfold Addr.add;split <;> simp_all
   rw [e]
   simp only [World.cell?,heap_alloc_new]
   have hj:j < 1:=by have:=(List.getElem?_eq_some_iff.1 hu).1;exact this
   obtain rfl:j=0:=by omega
   exact hu) (by
   intro u hu
   simp only [List.mem_cons,List.not_mem_nil,or_false] at hu
   subst hu;rfl) (by unfold maxLen;omega) (by omega) (by simp;omega)
 refine ⟨v',w',h1,?_,?_,?_⟩
 ·rw [List.length_append,List.map_append]
  exact h2
 ·have hst:Only base W.heap.size W (W.alloc (.cells #[.int .i64 x] 3)):=(Only.refl _ _ W).alloc _
  exact hst.grown h3 (fun k hk => .inl (hr.lt k hk))
 ·have:=h3.size
  simp at this
  omega
theorem ints_of_row {w:World} {base:Nat} {v:Value} {zs:List Int} (h:w.ownsRow base 3 1 v zs.length (zs.map (Value.int .i64))) (hl:zs.length ≤ 140737488355328):IntsAt w v zs:=by
 rcases h.2 with ⟨h1,h2⟩ | ⟨g,cap,cur,hv,hb,hg,_⟩
 ·exact .inl ⟨h1,List.length_eq_zero_iff.1 h2⟩
 ·refine .inr ⟨g,0,cap,hv,hl,fun j hj => ?_⟩
  have hc:=h.cells (g:=g) (by rw [hv];rfl) j (.int .i64 (zs.getD j 0)) (by rw [List.getElem?_map,List.getElem?_eq_getElem hj,List.getD_eq_getElem?_getD,List.getElem?_eq_getElem hj];rfl)
  have e:(⟨g,0,none⟩:Addr).add j=⟨g,0 + j,none⟩:=by unfold Addr.add;split <;> simp_all
  rwa [e] at hc
theorem ownsRow_le {w:World} {base base':Nat} {e:TypeId} {size:Nat} {v:Value} {n:Nat} {xs:List Value} (h:w.ownsRow base e size v n xs) (hb:base' ≤ base):w.ownsRow base' e size v n xs:=by
 refine ⟨h.1,?_⟩
 rcases h.2 with h1 | ⟨g,cap,cur,hv,h2,h3⟩
 ·exact .inl h1
 ·exact .inr ⟨g,cap,cur,hv,Nat.le_trans hb h2,h3⟩
theorem add_at (g j:Nat):(⟨g,0,none⟩:Addr).add j=⟨g,j,none⟩:=by unfold Addr.add;split <;> simp_all
end Go.Proofs.YtfbcdmhmpfijjaaGreatDoor
namespace Go.Proofs.YtfbcdmhmpfijjaaGreatDoor
open Go Go.RowKit
def OpsB (w:World) (B:Nat) (a:Option Addr) (len:Nat) (os:Nat → OpV):Prop :=
 len ≤ 9223372036854775807 ∧ ∀ i,i < len → ∃ x,a=some x ∧ x.block < B ∧ OpAt w (x.add (i * 6)) (os i) ∧ ∀ y,(os i).la=some y → 0 < (os i).ll → y.block < B
theorem add_block (x:Addr) (j:Nat):(x.add j).block=x.block:=by unfold Addr.add;split <;> rfl
theorem OpsB.below {w w':World} {B:Nat} {a:Option Addr} {len:Nat} {os:Nat → OpV} (h:OpsB w B a len os) (hb:Below B w w'):OpsB w' B a len os:=by
 have hc:∀ p:Addr,p.block < B → w'.cell? p=w.cell? p:=fun p hp => World.cell?_of_block (w:=w) (hb.block p.block hp)
 refine ⟨h.1,fun i hi => ?_⟩
 obtain ⟨x,h1,h2,⟨⟨who,k0⟩,k1,k2,k3,k4,k5,k6,k7,k8,k9⟩,h4⟩:=h.2 i hi
 have hx:(x.add (i * 6)).block < B:=by rw [add_block];exact h2
 refine ⟨x,h1,h2,⟨⟨who,(hc _ hx).trans k0⟩,(hc ⟨_,_,none⟩ hx).trans k1,(hc ⟨_,_,none⟩ hx).trans k2,(hc ⟨_,_,none⟩ hx).trans k3,(hc ⟨_,_,none⟩ hx).trans k4,(hc ⟨_,_,none⟩ hx).trans k5,k6,k7,k8,k9.1,fun j hj => ?_⟩,h4⟩
 obtain ⟨y,e1,e2,e3⟩:=k9.2 j hj
 exact ⟨y,e1,(hc _ (by rw [add_block];exact h4 y e1 (by omega))).trans e2,e3⟩
end Go.Proofs.YtfbcdmhmpfijjaaGreatDoor
namespace Go.Proofs.YtfbcdmhmpfijjaaGreatDoor
open Go Go.RowKit
def Ob.val (o:Ob):Value:=.agg #[.int .i64 (o.at':Int),.int .i64 o.sh.k,.int .i64 o.sh.z,.int .i64 o.sh.s,.int .i64 o.sh.t]
end Go.Proofs.YtfbcdmhmpfijjaaGreatDoor
namespace Go.Proofs.YtfbcdmhmpfijjaaGreatDoor
open Go Go.RowKit
theorem box1 {w:World} {b:Nat} {x:Value} {T:TypeId} (h:w.heap[b]?=some (.cells #[x] T (0,0))) (y:Value):(w.setCell ⟨b,0,none⟩ y).heap[b]?=some (.cells #[y] T (0,0)):=by
 simp only [World.setCell,Array.getElem?_modify,h]
 simp
theorem box1_ne {w:World} {b c:Nat} (h:c ≠ b) (o:Nat) (y:Value):(w.setCell ⟨b,o,none⟩ y).heap[c]?=w.heap[c]?:=Below.heap_setCell _ _ _ _ h
theorem box1_al {w:World} {b:Nat} {o p:Obj} (h:w.heap[b]?=some o):(w.alloc p).heap[b]?=some o:=(Below.heap_alloc _ _ _ (Array.getElem?_eq_some_iff.1 h).1).trans h
end Go.Proofs.YtfbcdmhmpfijjaaGreatDoor
namespace Go.Proofs.YtfbcdmhmpfijjaaGreatDoor
open Go Go.RowKit
theorem OpsB.mono {w:World} {B B':Nat} {a:Option Addr} {len:Nat} {os:Nat → OpV} (h:OpsB w B a len os) (hb:B ≤ B'):OpsB w B' a len os :=
 ⟨h.1,fun i hi => by
  obtain ⟨x,h1,h2,h3,h4⟩:=h.2 i hi
  exact ⟨x,h1,by omega,h3,fun y hy h0 => by have:=h4 y hy h0;omega⟩⟩
theorem OpsB.is {w:World} {B:Nat} {a:Option Addr} {len:Nat} {os:Nat → OpV} (h:OpsB w B a len os):IsOps w a len os :=
 ⟨h.1,fun i hi => by
  obtain ⟨x,h1,_,h3,_⟩:=h.2 i hi
  exact ⟨x,h1,h3⟩⟩
theorem at_only {w w':World} {lo hi k:Nat} {o:Obj} (ho:Only lo hi w w') (h:w.heap[k]?=some o) (hk:k < lo ∨ hi ≤ k):w'.heap[k]?=some o:=(ho.block _ (Array.getElem?_eq_some_iff.1 h).1 hk).trans h
end Go.Proofs.YtfbcdmhmpfijjaaGreatDoor
namespace Go.Proofs.YtfbcdmhmpfijjaaGreatDoor
open Go Go.RowKit
attribute [local go_sem] Oper.semAt_some
set_option maxRecDepth 100000 in
set_option maxHeartbeats 3200000 in
theorem all1_in (n l:Nat) (J:Nat → St → World → Prop) (D:World → Prop) (L:Lay) (N bx:Nat) (w0:World)
 (hmap:∀ a s w,J a s w → SpaceAt w L s ∧ 64 * s.n=N ∧ w.cell? ⟨bx,0,none⟩=some (.pointer (some ⟨L.sb,0,none⟩)))
 (hst:∀ a s w w',J a s w → Only w0.heap.size (w0.heap.size + 4) w w' → J a s w')
 (hstD:∀ w w',D w → Only w0.heap.size (w0.heap.size + 4) w w' → D w')
 (hyield:∀ a s w i,J a s w → Bm.next (s.B 0) N a=((i:Nat):Int) → a ≤ i → i < N → w0.heap.size + 4 ≤ w.heap.size →
   YieldAt Fence.wide (n - 1 - 1 - 1) Tryz.prog l #[blockV (i:Int) (s.sh i)] w fun e w' => (e=.returned (.bool true) ∧ Kept4 w0.heap.size w w' ∧ ∃ s',J (i + 1) s' w') ∨ (e=.returned (.bool false) ∧ Kept4 w0.heap.size w w' ∧ D w'))
 (hend:∀ a s w,J a s w → Bm.next (s.B 0) N a=-1 → D w)
 (s:St) (h:J 0 s w0) :
 CallsIn Fence.wide n Tryz.prog 121 #[.func (.yield l) #[] #[],.pointer (some ⟨bx,0,none⟩)] w0 fun e w' => e=.returned (.tuple #[]) ∧ D w':=by
 obtain ⟨hs,hN,hb⟩:=hmap 0 s w0 h
 have HJ:=Lib.hid h
 have HM:=Lib.hid hmap
 have HST:=Lib.hid hst
 have HSTD:=Lib.hid hstD
 have HY:=Lib.hid hyield
 have HE:=Lib.hid hend
 have H0:=Lib.hid hs
 have hbl:bx < w0.heap.size:=World.block_lt_of_cell? w0 _ hb
 have hc2:=hs.c2
 have hlt:=hs.sblt
 clear h hmap hst hstD hyield hend hs
 refine callsIn_of_wp_marks Tryz.func121 rfl trivial ?_ rfl
 simp only [Tryz.ntmps121,List.size_toArray,List.length_cons,List.length_nil,Nat.reduceAdd,Nat.reduceSub,Array.replicate_succ,Array.replicate_zero,List.push_toArray,List.append_toArray,List.nil_append,List.cons_append]
 gi_wp2_with fail
 refine ⟨trivial,fun hh => (by cases hh),(callsIn_wide.2 (all_any _ _)).mono ?_⟩
 rintro e w' ⟨rfl,rfl⟩
 gi_wp2_with fail
 have hB0:((w0.alloc (.cells #[.func (.yield l) #[] #[]] 118)).alloc (.cells #[.pointer (some (L.m 0))] 81)).heap[w0.heap.size]?=some (.cells #[.func (.yield l) #[] #[]] 118):=by
  rw [Below.heap_alloc _ _ _ (by simp)];exact heap_alloc_new w0 _
 have hB1:((w0.alloc (.cells #[.func (.yield l) #[] #[]] 118)).alloc (.cells #[.pointer (some (L.m 0))] 81)).heap[w0.heap.size + 1]?=some (.cells #[.pointer (some (L.m 0))] 81):=by
  have:=heap_alloc_new (w0.alloc (.cells #[.func (.yield l) #[] #[]] 118)) (.cells #[.pointer (some (L.m 0))] 81)
  rwa [World.size_alloc] at this
 have hsz:((w0.alloc (.cells #[.func (.yield l) #[] #[]] 118)).alloc (.cells #[.pointer (some (L.m 0))] 81)).heap.size=w0.heap.size + 1 + 1:=by simp
 have hO2:Still w0 ((w0.alloc (.cells #[.func (.yield l) #[] #[]] 118)).alloc (.cells #[.pointer (some (L.m 0))] 81)):=((Only.refl _ _ w0).alloc _).alloc _
 generalize (w0.alloc (.cells #[.func (.yield l) #[] #[]] 118)).alloc (.cells #[.pointer (some (L.m 0))] 81)=w2 at *
 have hJ2:=HST.out 0 s w0 w2 HJ.out (hO2.any _ _)
 have HC0:=Lib.hid hB0
 have HC1:=Lib.hid hB1
 have HSZ:=Lib.hid hsz
 have HTOP:=Lib.hid H0.out.top
 clear hB0 hB1 hO2
 refine wpIn_range (gf:=124) (lb:=#[.pointer (some ⟨w0.heap.size + 1,0,none⟩)]) rfl (enters_of Tryz.func124 (by kernel_rfl) rfl) ?_
 intro r ht hps has hbd W1 hW1
 have HRT:=Lib.hid ht;have HRP:=Lib.hid hps;have HRA:=Lib.hid has;have HRB:=Lib.hid hbd
 clear ht hps has hbd
 have hl0:W1.heap[w0.heap.size + 1 + 1 + 1]?=some (r.at .ready none):=by
  rw [hW1]
  have:=World.alloc_heap_new (w2.alloc (.deferred (some []))) (r.at .ready none)
  rw [World.size_alloc,HSZ.out] at this
  exact this
 have hd0:W1.heap[w0.heap.size + 1 + 1]?=some (.deferred (some [])):=by
  rw [hW1,Below.heap_alloc _ _ _ (by simp [HSZ.out]),← HSZ.out]
  exact World.alloc_heap_new w2 _
 have hO1:Still w2 W1:=by rw [hW1];exact ((Only.refl _ _ w2).alloc _).alloc _
 have hc0:W1.heap[w0.heap.size]?=some (.cells #[.func (.yield l) #[] #[]] 118):=by rw [hO1.block _ (by rw [HSZ.out];omega) (.inl (by rw [HSZ.out];omega))];exact HC0.out
 have hc1:W1.heap[w0.heap.size + 1]?=some (.cells #[.pointer (some (L.m 0))] 81):=by rw [hO1.block _ (by rw [HSZ.out];omega) (.inl (by rw [HSZ.out];omega))];exact HC1.out
 have hJ1:=HST.out 0 s w2 W1 hJ2 (hO1.any _ _)
 rw [HSZ.out]
 clear hO1 hW1 hJ2 hc2 hlt
 refine (iter_in (n - 1) (w0.heap.size + 1 + 1 + 1)
  (fun a S w => ∃ s,S=s.B 0 ∧ J a s w ∧ w.heap[w0.heap.size]?=some (.cells #[.func (.yield l) #[] #[]] 118) ∧ w.heap[w0.heap.size + 1]?=some (.cells #[.pointer (some (L.m 0))] 81) ∧ w.heap[w0.heap.size + 1 + 1]?=some (.deferred (some [])) ∧ w.heap[w0.heap.size + 1 + 1 + 1]?=some (r.at .ready none))
  (fun w => D w ∧ w.heap[w0.heap.size + 1 + 1]?=some (.deferred (some [])) ∧ (w.heap[w0.heap.size + 1 + 1 + 1]?=some (r.at .ready none) ∨ w.heap[w0.heap.size + 1 + 1 + 1]?=some (r.at .done (some .ret))))
  (L.ma 0) (L.mb 0) N (w0.heap.size + 1) (L.m 0) ?hmap ?hyield ?hdrew ?hend (s.B 0) W1 ⟨s,rfl,hJ1,hc0,hc1,hd0,hl0⟩).mono ?_
 case hmap =>
  rintro a S w ⟨s,rfl,hj,h0,h1,h2,h3⟩
  obtain ⟨hs,hn,_⟩:=HM.out a s w hj
  have:=hs.maps 0 (by omega)
  rw [hn] at this
  exact ⟨this,hs.tab,cell_of h1 0 rfl⟩
 case hdrew =>
  rintro a S w m ⟨s,rfl,hj,h0,h1,h2,h3⟩
  exact ⟨s,rfl,HST.out a s w _ hj ((Only.refl _ _ w).drewN m),h0,h1,h2,h3⟩
 case hend =>
  rintro a S w ⟨s,rfl,hj,h0,h1,h2,h3⟩ he
  exact ⟨HE.out a s w hj he,h2,.inl h3⟩
 case hyield =>
  rintro a S w i ⟨s,rfl,hj,h0,h1,h2,h3⟩ hn hai hiN
  refine yield_at r h3 (by rw [HRP.out];rfl) ?_
  rw [HRA.out,HRT.out,HRP.out]
  gi_wp2
  rw [HRB.out]
  have hl3:w0.heap.size + 1 + 1 + 1 < w.heap.size:=(Array.getElem?_eq_some_iff.1 h3).1
  have ho5:Only w0.heap.size (w0.heap.size + 4) w (w.putObj (w0.heap.size + 1 + 1 + 1) (r.at .busy none)):=(only_put _).mono (by omega) (by omega)
  have hj5:=HST.out a s w _ hj ho5
  have k0:(w.putObj (w0.heap.size + 1 + 1 + 1) (r.at .busy none)).heap[w0.heap.size]?=some (.cells #[.func (.yield l) #[] #[]] 118):=(World.putObj_heap_other (by omega)).trans h0
  have k1:(w.putObj (w0.heap.size + 1 + 1 + 1) (r.at .busy none)).heap[w0.heap.size + 1]?=some (.cells #[.pointer (some (L.m 0))] 81):=(World.putObj_heap_other (by omega)).trans h1
  have k2:(w.putObj (w0.heap.size + 1 + 1 + 1) (r.at .busy none)).heap[w0.heap.size + 1 + 1]?=some (.deferred (some [])):=(World.putObj_heap_other (by omega)).trans h2
  have k3:(w.putObj (w0.heap.size + 1 + 1 + 1) (r.at .busy none)).heap[w0.heap.size + 1 + 1 + 1]?=some (r.at .busy none):=World.putObj_heap_same hl3
  generalize w.putObj (w0.heap.size + 1 + 1 + 1) (r.at .busy none)=w5 at *
  clear h0 h1 h2 h3 hj ho5 hl3
  obtain ⟨hs5,hn5,hb5⟩:=HM.out a s w5 hj5
  have hhas:s.has (i:Int)=true:=by
   unfold St.has
   rw [decide_eq_true (by omega),Int.toNat_natCast]
   rcases Bm.next_spec (s.B 0) N (a:Int) with ⟨e,_⟩ | ⟨i',e,_,_,hi',_⟩
   ·rw [hn] at e;omega
   ·rw [hn] at e
    obtain rfl:i=i':=by omega
    rw [hi'];rfl
  have HS5:=Lib.hid hs5
  have HJ5:=Lib.hid hj5
  have HN5:=Lib.hid hn5
  have HK:=Lib.hid (And.intro k0 (And.intro k1 (And.intro k2 k3)))
  have HH:=Lib.hid hhas
  have HNX:=Lib.hid hn
  have hsl:bx < w5.heap.size:=World.block_lt_of_cell? w5 _ hb5
  have HI:=Lib.hid (And.intro hai hiN)
  clear hs5 hj5 hn5 k1 k2 k3 hhas hn
  have hcf0:=cell_of (v:=.func (.yield l) #[] #[]) k0 0 rfl
  have hkl:=(Array.getElem?_eq_some_iff.1 k0).1
  have HWF:=Lib.hid (wf_of (x:=(i:Int)) (by have:=HS5.out.n2;have:=HN5.out;omega))
  gi_wp2_with fail
  refine ⟨trivial,fun hh => (by cases hh),(CallsIn.inRound _ (callsIn_wide.2 (block_yes w5 L s HS5.out i HWF.out HH.out))).mono ?_⟩
  rintro e w6 ⟨rfl,hs6⟩
  have hj6:=HST.out a s w5 w6 HJ5.out (hs6.any _ _)
  have hK6:∀ k,k < w5.heap.size → w6.heap[k]?=w5.heap[k]?:=fun k hk => hs6.block k hk (.inl hk)
  obtain ⟨k0,k1,k2,k3⟩:=HK.out
  have q0:=(hK6 _ (Array.getElem?_eq_some_iff.1 k0).1).trans k0
  have q1:=(hK6 _ (Array.getElem?_eq_some_iff.1 k1).1).trans k1
  have q2:=(hK6 _ (Array.getElem?_eq_some_iff.1 k2).1).trans k2
  have q3:=(hK6 _ (Array.getElem?_eq_some_iff.1 k3).1).trans k3
  have hcf6:=cell_of (v:=.func (.yield l) #[] #[]) q0 0 rfl
  have hkl6:=(Array.getElem?_eq_some_iff.1 q0).1
  have HQ6:=Lib.hid (And.intro q0 (And.intro q1 (And.intro q2 q3)))
  have HJ6:=Lib.hid hj6
  clear hj6 hK6 k0 k1 k2 k3 q0 q1 q2 q3 hs6 hcf0 hkl hb5
  obtain ⟨⟨kx,zx,sx,tx⟩,hx⟩:∃ x,s.sh (i:Int)=x:=⟨_,rfl⟩
  rw [hx]
  have HX:=Lib.hid hx;clear hx
  gi_wp2_with fail
  have hj7:=HST.out a s w6 (w6.alloc (.cells #[.int .i64 (i:Int),.int .i64 kx,.int .i64 zx,.int .i64 sx,.int .i64 tx] 95)) HJ6.out ((Only.refl _ _ w6).alloc _)
  have hK7:∀ k,k < w6.heap.size → (w6.alloc (.cells #[.int .i64 (i:Int),.int .i64 kx,.int .i64 zx,.int .i64 sx,.int .i64 tx] 95)).heap[k]?=w6.heap[k]?:=fun k hk => Below.heap_alloc _ _ _ hk
  obtain ⟨k0,k1,k2,k3⟩:=HQ6.out
  have q0:=(hK7 _ (Array.getElem?_eq_some_iff.1 k0).1).trans k0
  have q1:=(hK7 _ (Array.getElem?_eq_some_iff.1 k1).1).trans k1
  have q2:=(hK7 _ (Array.getElem?_eq_some_iff.1 k2).1).trans k2
  have q3:=(hK7 _ (Array.getElem?_eq_some_iff.1 k3).1).trans k3
  have HQ7:=Lib.hid (And.intro q0 (And.intro q1 (And.intro q2 q3)))
  have HJ7:=Lib.hid hj7
  clear hj7 hK7 k0 k1 k2 k3 q0 q1 q2 q3 hcf6 hkl6
  generalize w6.alloc (.cells #[.int .i64 (i:Int),.int .i64 kx,.int .i64 zx,.int .i64 sx,.int .i64 tx] 95)=w7 at *
  have hsz7:w0.heap.size + 4 ≤ w7.heap.size:=by obtain ⟨_,_,_,q3⟩:=HQ7.out;exact (Array.getElem?_eq_some_iff.1 q3).1
  have HYY:=Lib.hid (HY.out a s w7 i HJ7.out HNX.out HI.out.1 HI.out.2 hsz7)
  clear hsz7
  rw [HX.out] at HYY
  obtain ⟨fn,tmps,assign,body,hy,hR⟩:=HYY.out
  have hy2:(Instr.yield l #[.agg #[.int .i64 (i:Int),.int .i64 kx,.int .i64 zx,.int .i64 sx,.int .i64 tx]]).run Tryz.prog w7=.ok (.round l fn tmps assign body) w7:=hy
  have HR:=Lib.hid hR;clear hR HYY hy
  rw [hy2]
  simp only [go_sem]
  refine ⟨fun hh => (by cases hh),(show RoundIn (Fence.wide.inRound (w0.heap.size + 1 + 1 + 1)) _ Tryz.prog l fn tmps assign body w7 _ from HR.out).mono ?_⟩
  rintro e w8 (⟨rfl,hk8,s',hj8⟩ | ⟨rfl,hk8,hd8⟩)
  ·obtain ⟨k0,k1,k2,k3⟩:=HQ7.out
   have q0:=(hk8 _ (by omega) (by omega)).trans k0
   have q1:=(hk8 _ (by omega) (by omega)).trans k1
   have q2:=(hk8 _ (by omega) (by omega)).trans k2
   have q3:=(hk8 _ (by omega) (by omega)).trans k3
   have HQ8:=Lib.hid (And.intro q0 (And.intro q1 (And.intro q2 q3)))
   have HJ8:=Lib.hid hj8
   clear k0 k1 k2 k3 q0 q1 q2 q3 hk8 hj8
   gi_wp2_with fail
   obtain ⟨k0,k1,k2,k3⟩:=HQ8.out
   exact ⟨k3,.inl ⟨rfl,_,s',rfl,HST.out _ _ _ _ HJ8.out ((only_put _).mono (by omega) (by omega)),(World.putObj_heap_other (by omega)).trans k0,(World.putObj_heap_other (by omega)).trans k1,(World.putObj_heap_other (by omega)).trans k2,World.putObj_heap_same (Array.getElem?_eq_some_iff.1 k3).1⟩⟩
  ·obtain ⟨k0,k1,k2,k3⟩:=HQ7.out
   have q2:=(hk8 _ (by omega) (by omega)).trans k2
   have q3:=(hk8 _ (by omega) (by omega)).trans k3
   have HQ8:=Lib.hid (And.intro q2 q3)
   have HD8:=Lib.hid hd8
   clear k0 k1 k2 k3 q2 q3 hk8 hd8
   gi_wp2_with fail
   obtain ⟨k2,k3⟩:=HQ8.out
   exact ⟨k3,.inr ⟨rfl,HSTD.out _ _ HD8.out ((only_put _).mono (by omega) (by omega)),(World.putObj_heap_other (by omega)).trans k2,.inr (World.putObj_heap_same (Array.getElem?_eq_some_iff.1 k3).1)⟩⟩
 ·rintro e W2 ⟨hv,hd,h2,h3⟩
  refine ⟨hv,?_⟩
  have hk:∀ o,(W2.putObj (w0.heap.size + 1 + 1 + 1) o).heap[w0.heap.size + 1 + 1]?=some (.deferred (some [])):=fun o => (World.putObj_heap_other (by omega)).trans h2
  have hfin:∀ o,D ((W2.putObj (w0.heap.size + 1 + 1 + 1) o).putObj (w0.heap.size + 1 + 1) (.deferred none)):=fun o =>
   HSTD.out _ _ hd (((only_put _).mono (by omega) (by omega):Only w0.heap.size (w0.heap.size + 4) _ _).trans ((only_put _).mono (by omega) (by omega)))
  rcases h3 with h3 | h3
  ·refine .inl ⟨h3,?_⟩
   have HK:=Lib.hid (hk (r.at .exhausted none))
   have HF:=Lib.hid (hfin (r.at .exhausted none))
   clear hk hfin h2 hd
   gi_wp2
   refine ⟨by simp,.inl ⟨_,_,rfl,run_takeDeferred HK.out,?_⟩⟩
   exact ⟨_,results_none rfl _ _ _,rfl,HF.out⟩
  ·refine .inr ⟨.ret,h3,?_⟩
   have HK:=Lib.hid (hk (r.at .exhausted (some .ret)))
   have HF:=Lib.hid (hfin (r.at .exhausted (some .ret)))
   clear hk hfin h2 hd
   gi_wp2
   refine ⟨by simp,.inl ⟨_,_,rfl,run_takeDeferred HK.out,?_⟩⟩
   exact ⟨_,results_none rfl _ _ _,rfl,HF.out⟩
end Go.Proofs.YtfbcdmhmpfijjaaGreatDoor
namespace Go.Proofs.YtfbcdmhmpfijjaaGreatDoor
open Go Go.RowKit
attribute [local go_sem] Oper.semAt_some
theorem wpListIn_append_eq {F:Fence} {n:Nat} {P:Program} (w:World) {ops:Array Oper} {rest:List Oper} {o:Oper} {a:Act} {Q:Exit → Act → World → Prop}
 (hg:o.guard=none) (s x:Operand) (t:TypeId) (hop:o.op=Op.call { callee:=Callee.builtin Builtin.append,args:=#[s,x],argTypes:=#[t,t] })
 (sv xv v':Value) (w':World) (hs:a.eval s=sv) (hx:a.eval x=xv) (hrun:(Builtin.append_ #[t,t] o.type #[sv,xv]).run P w=.ok v' w')
 (hK:wpListIn F n P ops Q rest (a.put o.dst v') w') :
 wpListIn F n P ops Q (o :: rest) a w:=by
 refine wpListIn_plain hg fun K hK' => ?_
 unfold Oper.wpIn
 refine ⟨?_,?_⟩
 ·simp [Oper.about,hop,resolve,Target.leads,Sem.run_pure]
 ·rw [Oper.semAt_plain F _ _ (by rw [hop];intro c hc';cases hc')]
  simp [execOp,hop,resolve,invoke,builtin,hs,hx,hrun,Result.andThen]
  exact hK' _ _ hK
def St.blk (s:St):Nat → List Ob
 | 0 => []
 | a + 1 => if s.B 0 a then s.blk a ++ [⟨a,s.sh a⟩] else s.blk a
def St.blks (s:St):List Ob:=s.blk (64 * s.n)
theorem St.blk_none {s:St} {a:Nat}:∀ k,(∀ j,a ≤ j → j < a + k → s.B 0 j=false) → s.blk (a + k)=s.blk a
 | 0,_ => rfl
 | k + 1,h => by
  show (if s.B 0 (a + k) then _ else _)=_
  rw [h (a + k) (by omega) (by omega),if_neg (by decide)]
  exact s.blk_none k (fun j h1 h2 => h j h1 (by omega))
theorem St.blk_next {s:St} {N a i:Nat} (h:Bm.next (s.B 0) N (a:Int)=((i:Nat):Int)) (hi:a ≤ i):s.blk (i + 1)=s.blk a ++ [⟨i,s.sh i⟩]:=by
 rcases Bm.next_spec (s.B 0) N (a:Int) with ⟨e,_⟩ | ⟨i',e,h2,h3,h4,h5⟩
 ·rw [e] at h;omega
 ·rw [e] at h
  obtain rfl:i'=i:=by omega
  have e1:=St.blk_none (s:=s) (a:=a) (i' - a) (fun j hj1 hj2 => h5 j (by omega) (by omega))
  rw [show a + (i' - a)=i' by omega] at e1
  show (if s.B 0 i' then _ else _)=_
  rw [h4,if_pos rfl,e1]
theorem St.blk_end {s:St} {N a:Nat} (h:Bm.next (s.B 0) N (a:Int)=-1) (ha:a ≤ N):s.blk a=s.blk N:=by
 rcases Bm.next_spec (s.B 0) N (a:Int) with ⟨_,h5⟩ | ⟨i',e,h2,h3,h4,_⟩
 ·have e1:=St.blk_none (s:=s) (a:=a) (N - a) (fun j hj1 hj2 => h5 j (by omega) (by omega))
  rw [show a + (N - a)=N by omega] at e1
  exact e1.symm
 ·rw [e] at h;omega
theorem St.blk_len (s:St):∀ a,(s.blk a).length ≤ a
 | 0 => Nat.le_refl _
 | a + 1 => by
  have:=s.blk_len a
  show (if s.B 0 a then s.blk a ++ [_] else s.blk a).length ≤ _
  split
  ·simp;omega
  ·omega
set_option maxRecDepth 100000 in
set_option maxHeartbeats 3200000 in
theorem sblocks_any (w:World) (L:Lay) (s:St) (h:SpaceAt w L s) :
 Calls Tryz.prog 31 #[.pointer (some ⟨L.sb,0,none⟩)] w fun e w' => (∃ v,e=.returned v ∧ w'.ownsRow w.heap.size 95 5 v s.blks.length (obCells s.blks)) ∧ Still w w':=by
 have HS:=Lib.hid h
 clear h
 refine (callsIn_wide (n:=9)).1 ?_
 refine callsIn_of_wp_marks Tryz.func31 rfl trivial ?_ rfl
 simp only [Tryz.ntmps31,List.size_toArray,List.length_cons,List.length_nil,Nat.reduceAdd,Nat.reduceSub,Array.replicate_succ,Array.replicate_zero,List.push_toArray,List.append_toArray,List.nil_append,List.cons_append]
 gi_wp2_with fail
 refine ⟨trivial,(callsIn_wide.2 (sall_any _ _)).mono ?_⟩
 rintro e w2 ⟨rfl,hw2⟩
 obtain ⟨B0,hB0⟩:∃ B0,w.heap.size=B0:=⟨_,rfl⟩
 rw [World.size_alloc,hB0]
 have hb0:w2.heap[B0]?=some (.cells #[.slice none 0 0] 62):=by rw [hw2,← hB0];rw [Below.heap_alloc _ _ _ (by simp)];exact heap_alloc_new w _
 have hb1:w2.heap[B0 + 1]?=some (.cells #[.pointer (some ⟨L.sb,0,none⟩)] 34):=by
  rw [hw2]
  have:=heap_alloc_new (w.alloc (.cells #[.slice none 0 0] 62)) (.cells #[.pointer (some ⟨L.sb,0,none⟩)] 34)
  rwa [World.size_alloc,hB0] at this
 have hst2:Still w w2:=by rw [hw2];exact ((Only.refl _ _ w).alloc _).alloc _
 have hsz2:w2.heap.size=B0 + 1 + 1:=by rw [hw2,← hB0];simp
 clear hw2
 gi_wp2_with fail
 refine wpIn_range (gf:=121) (lb:=#[.pointer (some ⟨B0 + 1,0,none⟩)]) rfl (enters_of Tryz.func121 (by kernel_rfl) rfl) ?_
 intro r ht hps has hbd W1 hW1
 have HRT:=Lib.hid ht;have HRP:=Lib.hid hps;have HRA:=Lib.hid has;have HRB:=Lib.hid hbd
 clear ht hps has hbd
 rw [hsz2]
 have hl0:W1.heap[B0 + 1 + 1 + 1]?=some (r.at .ready none):=by
  rw [hW1]
  have:=World.alloc_heap_new (w2.alloc (.deferred (some []))) (r.at .ready none)
  rw [World.size_alloc,hsz2] at this
  exact this
 have hd0:W1.heap[B0 + 1 + 1]?=some (.deferred (some [])):=by
  rw [hW1,Below.heap_alloc _ _ _ (by simp [hsz2]),← hsz2]
  exact World.alloc_heap_new w2 _
 have hO1:Still w2 W1:=by rw [hW1];exact ((Only.refl _ _ w2).alloc _).alloc _
 have hsW:W1.heap.size=B0 + 4:=by rw [hW1];simp [hsz2]
 have hq0:=at_only hO1 hb0 (.inl (by omega))
 have hq1:=at_only hO1 hb1 (.inl (by omega))
 have hOW:Still w W1:=Still.trans hst2 hO1
 clear hO1 hW1 hb0 hb1 hst2
 refine (all1_in (9 - 1) (B0 + 1 + 1 + 1)
  (fun a s' w' => s'=s ∧ Still w w' ∧ a ≤ 64 * s.n ∧ w'.heap[B0 + 1]?=some (.cells #[.pointer (some ⟨L.sb,0,none⟩)] 34) ∧ w'.heap[B0 + 1 + 1]?=some (.deferred (some [])) ∧ w'.heap[B0 + 1 + 1 + 1]?=some (r.at .ready none) ∧
    ∃ v,w'.heap[B0]?=some (.cells #[v] 62) ∧ w'.ownsRow (B0 + 4) 95 5 v (s.blk a).length (obCells (s.blk a)) ∧ ∀ g,v.ownBlock=some g → W1.heap.size + 4 ≤ g)
  (fun w' => Still w w' ∧ w'.heap[B0 + 1 + 1]?=some (.deferred (some [])) ∧ w'.heap[B0 + 1 + 1 + 1]?=some (r.at .ready none) ∧ ∃ v,w'.heap[B0]?=some (.cells #[v] 62) ∧ w'.ownsRow (B0 + 4) 95 5 v s.blks.length (obCells s.blks) ∧ ∀ g,v.ownBlock=some g → W1.heap.size + 4 ≤ g)
  L (64 * s.n) (B0 + 1) W1 ?hmap ?hst ?hstD ?hyield ?hend s ⟨rfl,hOW,Nat.zero_le _,hq1,hd0,hl0,_,hq0,World.ownsRow_nil _ _ _ _,fun g hg => (by cases hg)⟩).mono ?_
 case hmap =>
  rintro a s' w' ⟨rfl,hs,_,h1,_⟩
  exact ⟨HS.out.still hs,rfl,cell_of h1 0 rfl⟩
 case hst =>
  rintro a s' w3 w4 ⟨rfl,hs,ha,h1,h2,h3,v,h4,h5,h6⟩ ho
  refine ⟨rfl,hs.trans' ho (.inr (by omega)) (.inr (by omega)),ha,at_only ho h1 (.inl (by omega)),at_only ho h2 (.inl (by omega)),at_only ho h3 (.inl (by omega)),v,at_only ho h4 (.inl (by omega)),ownsRow_of_block h5 (fun g hg => ho.block g (h5.lt g hg).2 (.inr (by have:=h6 g hg;omega))),h6⟩
 case hstD =>
  rintro w3 w4 ⟨hs,h2,h3,v,h4,h5,h6⟩ ho
  exact ⟨hs.trans' ho (.inr (by omega)) (.inr (by omega)),at_only ho h2 (.inl (by omega)),at_only ho h3 (.inl (by omega)),v,at_only ho h4 (.inl (by omega)),ownsRow_of_block h5 (fun g hg => ho.block g (h5.lt g hg).2 (.inr (by have:=h6 g hg;omega))),h6⟩
 case hend =>
  rintro a s' w3 ⟨rfl,hs,ha,h1,h2,h3,v,h4,h5,h6⟩ hn
  have e:=St.blk_end hn ha
  rw [e] at h5
  exact ⟨hs,h2,h3,v,h4,h5,h6⟩
 case hyield =>
  rintro a s' w3 i ⟨rfl,hs,ha,h1,h2,h3,v,h4,h5,h6⟩ hn hai hiN hsz
  refine yield_at r h3 (by rw [HRP.out];rfl) ?_
  rw [HRA.out,HRT.out,HRP.out]
  have HSH:=Lib.hid hn
  obtain ⟨⟨kx,zx,sx,tx⟩,hx⟩:∃ x,s'.sh (i:Int)=x:=⟨_,rfl⟩
  rw [hx]
  have HX:=Lib.hid hx
  have hl3:B0 + 1 + 1 + 1 < w3.heap.size:=(Array.getElem?_eq_some_iff.1 h3).1
  clear hn hx
  gi_wp2
  have hst4:Still w3 (w3.alloc (.cells #[.int .i64 (i:Int),.int .i64 kx,.int .i64 zx,.int .i64 sx,.int .i64 tx] 95)):=(Only.refl _ _ w3).alloc _
  have hb4:=heap_alloc_new w3 (.cells #[.int .i64 (i:Int),.int .i64 kx,.int .i64 zx,.int .i64 sx,.int .i64 tx] 95)
  have hsz4:(w3.alloc (.cells #[.int .i64 (i:Int),.int .i64 kx,.int .i64 zx,.int .i64 sx,.int .i64 tx] 95)).heap.size=w3.heap.size + 1:=by simp
  generalize w3.alloc (.cells #[.int .i64 (i:Int),.int .i64 kx,.int .i64 zx,.int .i64 sx,.int .i64 tx] 95)=w4 at *
  refine ⟨at_only hst4 h3 (.inl hl3),?_⟩
  have ho5:Only (B0 + 1 + 1 + 1) (B0 + 1 + 1 + 1 + 1) w4 (w4.putObj (B0 + 1 + 1 + 1) (r.at .busy none)):=only_put _
  have q0:=at_only ho5 (at_only hst4 h4 (.inl (by omega))) (.inl (by omega))
  have q1:=at_only ho5 (at_only hst4 h1 (.inl (by omega))) (.inl (by omega))
  have q2:=at_only ho5 (at_only hst4 h2 (.inl (by omega))) (.inl (by omega))
  have q3:(w4.putObj (B0 + 1 + 1 + 1) (r.at .busy none)).heap[B0 + 1 + 1 + 1]?=some (r.at .busy none):=World.putObj_heap_same (by omega)
  have qb:=at_only ho5 hb4 (.inr (by omega))
  have qo:(w4.putObj (B0 + 1 + 1 + 1) (r.at .busy none)).ownsRow (B0 + 4) 95 5 v (s'.blk a).length (obCells (s'.blk a)):=ownsRow_of_block h5 (fun g hg => by
   rw [ho5.block g (by have:=(h5.lt g hg).2;omega) (.inr (by have:=h6 g hg;omega)),hst4.block g (h5.lt g hg).2 (.inl (h5.lt g hg).2)])
  have hs5:Still w (w4.putObj (B0 + 1 + 1 + 1) (r.at .busy none)):=(Still.trans hs hst4).trans' ho5 (.inr (by omega)) (.inr (by omega))
  have hsz5:(w4.putObj (B0 + 1 + 1 + 1) (r.at .busy none)).heap.size=w3.heap.size + 1:=by rw [← hsz4];simp
  have hke5:∀ k,k < w3.heap.size → k ≠ B0 + 1 + 1 + 1 → (w4.putObj (B0 + 1 + 1 + 1) (r.at .busy none)).heap[k]?=w3.heap[k]?:=fun k hk hne => by
   rw [ho5.block k (by omega) (by omega),hst4.block k hk (.inl hk)]
  generalize w4.putObj (B0 + 1 + 1 + 1) (r.at .busy none)=w5 at *
  rw [HRB.out]
  have hlen:(s'.blk a).length ≤ 1000000:=by have:=s'.blk_len a;have:=HS.out.n2;omega
  obtain ⟨v6,w6,happ,hown6,ho6,hsz6,hk6,hkv6⟩:=ob_append w5 (B0 + 4) (s'.blk a) v qo (by omega) hlen ⟨i,⟨kx,zx,sx,tx⟩⟩
  have hv6:∃ ao ln cp,v6=.slice ao ln cp:=by
   rcases hown6.2 with ⟨h1,_⟩ | ⟨g,cap,cur,h1,_⟩
   ·exact ⟨_,_,_,h1⟩
   ·exact ⟨_,_,_,h1⟩
  obtain ⟨ao,ln,cp,rfl⟩:=hv6
  have x0:=cell_of (v:=v) q0 0 rfl
  have xl:=(Array.getElem?_eq_some_iff.1 q0).1
  have z0:=cell_of (v:=.int .i64 (i:Int)) qb 0 rfl
  have z1:=cell_of (v:=.int .i64 kx) qb 1 rfl
  have z2:=cell_of (v:=.int .i64 zx) qb 2 rfl
  have z3:=cell_of (v:=.int .i64 sx) qb 3 rfl
  have z4:=cell_of (v:=.int .i64 tx) qb 4 rfl
  have zl:=(Array.getElem?_eq_some_iff.1 qb).1
  have r0:=at_only ho6 q0 (.inl (by omega))
  have r1:=at_only ho6 q1 (.inl (by omega))
  have r2:=at_only ho6 q2 (.inl (by omega))
  have r3:=at_only ho6 q3 (.inl (by omega))
  have y0:=cell_of (v:=v) r0 0 rfl
  have yf:=frozen_of r0 0
  have yl:=(Array.getElem?_eq_some_iff.1 r0).1
  rw [hsz5] at happ
  have HAPP:=Lib.hid happ
  have HOWN:=Lib.hid hown6
  have HO6:=Lib.hid ho6
  have HK6:=Lib.hid (And.intro hk6 hkv6)
  have HR:=Lib.hid (And.intro r0 (And.intro r1 (And.intro r2 r3)))
  have HKE:=Lib.hid hke5
  have HS5:=Lib.hid hs5
  clear happ hown6 ho6 hk6 hkv6 r0 r1 r2 r3 q0 q1 q2 q3 qb qo hs5 ho5 hst4 hb4 hke5 h1 h2 h3 h4 h5
  gi_wp2_with (first | (gi_at_builtin;refine wpListIn_append_eq _ rfl (.tmp 8) (.tmp 10) 62 rfl v (.slice (some ⟨w3.heap.size + 1,0,none⟩) 1 1) (.slice ao ln cp) w6 rfl rfl HAPP.out ?_))
  obtain ⟨r0,r1,r2,r3⟩:=HR.out
  have s3:(w6.setCell ⟨B0,0,none⟩ (.slice ao ln cp)).heap[B0 + 1 + 1 + 1]?=some (r.at .busy none):=(box1_ne (by omega) _ _).trans r3
  have hl6:B0 + 1 + 1 + 1 < (w6.setCell ⟨B0,0,none⟩ (.slice ao ln cp)).heap.size:=(Array.getElem?_eq_some_iff.1 s3).1
  have hb:=s'.blk_next HSH.out hai
  rw [HX.out] at hb
  refine ⟨s3,.inl ⟨rfl,fun k hk1 hk2 => ?_,?_,by omega,(World.putObj_heap_other (by omega)).trans ((box1_ne (by omega) _ _).trans r1),(World.putObj_heap_other (by omega)).trans ((box1_ne (by omega) _ _).trans r2),World.putObj_heap_same hl6,.slice ao ln cp,(World.putObj_heap_other (by omega)).trans (box1 r0 _),?_,fun g hg => ?_⟩⟩
  ·rw [World.putObj_heap_other (by omega),box1_ne (by omega),HK6.out.1 k (by omega) (fun e => by have:=h6 k e;omega),HKE.out k (by omega) (by omega)]
  ·exact ((HS5.out.trans' HO6.out (.inr (by omega)) (.inr (by omega))).setCell (p:=⟨B0,0,none⟩) (.inr (Nat.le_of_eq hB0)) _).trans' (only_put _) (.inr (by omega)) (.inr (by omega))
  ·rw [hb]
   refine ownsRow_of_block HOWN.out fun g hg => ?_
   have:=(HOWN.out.lt g hg).1
   rw [World.putObj_heap_other (by omega),box1_ne (by omega)]
  ·refine Classical.byContradiction fun hlt => ?_
   have:=HK6.out.2 g (by omega) (fun e => by have:=h6 g e;omega)
   exact this hg
 ·rintro e W2 ⟨rfl,hs,h2,h3,v,h4,h5,h6⟩
  refine ⟨⟨_,rfl⟩,.inl ⟨h3,?_⟩⟩
  have hl2:=(Array.getElem?_eq_some_iff.1 h2).1
  have k2:(W2.putObj (B0 + 1 + 1 + 1) (r.at .exhausted none)).heap[B0 + 1 + 1]?=some (.deferred (some [])):=(World.putObj_heap_other (by omega)).trans h2
  have k4:(W2.putObj (B0 + 1 + 1 + 1) (r.at .exhausted none)).heap[B0]?=some (.cells #[v] 62):=(World.putObj_heap_other (by omega)).trans h4
  have k5:(W2.putObj (B0 + 1 + 1 + 1) (r.at .exhausted none)).ownsRow (B0 + 4) 95 5 v s.blks.length (obCells s.blks):=ownsRow_of_block h5 (fun g hg => World.putObj_heap_other (by have:=h6 g hg;omega))
  have ks:Still w (W2.putObj (B0 + 1 + 1 + 1) (r.at .exhausted none)):=hs.trans' (only_put _) (.inr (by omega)) (.inr (by omega))
  generalize W2.putObj (B0 + 1 + 1 + 1) (r.at .exhausted none)=w7 at *
  have HK:=Lib.hid (And.intro k2 (And.intro k5 (And.intro ks h6)))
  have x0:=cell_of (v:=v) k4 0 rfl
  clear hs h2 h3 h4 h5 h6 k2 k4 k5 ks hq0 hq1 hd0 hl0 hOW hl2
  gi_wp2
  obtain ⟨k2,k5,ks,h6⟩:=HK.out
  refine ⟨by simp,.inl ⟨_,_,rfl,run_takeDeferred k2,?_⟩⟩
  refine ⟨v,by simp [results,Tryz.results31,go_sem],⟨v,rfl,?_⟩,?_⟩
  ·refine ownsRow_of_block (ownsRow_le k5 (by omega)) (fun g hg => World.putObj_heap_other (by have:=h6 g hg;omega))
  ·exact ks.trans' (only_put _) (.inr (by omega)) (.inr (by omega))
end Go.Proofs.YtfbcdmhmpfijjaaGreatDoor
