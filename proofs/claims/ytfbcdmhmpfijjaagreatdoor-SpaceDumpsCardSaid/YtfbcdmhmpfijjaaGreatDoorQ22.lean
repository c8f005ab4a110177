/-
  The walk of space.Dump.
-/
import Derived.Test.YtfbcdmhmpfijjaaGreatDoorQ21
import Derived.Deep.Cut
import Derived.Deep.CutRange
set_option linter.unusedVariables false
set_option linter.unusedSimpArgs false
set_option linter.unusedSectionVars false
namespace Go.Proofs.YtfbcdmhmpfijjaaGreatDoor
open Go Go.RowKit
def wdList (W:Nat → Int) (N:Nat):List Int:=(List.range N).map W
theorem wdList_length (W:Nat → Int) (N:Nat):(wdList W N).length=N:=by simp [wdList]
theorem words_copy (w:World) (L:Lay) (s:St) (h:SpaceAt w L s) :
 ∃ v' w',(Builtin.append_ #[27,27] 27 #[.slice none 0 0,.slice (some ⟨L.wb,0,none⟩) (64 * s.n) (64 * s.n)]).run Tryz.prog w=.ok v' w' ∧
  w'.ownsRow w.heap.size 3 1 v' (64 * s.n) ((wdList s.W (64 * s.n)).map (Value.int .i64)) ∧ Still w w':=by
 have h2:=h.n2
 obtain ⟨i0,hi,hz0,hz1,hz2⟩:=info_parts Tryz.infoI5
 obtain ⟨v',w',a1,a2,a3,_⟩:=run_append_own (P:=Tryz.prog) w w.heap.size 27 27 3 i0 _ 1 8 Tryz.underlying27 hi hz0 hz1 hz2 rfl (by decide) (.slice none 0 0) 0 [] (World.ownsRow_nil _ _ _ _)
  ⟨L.wb,0,none⟩ (64 * s.n) (64 * s.n) ((wdList s.W (64 * s.n)).map (Value.int .i64)) (by simp [wdList_length]) (fun j u hu => by
   rw [add_at]
   have hj:j < 64 * s.n:=by have:=(List.getElem?_eq_some_iff.1 hu).1;simpa [wdList_length] using this
   rw [h.words.cell j hj,← hu,List.getElem?_map]
   unfold wdList
   rw [List.getElem?_map,List.getElem?_range hj];rfl) (fun u hu => by
   obtain ⟨z,_,rfl⟩:=List.mem_map.1 hu
   rfl) (by unfold maxLen;omega) (by omega) (Nat.le_refl _)
 exact ⟨v',w',a1,by simpa using a2,(Only.refl _ _ w).grown a3 (fun k hk => by cases hk)⟩
theorem pages_copy (w:World) (L:Lay) (s:St) (h:SpaceAt w L s) :
 Calls Tryz.prog 88 #[.pointer (some ⟨L.tb,0,none⟩)] w fun e w' => (∃ v,e=.returned v ∧ w'.ownsRow w.heap.size 146 3 v s.n (pgCells s.P s.n).toList) ∧ Still w w':=by
 obtain ⟨free,ht⟩:=h.table
 refine tall_any _ _ _ _ _ _ _ _ _ w ht _ (fun cap' r h1 h2 h3 => ⟨⟨_,rfl,?_⟩,((Only.refl _ _ w).drew.alloc _)⟩)
 refine ⟨by rw [Array.length_toList,pgCells_size];omega,.inr ⟨w.heap.size,cap',_,rfl,Nat.le_refl _,heap_alloc_new w.drew _,h1,h2,?_,?_⟩⟩
 ·rw [Array.size_append,pgCells_size,h3];omega
 ·rw [Array.toList_append,show s.n * 3=(pgCells s.P s.n).toList.length by rw [Array.length_toList,pgCells_size];omega,List.take_left]
abbrev zero12:Obj:=.cells #[.slice none 0 0,.slice none 0 0,.slice none 0 0,.int .i64 0,.int .i64 0,.int .i64 0,.int .i64 0,.int .i64 0,.int .i64 0,.int .i64 0,.int .i64 0,.int .i64 0] 73 (0,0)
abbrev dumpObj (v1 v2 v3:Value) (h:Nat → Int) (ser:Int):Obj:=.cells #[v1,v2,v3,.int .i64 (h 0),.int .i64 (h 1),.int .i64 (h 2),.int .i64 (h 3),.int .i64 (h 4),.int .i64 (h 5),.int .i64 (h 6),.int .i64 (h 7),.int .i64 ser] 73 (0,0)
structure Lists (w:World) (B:Nat) (s:St) (v1 v2 v3:Value):Prop where
 r1:w.ownsRow B 3 1 v1 (64 * s.n) ((wdList s.W (64 * s.n)).map (Value.int .i64))
 r2:w.ownsRow B 146 3 v2 s.n (pgCells s.P s.n).toList
 r3:w.ownsRow B 95 5 v3 s.blks.length (obCells s.blks)
structure DmpAt (w:World) (B:Nat) (s:St) (db:Nat) (v1 v2 v3:Value) (h:Nat → Int) (W:World):Prop where
 st:Still w W
 box:W.heap[db]?=some (dumpObj v1 v2 v3 h s.ser)
 lo:B ≤ db
 li:Lists W B s v1 v2 v3
theorem ownsRow_still {w w':World} {base:Nat} {e:TypeId} {size:Nat} {v:Value} {n:Nat} {xs:List Value} (h:w.ownsRow base e size v n xs) (hs:Still w w'):w'.ownsRow base e size v n xs :=
 ownsRow_of_block h fun g hg => hs.block g (h.lt g hg).2 (.inl (h.lt g hg).2)
theorem step_append_some {P:Program} {ops:Array Oper} {o:Oper} {a:Act} {w:World} {K:Act → World → Prop} {Q:Exit → Act → World → Prop} {E:Prop}
 (hg:o.guard=none) (s x:Operand) (t:TypeId) (hop:o.op=Op.call { callee:=Callee.builtin Builtin.append,args:=#[s,x],argTypes:=#[t,t] })
 (sv xv:Value) (hs:a.eval s=sv) (hx:a.eval x=xv) {R:Value → World → Prop} (hrun:∃ v' w',(Builtin.append_ #[t,t] o.type #[sv,xv]).run P w=.ok v' w' ∧ R v' w') (hK:∀ v' w',R v' w' → K (a.put o.dst v') w') :
 if Region.wanted o (yielded ops a.tmps)=true then Oper.wp P o a w K Q else E:=by
 obtain ⟨v',w',h1,h2⟩:=hrun
 exact step_append_eq hg s x t hop sv xv v' w' hs hx h1 (hK v' w' h2)
theorem own_slice {w:World} {base:Nat} {e:TypeId} {size:Nat} {v:Value} {n:Nat} {xs:List Value} (h:w.ownsRow base e size v n xs):∃ ao ln cp,v=.slice ao ln cp:=by
 rcases h.2 with ⟨rfl,_⟩ | ⟨g,cap,cur,rfl,_⟩
 ·exact ⟨_,_,_,rfl⟩
 ·exact ⟨_,_,_,rfl⟩
theorem fresh_still {w W w':World} {o:Obj} (ho:Still W w') (hW:W.heap=(w.alloc o).heap):w'.heap[w.heap.size]?=some o :=
 (ho.block _ (by rw [hW];simp) (.inl (by rw [hW];simp))).trans (by rw [hW];exact heap_alloc_new w o)
theorem own_ne {w:World} {base:Nat} {e T:TypeId} {size:Nat} {v:Value} {n b:Nat} {xs:List Value} {cs:Array Value} {fr:Nat × Nat} (h:w.ownsRow base e size v n xs) (hb:w.heap[b]?=some (.cells cs T fr)) (hT:T ≠ e):∀ g,v.ownBlock=some g → g ≠ b:=by
 intro g hg e2
 rcases h.2 with ⟨rfl,_⟩ | ⟨g',cap,cur,rfl,_,hgg,_⟩
 ·cases hg
 ·obtain rfl:g'=g:=by injection hg
  rw [e2,hb] at hgg
  injection hgg with hgg
  injection hgg with _ h2 _
  exact hT h2
theorem dump_box {w:World} {B:Nat} (h:w.heap[B]?=some zero12) (y0 y1 y2 y3 y4 y5 y6 y7 y8 y9 y10 y11:Value) :
 ((((((((((((w.setCell ⟨B,0,none⟩ y0).setCell ⟨B,1,none⟩ y1).setCell ⟨B,2,none⟩ y2).setCell ⟨B,3,none⟩ y3).setCell ⟨B,4,none⟩ y4).setCell ⟨B,5,none⟩ y5).setCell ⟨B,6,none⟩ y6).setCell ⟨B,7,none⟩ y7).setCell ⟨B,8,none⟩ y8).setCell ⟨B,9,none⟩ y9).setCell ⟨B,10,none⟩ y10).setCell ⟨B,11,none⟩ y11).heap[B]?=some (.cells #[y0,y1,y2,y3,y4,y5,y6,y7,y8,y9,y10,y11] 73 (0,0)):=by
 simp only [World.setCell,Array.getElem?_modify,h]
 simp
theorem dump_box_ne {w:World} {B k:Nat} (hk:k ≠ B) (y0 y1 y2 y3 y4 y5 y6 y7 y8 y9 y10 y11:Value):((((((((((((w.setCell ⟨B,0,none⟩ y0).setCell ⟨B,1,none⟩ y1).setCell ⟨B,2,none⟩ y2).setCell ⟨B,3,none⟩ y3).setCell ⟨B,4,none⟩ y4).setCell ⟨B,5,none⟩ y5).setCell ⟨B,6,none⟩ y6).setCell ⟨B,7,none⟩ y7).setCell ⟨B,8,none⟩ y8).setCell ⟨B,9,none⟩ y9).setCell ⟨B,10,none⟩ y10).setCell ⟨B,11,none⟩ y11).heap[k]?=w.heap[k]?:=by
 repeat rw [Below.heap_setCell _ _ _ _ (by exact hk)]
theorem only_dump {lo hi:Nat} {a w:World} (h:Only lo hi a w) {B:Nat} (hb:(lo ≤ B ∧ B < hi) ∨ a.heap.size ≤ B) (y0 y1 y2 y3 y4 y5 y6 y7 y8 y9 y10 y11:Value):Only lo hi a ((((((((((((w.setCell ⟨B,0,none⟩ y0).setCell ⟨B,1,none⟩ y1).setCell ⟨B,2,none⟩ y2).setCell ⟨B,3,none⟩ y3).setCell ⟨B,4,none⟩ y4).setCell ⟨B,5,none⟩ y5).setCell ⟨B,6,none⟩ y6).setCell ⟨B,7,none⟩ y7).setCell ⟨B,8,none⟩ y8).setCell ⟨B,9,none⟩ y9).setCell ⟨B,10,none⟩ y10).setCell ⟨B,11,none⟩ y11):=by
 exact ((((((((((((h.setCell (p:=⟨B,0,none⟩) hb y0).setCell (p:=⟨B,1,none⟩) hb y1).setCell (p:=⟨B,2,none⟩) hb y2).setCell (p:=⟨B,3,none⟩) hb y3).setCell (p:=⟨B,4,none⟩) hb y4).setCell (p:=⟨B,5,none⟩) hb y5).setCell (p:=⟨B,6,none⟩) hb y6).setCell (p:=⟨B,7,none⟩) hb y7).setCell (p:=⟨B,8,none⟩) hb y8).setCell (p:=⟨B,9,none⟩) hb y9).setCell (p:=⟨B,10,none⟩) hb y10).setCell (p:=⟨B,11,none⟩) hb y11)
def updH (h:Nat → Int) (c:Nat) (y:Int):Nat → Int:=fun j => if j=c then y else h j
theorem dump_cell {w:World} {B:Nat} {v1 v2 v3:Value} {h:Nat → Int} {ser:Int} (hb:w.heap[B]?=some (dumpObj v1 v2 v3 h ser)) (c:Nat) (hc:c < 8) :
 w.cell? ⟨B,3 + c,none⟩=some (.int .i64 (h c)) ∧ w.frozen? ⟨B,3 + c,none⟩=false:=by
 have hcc:c=0 ∨ c=1 ∨ c=2 ∨ c=3 ∨ c=4 ∨ c=5 ∨ c=6 ∨ c=7:=by omega
 rcases hcc with rfl | rfl | rfl | rfl | rfl | rfl | rfl | rfl <;> exact ⟨cell_of hb _ rfl,frozen_of hb _⟩
theorem dump_turn {w:World} {B:Nat} {v1 v2 v3:Value} {h:Nat → Int} {ser:Int} (hb:w.heap[B]?=some (dumpObj v1 v2 v3 h ser)) (c:Nat) (hc:c < 8) (y:Int) :
 (w.setCell ⟨B,3 + c,none⟩ (.int .i64 y)).heap[B]?=some (dumpObj v1 v2 v3 (updH h c y) ser):=by
 have hcc:c=0 ∨ c=1 ∨ c=2 ∨ c=3 ∨ c=4 ∨ c=5 ∨ c=6 ∨ c=7:=by omega
 simp only [World.setCell,Array.getElem?_modify,hb]
 rcases hcc with rfl | rfl | rfl | rfl | rfl | rfl | rfl | rfl <;> simp [updH]
theorem Lists.kept {w w':World} {B b:Nat} {s:St} {v1 v2 v3:Value} {cs:Array Value} (h:Lists w B s v1 v2 v3) (hb:w.heap[b]?=some (.cells cs 73 (0,0))) (hk:∀ k,k ≠ b → w'.heap[k]?=w.heap[k]?):Lists w' B s v1 v2 v3 :=
 ⟨ownsRow_of_block h.r1 fun g hg => hk g (own_ne h.r1 hb (by decide) g hg),ownsRow_of_block h.r2 fun g hg => hk g (own_ne h.r2 hb (by decide) g hg),ownsRow_of_block h.r3 fun g hg => hk g (own_ne h.r3 hb (by decide) g hg)⟩
theorem Lists.still {w w':World} {B:Nat} {s:St} {v1 v2 v3:Value} (h:Lists w B s v1 v2 v3) (hs:Still w w'):Lists w' B s v1 v2 v3:=⟨ownsRow_still h.r1 hs,ownsRow_still h.r2 hs,ownsRow_still h.r3 hs⟩
theorem Lists.le {w:World} {B B':Nat} {s:St} {v1 v2 v3:Value} (h:Lists w B s v1 v2 v3) (hb:B' ≤ B):Lists w B' s v1 v2 v3:=⟨ownsRow_le h.r1 hb,ownsRow_le h.r2 hb,ownsRow_le h.r3 hb⟩
theorem DmpAt.turn {w:World} {B:Nat} {s:St} {db:Nat} {v1 v2 v3:Value} {h:Nat → Int} {W:World} (hd:DmpAt w B s db v1 v2 v3 h W) (hB:w.heap.size ≤ B) (c:Nat) (hc:c < 8) (y:Int) :
 DmpAt w B s db v1 v2 v3 (updH h c y) (W.setCell ⟨db,3 + c,none⟩ (.int .i64 y)) :=
 ⟨hd.st.setCell (p:=⟨db,3 + c,none⟩) (.inr (Nat.le_trans hB hd.lo)) _,dump_turn hd.box c hc y,hd.lo,hd.li.kept hd.box fun _k hk => box1_ne hk _ _⟩
theorem DmpAt.drewN {w:World} {B:Nat} {s:St} {db:Nat} {v1 v2 v3:Value} {h:Nat → Int} {W:World} (hd:DmpAt w B s db v1 v2 v3 h W) (m:Nat):DmpAt w B s db v1 v2 v3 h (W.drewN m) :=
 ⟨hd.st.drewN m,hd.box,hd.lo,hd.li.still ((Only.refl _ _ W).drewN m)⟩
set_option maxRecDepth 100000 in
set_option maxHeartbeats 6400000 in
theorem dump_any (w:World) (L:Lay) (s:St) (h:SpaceAt w L s) (Q:Ending → World → Prop)
 (hQ:∀ v1 v2 v3 w',Lists w' w.heap.size s v1 v2 v3 → Still w w' → Q (.returned (.agg #[v1,v2,v3,.int .i64 (s.hd0 0),.int .i64 (s.hd0 1),.int .i64 (s.hd0 2),.int .i64 (s.hd0 3),.int .i64 (s.hd0 4),.int .i64 (s.hd0 5),.int .i64 (s.hd0 6),.int .i64 (s.hd0 7),.int .i64 s.ser])) w') :
 Calls Tryz.prog 39 #[.pointer (some ⟨L.sb,0,none⟩)] w Q:=by
 have HS:=Lib.hid h
 have HQ:=Lib.hid hQ
 clear hQ
 go_enter Tryz.func39,Tryz.ntmps39
 go_wp2_with fail
 have hb0:(w.alloc zero12).heap[w.heap.size]?=some zero12:=heap_alloc_new w _
 have hst:Still w (w.alloc zero12):=(Only.refl _ _ w).alloc _
 have H1:=Lib.hid (h.still hst)
 have hs1:L.hi ≤ (w.alloc zero12).heap.size:=H1.out.top
 unfold zero12 at *
 generalize w.alloc (.cells #[.slice none 0 0,.slice none 0 0,.slice none 0 0,.int .i64 0,.int .i64 0,.int .i64 0,.int .i64 0,.int .i64 0,.int .i64 0,.int .i64 0,.int .i64 0,.int .i64 0] 73)=w1 at *
 have HB0:=Lib.hid hb0
 have HST:=Lib.hid hst
 have c0:=H1.out.c0
 have c1:=H1.out.c1
 have c13:=H1.out.c13
 have hlt:=H1.out.sblt
 have HAPP:=Lib.hid (fun w' (h:SpaceAt w' L s) => words_copy w' L s h)
 have HALL:=Lib.hid (fun w' (h:SpaceAt w' L s) => pages_copy w' L s h)
 have HBLK:=Lib.hid (fun w' (h:SpaceAt w' L s) => sblocks_any w' L s h)
 obtain ⟨N,hN⟩:∃ N,64 * s.n=N:=⟨_,rfl⟩
 rw [hN] at c0 HAPP
 have HN:=Lib.hid hN
 obtain ⟨ser,hser⟩:∃ ser,s.ser=ser:=⟨_,rfl⟩
 rw [hser] at c13
 have HSE:=Lib.hid hser
 have HC:Hid (∀ w',Still w1 w' → w'.cell? ⟨L.sb,0,none⟩=some (.slice (some ⟨L.wb,0,none⟩) N N) ∧ w'.cell? ⟨L.sb,1,none⟩=some (.pointer (some ⟨L.tb,0,none⟩)) ∧ w'.cell? ⟨L.sb,13,none⟩=some (.int .i64 ser)):=Lib.hid fun w' hs => by
  have:=H1.out.still hs
  have h1:=this.c0
  have h2:=this.c13
  rw [hN] at h1
  rw [hser] at h2
  exact ⟨h1,this.c1,h2⟩
 have HW1:Hid (w.heap.size < w1.heap.size):=Lib.hid (Array.getElem?_eq_some_iff.1 hb0).1
 clear h hb0 hst hN hser
 go_cut [3] from 6 to 22 (fun s3 wx => ∃ db v1 v2 v3,s3=.pointer (some ⟨db,0,none⟩) ∧ DmpAt w1 w1.heap.size s db v1 v2 v3 (fun _ => 0) wx)
 case first =>
  have hsC:Still w1 w1:=Only.refl _ _ _
  clear hs1
  go_region_held3 (fun w' => w'.cell? ⟨L.sb,0,none⟩=some (.slice (some ⟨L.wb,0,none⟩) N N) ∧ w'.cell? ⟨L.sb,1,none⟩=some (.pointer (some ⟨L.tb,0,none⟩)) ∧ w'.cell? ⟨L.sb,13,none⟩=some (.int .i64 ser))
   (first | with_reducible exact ⟨k0,k1,k2⟩ | (refine HC.out _ ?_;repeat first | with_reducible exact hsC | with_reducible exact Only.refl _ _ _ | with_reducible apply Only.drew | with_reducible apply Only.drewN | with_reducible apply Only.alloc | (with_reducible refine Only.setCell ?_ (.inr ?_) _;rotate_left;(dsimp only;omega))))
   (first
     | (refine step_append_some rfl _ _ 27 rfl _ _ rfl rfl (HAPP.out _ (H1.out.still (by (repeat first | exact hsC | exact Only.refl _ _ _ | apply Only.drew | apply Only.drewN | apply Only.alloc)))) (fun v1 wa hR => ?_);obtain ⟨hr1,hcall⟩:=hR;obtain ⟨a1,n1,p1,rfl⟩:=own_slice hr1;have hr1:=ownsRow_le hr1 (Only.size (lo:=w1.heap.size) (hi:=w1.heap.size) (w:=w1) (by (repeat first | exact hsC | exact Only.refl _ _ _ | apply Only.drew | apply Only.drewN | apply Only.alloc)));(try have hr2:=ownsRow_still hr2 (Still.trans (by (repeat first | exact hsC | exact Only.refl _ _ _ | apply Only.drew | apply Only.drewN | apply Only.alloc)) hcall));(try have hr3:=ownsRow_still hr3 (Still.trans (by (repeat first | exact hsC | exact Only.refl _ _ _ | apply Only.drew | apply Only.drewN | apply Only.alloc)) hcall));(try (first | (have hzb:=at_only hcall hzb (.inl (Array.getElem?_eq_some_iff.1 hzb).1)) | (have hzb:=fresh_still hcall rfl));have hz0:=cell_of (v:=.slice none 0 0) hzb 0 rfl;have hf0:=frozen_of hzb 0;have hz1:=cell_of (v:=.slice none 0 0) hzb 1 rfl;have hf1:=frozen_of hzb 1;have hz2:=cell_of (v:=.slice none 0 0) hzb 2 rfl;have hf2:=frozen_of hzb 2;have hz3:=cell_of (v:=.int .i64 0) hzb 3 rfl;have hf3:=frozen_of hzb 3;have hz4:=cell_of (v:=.int .i64 0) hzb 4 rfl;have hf4:=frozen_of hzb 4;have hz5:=cell_of (v:=.int .i64 0) hzb 5 rfl;have hf5:=frozen_of hzb 5;have hz6:=cell_of (v:=.int .i64 0) hzb 6 rfl;have hf6:=frozen_of hzb 6;have hz7:=cell_of (v:=.int .i64 0) hzb 7 rfl;have hf7:=frozen_of hzb 7;have hz8:=cell_of (v:=.int .i64 0) hzb 8 rfl;have hf8:=frozen_of hzb 8;have hz9:=cell_of (v:=.int .i64 0) hzb 9 rfl;have hf9:=frozen_of hzb 9;have hz10:=cell_of (v:=.int .i64 0) hzb 10 rfl;have hf10:=frozen_of hzb 10;have hz11:=cell_of (v:=.int .i64 0) hzb 11 rfl;have hf11:=frozen_of hzb 11;have hlz:=(Array.getElem?_eq_some_iff.1 hzb).1);have hsC:Still w1 wa:=Still.trans (by (repeat first | exact hsC | exact Only.refl _ _ _ | apply Only.drew | apply Only.drewN | apply Only.alloc)) hcall;have hszC:=hsC.size;obtain ⟨k0,k1,k2⟩:=HC.out _ hsC)
     | (go_at_call 88;refine (HALL.out _ (H1.out.still (by (repeat first | exact hsC | exact Only.refl _ _ _ | apply Only.drew | apply Only.drewN | apply Only.alloc)))).mono ?_;rintro e wp ⟨⟨v2,rfl,hr2⟩,hcall⟩;obtain ⟨a2,n2,p2,rfl⟩:=own_slice hr2;have hr2:=ownsRow_le hr2 (Only.size (lo:=w1.heap.size) (hi:=w1.heap.size) (w:=w1) (by (repeat first | exact hsC | exact Only.refl _ _ _ | apply Only.drew | apply Only.drewN | apply Only.alloc)));(try have hr1:=ownsRow_still hr1 (Still.trans (by (repeat first | exact hsC | exact Only.refl _ _ _ | apply Only.drew | apply Only.drewN | apply Only.alloc)) hcall));(try have hr3:=ownsRow_still hr3 (Still.trans (by (repeat first | exact hsC | exact Only.refl _ _ _ | apply Only.drew | apply Only.drewN | apply Only.alloc)) hcall));(try (first | (have hzb:=at_only hcall hzb (.inl (Array.getElem?_eq_some_iff.1 hzb).1)) | (have hzb:=fresh_still hcall rfl));have hz0:=cell_of (v:=.slice none 0 0) hzb 0 rfl;have hf0:=frozen_of hzb 0;have hz1:=cell_of (v:=.slice none 0 0) hzb 1 rfl;have hf1:=frozen_of hzb 1;have hz2:=cell_of (v:=.slice none 0 0) hzb 2 rfl;have hf2:=frozen_of hzb 2;have hz3:=cell_of (v:=.int .i64 0) hzb 3 rfl;have hf3:=frozen_of hzb 3;have hz4:=cell_of (v:=.int .i64 0) hzb 4 rfl;have hf4:=frozen_of hzb 4;have hz5:=cell_of (v:=.int .i64 0) hzb 5 rfl;have hf5:=frozen_of hzb 5;have hz6:=cell_of (v:=.int .i64 0) hzb 6 rfl;have hf6:=frozen_of hzb 6;have hz7:=cell_of (v:=.int .i64 0) hzb 7 rfl;have hf7:=frozen_of hzb 7;have hz8:=cell_of (v:=.int .i64 0) hzb 8 rfl;have hf8:=frozen_of hzb 8;have hz9:=cell_of (v:=.int .i64 0) hzb 9 rfl;have hf9:=frozen_of hzb 9;have hz10:=cell_of (v:=.int .i64 0) hzb 10 rfl;have hf10:=frozen_of hzb 10;have hz11:=cell_of (v:=.int .i64 0) hzb 11 rfl;have hf11:=frozen_of hzb 11;have hlz:=(Array.getElem?_eq_some_iff.1 hzb).1);have hsC:Still w1 wp:=Still.trans (by (repeat first | exact hsC | exact Only.refl _ _ _ | apply Only.drew | apply Only.drewN | apply Only.alloc)) hcall;have hszC:=hsC.size;obtain ⟨k0,k1,k2⟩:=HC.out _ hsC)
     | (go_at_call 31;refine (HBLK.out _ (H1.out.still (by (repeat first | exact hsC | exact Only.refl _ _ _ | apply Only.drew | apply Only.drewN | apply Only.alloc)))).mono ?_;rintro e wq ⟨⟨v3,rfl,hr3⟩,hcall⟩;obtain ⟨a3,n3,p3,rfl⟩:=own_slice hr3;have hr3:=ownsRow_le hr3 (Only.size (lo:=w1.heap.size) (hi:=w1.heap.size) (w:=w1) (by (repeat first | exact hsC | exact Only.refl _ _ _ | apply Only.drew | apply Only.drewN | apply Only.alloc)));(try have hr1:=ownsRow_still hr1 (Still.trans (by (repeat first | exact hsC | exact Only.refl _ _ _ | apply Only.drew | apply Only.drewN | apply Only.alloc)) hcall));(try have hr2:=ownsRow_still hr2 (Still.trans (by (repeat first | exact hsC | exact Only.refl _ _ _ | apply Only.drew | apply Only.drewN | apply Only.alloc)) hcall));(try (first | (have hzb:=at_only hcall hzb (.inl (Array.getElem?_eq_some_iff.1 hzb).1)) | (have hzb:=fresh_still hcall rfl));have hz0:=cell_of (v:=.slice none 0 0) hzb 0 rfl;have hf0:=frozen_of hzb 0;have hz1:=cell_of (v:=.slice none 0 0) hzb 1 rfl;have hf1:=frozen_of hzb 1;have hz2:=cell_of (v:=.slice none 0 0) hzb 2 rfl;have hf2:=frozen_of hzb 2;have hz3:=cell_of (v:=.int .i64 0) hzb 3 rfl;have hf3:=frozen_of hzb 3;have hz4:=cell_of (v:=.int .i64 0) hzb 4 rfl;have hf4:=frozen_of hzb 4;have hz5:=cell_of (v:=.int .i64 0) hzb 5 rfl;have hf5:=frozen_of hzb 5;have hz6:=cell_of (v:=.int .i64 0) hzb 6 rfl;have hf6:=frozen_of hzb 6;have hz7:=cell_of (v:=.int .i64 0) hzb 7 rfl;have hf7:=frozen_of hzb 7;have hz8:=cell_of (v:=.int .i64 0) hzb 8 rfl;have hf8:=frozen_of hzb 8;have hz9:=cell_of (v:=.int .i64 0) hzb 9 rfl;have hf9:=frozen_of hzb 9;have hz10:=cell_of (v:=.int .i64 0) hzb 10 rfl;have hf10:=frozen_of hzb 10;have hz11:=cell_of (v:=.int .i64 0) hzb 11 rfl;have hf11:=frozen_of hzb 11;have hlz:=(Array.getElem?_eq_some_iff.1 hzb).1);have hsC:Still w1 wq:=Still.trans (by (repeat first | exact hsC | exact Only.refl _ _ _ | apply Only.drew | apply Only.drewN | apply Only.alloc)) hcall;have hszC:=hsC.size;obtain ⟨k0,k1,k2⟩:=HC.out _ hsC))
  all_goals
   rename_i hHeld
   clear hHeld
   first
   | (have hfin:DmpAt w1 w1.heap.size s wq.heap.size (.slice a1 n1 p1) (.slice a2 n2 p2) (.slice a3 n3 p3) (fun _ => 0) (wq.alloc (.cells #[.slice a1 n1 p1,.slice a2 n2 p2,.slice a3 n3 p3,.int .i64 0,.int .i64 0,.int .i64 0,.int .i64 0,.int .i64 0,.int .i64 0,.int .i64 0,.int .i64 0,.int .i64 ser] 73)):=by
       refine ⟨hsC.alloc _,?_,hszC,⟨?_,ownsRow_still hr2 ((Only.refl _ _ wq).alloc _),ownsRow_still hr3 ((Only.refl _ _ wq).alloc _)⟩⟩
       ·rw [HSE.out];exact heap_alloc_new wq _
       ·rw [HN.out];exact ownsRow_still hr1 ((Only.refl _ _ wq).alloc _)
      go_wp2_with fail
      go_meet
      exact ⟨_,_,_,_,rfl,hfin⟩)
   | (go_wp2_with fail
      go_meet
      refine ⟨_,.slice a1 n1 p1,.slice a2 n2 p2,.slice a3 n3 p3,rfl,?_⟩
      refine ⟨only_dump hsC (.inr (by omega)) _ _ _ _ _ _ _ _ _ _ _ _,?_,(by omega),⟨?_,?_,?_⟩⟩
      ·rw [HSE.out];exact dump_box hzb _ _ _ _ _ _ _ _ _ _ _ _
      ·rw [HN.out];exact ownsRow_of_block hr1 (fun g hg => dump_box_ne (own_ne hr1 hzb (by decide) g hg) _ _ _ _ _ _ _ _ _ _ _ _)
      ·exact ownsRow_of_block hr2 (fun g hg => dump_box_ne (own_ne hr2 hzb (by decide) g hg) _ _ _ _ _ _ _ _ _ _ _ _)
      ·exact ownsRow_of_block hr3 (fun g hg => dump_box_ne (own_ne hr3 hzb (by decide) g hg) _ _ _ _ _ _ _ _ _ _ _ _))
 case rest =>
  obtain ⟨db,v1,v2,v3,rfl,hd⟩:=hcut
  have HD:=Lib.hid hd
  have HM:=Lib.hid (fun w' (h:SpaceAt w' L s) (j:Nat) (hj:j < 9) => h.next j hj 0 (by omega))
  have c3:=fun c hc => (H1.out.still hd.st).c3 c hc
  have q0:=c3 0 (by omega)
  have q1:=c3 1 (by omega)
  have q2:=c3 2 (by omega)
  have q3:=c3 3 (by omega)
  have q4:=c3 4 (by omega)
  have q5:=c3 5 (by omega)
  have q6:=c3 6 (by omega)
  have q7:=c3 7 (by omega)
  clear hd c3 hs1 c0 c1 c13
  go_wp2_with fail
  clear q0 q1 q2 q3 q4 q5 q6 q7 hlt
  go_loopw [27] (fun x wr => ∃ c:Nat,x=.int .i64 (c:Int) ∧ c ≤ 8 ∧ DmpAt w1 w1.heap.size s db v1 v2 v3 (fun j => if j < c then s.hd0 j else 0) wr) (fun x _ => 8 - (intOf x).toNat)
  case atStart => exact ⟨0,rfl,by omega,HD.out⟩
  case round =>
   obtain ⟨c,rfl,hc,hdm⟩:=hrel
   have hc0:(0:Int) ≤ (c:Int):=by omega
   by_cases hlt:c < 8
   ·have hc8:(c:Int) < 8:=by omega
    have hix:=fun w => index_maps L.m c hlt w
    have HDM:=Lib.hid hdm
    have hnx:=HM.out wr (H1.out.still hdm.st) (c + 1) (by omega)
    have HNX:=Lib.hid hnx
    obtain ⟨z0,zf⟩:=dump_cell hdm.box c hlt
    have zl:=(Array.getElem?_eq_some_iff.1 hdm.box).1
    clear hdm hnx
    go_wp2_with fail
    refine HNX.out.mono ?_
    rintro e w4 ⟨rfl,m,rfl⟩
    go_wp2_with fail
    go_roundw
    case rel =>
     refine ⟨c + 1,by go_num,hlt,?_⟩
     have:=(HDM.out.drewN m).turn (Nat.le_refl _) c hlt (Bm.next (s.B (c + 1)) (64 * s.n) 0)
     have e:updH (fun j => if j < c then s.hd0 j else 0) c (Bm.next (s.B (c + 1)) (64 * s.n) 0)=fun j => if j < c + 1 then s.hd0 j else 0:=by
      funext j
      unfold updH
      by_cases ej:j=c
      ·subst ej;rw [if_pos rfl,if_pos (by omega)];rfl
      ·rw [if_neg ej]
       dsimp only
       by_cases hj:j < c
       ·rw [if_pos hj,if_pos (by omega)]
       ·rw [if_neg hj,if_neg (by omega)]
     rw [e] at this
     exact this
    case measure => simp [intOf];omega
   ·have:c=8:=by omega
    subst this
    obtain ⟨⟨a1,n1,p1,rfl⟩,⟨a2,n2,p2,rfl⟩,⟨a3,n3,p3,rfl⟩⟩:=And.intro (own_slice hdm.li.r1) (And.intro (own_slice hdm.li.r2) (own_slice hdm.li.r3))
    have hb:wr.heap[db]?=some (dumpObj (.slice a1 n1 p1) (.slice a2 n2 p2) (.slice a3 n3 p3) s.hd0 s.ser):=hdm.box
    have hb2:wr.heap[w.heap.size]?=some zero12:=at_only hdm.st HB0.out (.inl HW1.out)
    have HDM:=Lib.hid hdm
    have HB2:=Lib.hid hb2
    clear hdm
    have z0:=cell_of (v:=.slice a1 n1 p1) hb 0 rfl
    have z1:=cell_of (v:=.slice a2 n2 p2) hb 1 rfl
    have z2:=cell_of (v:=.slice a3 n3 p3) hb 2 rfl
    have z3:=cell_of (v:=.int .i64 (s.hd0 0)) hb 3 rfl
    have z4:=cell_of (v:=.int .i64 (s.hd0 1)) hb 4 rfl
    have z5:=cell_of (v:=.int .i64 (s.hd0 2)) hb 5 rfl
    have z6:=cell_of (v:=.int .i64 (s.hd0 3)) hb 6 rfl
    have z7:=cell_of (v:=.int .i64 (s.hd0 4)) hb 7 rfl
    have z8:=cell_of (v:=.int .i64 (s.hd0 5)) hb 8 rfl
    have z9:=cell_of (v:=.int .i64 (s.hd0 6)) hb 9 rfl
    have z10:=cell_of (v:=.int .i64 (s.hd0 7)) hb 10 rfl
    have z11:=cell_of (v:=.int .i64 s.ser) hb 11 rfl
    have y0:=cell_of (v:=.slice none 0 0) hb2 0 rfl
    have f0:=frozen_of hb2 0
    have y1:=cell_of (v:=.slice none 0 0) hb2 1 rfl
    have f1:=frozen_of hb2 1
    have y2:=cell_of (v:=.slice none 0 0) hb2 2 rfl
    have f2:=frozen_of hb2 2
    have y3:=cell_of (v:=.int .i64 0) hb2 3 rfl
    have f3:=frozen_of hb2 3
    have y4:=cell_of (v:=.int .i64 0) hb2 4 rfl
    have f4:=frozen_of hb2 4
    have y5:=cell_of (v:=.int .i64 0) hb2 5 rfl
    have f5:=frozen_of hb2 5
    have y6:=cell_of (v:=.int .i64 0) hb2 6 rfl
    have f6:=frozen_of hb2 6
    have y7:=cell_of (v:=.int .i64 0) hb2 7 rfl
    have f7:=frozen_of hb2 7
    have y8:=cell_of (v:=.int .i64 0) hb2 8 rfl
    have f8:=frozen_of hb2 8
    have y9:=cell_of (v:=.int .i64 0) hb2 9 rfl
    have f9:=frozen_of hb2 9
    have y10:=cell_of (v:=.int .i64 0) hb2 10 rfl
    have f10:=frozen_of hb2 10
    have y11:=cell_of (v:=.int .i64 0) hb2 11 rfl
    have f11:=frozen_of hb2 11
    have zl:=(Array.getElem?_eq_some_iff.1 hb).1
    have yl:=(Array.getElem?_eq_some_iff.1 hb2).1
    clear hb hb2 HD HM
    go_wp2_with fail
    obtain ⟨st,_,lo,li⟩:=HDM.out
    refine bodyPost_ret (v:=.agg #[.slice a1 n1 p1,.slice a2 n2 p2,.slice a3 n3 p3,.int .i64 (s.hd0 0),.int .i64 (s.hd0 1),.int .i64 (s.hd0 2),.int .i64 (s.hd0 3),.int .i64 (s.hd0 4),.int .i64 (s.hd0 5),.int .i64 (s.hd0 6),.int .i64 (s.hd0 7),.int .i64 s.ser]) (by simp [results,Tryz.results39,go_sem, *]) rfl ?_
    refine HQ.out _ _ _ _ ((li.kept HB2.out fun k hk => dump_box_ne hk _ _ _ _ _ _ _ _ _ _ _ _).le (Nat.le_of_lt HW1.out)) ?_
    exact only_dump (Still.trans HST.out st) (.inr (Nat.le_refl _)) _ _ _ _ _ _ _ _ _ _ _ _
end Go.Proofs.YtfbcdmhmpfijjaaGreatDoor
