/-
  The walk of keep.dump.
-/
import Derived.Laws.Rows
import Derived.Test.YtfbcdmhmpfijjaaGreatDoorQ28
import Derived.Deep.RegionLaw
import Derived.ChangeKeysEq
set_option linter.unusedVariables false
set_option linter.unusedSimpArgs false
set_option linter.unusedSectionVars false
namespace Go.Proofs.YtfbcdmhmpfijjaaGreatDoor
open Go Go.RowKit
abbrev hds (h:Nat → Int):Array Value:=#[.int .i64 (h 0),.int .i64 (h 1),.int .i64 (h 2),.int .i64 (h 3),.int .i64 (h 4),.int .i64 (h 5),.int .i64 (h 6),.int .i64 (h 7)]
theorem int_eq (d:Nat) (x:Int) (w:World):(Op.equalIn (d + 1) 3 (.int .i64 x) (.int .i64 x)).run Tryz.prog w=.ok true w:=by
 simp [Op.equalIn,run_underlying Tryz.underlying3,go_sem]
theorem heads_eq (d:Nat) (h:Nat → Int) (w:World):(Op.equalIn (d + 2) 71 (.agg (hds h)) (.agg (hds h))).run Tryz.prog w=.ok true w:=by
 obtain ⟨i0,hi,hz0,hz1,hz2⟩:=info_parts Tryz.infoI5'
 have hc:Tryz.prog.cellsOf 3 = 1:=by kernel_rfl
 have hq:=fun x w => int_eq d x w
 refine (run_equalIn_array (n:=8) (e:=3) (w:=w) (P:=Tryz.prog) (d + 1) _ _ Tryz.underlying71 hi).trans ?_
 simp [Op.eqItems,List.range,List.range.loop,go_sem,hc,hq]
abbrev dumpVal (v1 v2 v3:Value) (h:Nat → Int) (ser:Int):Value:=.agg #[v1,v2,v3,.int .i64 (h 0),.int .i64 (h 1),.int .i64 (h 2),.int .i64 (h 3),.int .i64 (h 4),.int .i64 (h 5),.int .i64 (h 6),.int .i64 (h 7),.int .i64 ser]
structure Bx2 (W:World) (b1 b2:Nat) (d1 d2 d3 e1 e2 e3:Value) (h:Nat → Int) (ser:Int):Prop where
 x1:W.heap[b1]?=some (dumpObj d1 d2 d3 h ser)
 x2:W.heap[b2]?=some (dumpObj e1 e2 e3 h ser)
theorem Bx2.lt {W:World} {b1 b2:Nat} {d1 d2 d3 e1 e2 e3:Value} {h:Nat → Int} {ser:Int} (x:Bx2 W b1 b2 d1 d2 d3 e1 e2 e3 h ser):b1 < W.heap.size ∧ b2 < W.heap.size :=
 ⟨(Array.getElem?_eq_some_iff.1 x.x1).1,(Array.getElem?_eq_some_iff.1 x.x2).1⟩
theorem Bx2.block {W W':World} {b1 b2:Nat} {d1 d2 d3 e1 e2 e3:Value} {h:Nat → Int} {ser:Int} (x:Bx2 W b1 b2 d1 d2 d3 e1 e2 e3 h ser) (h1:W'.heap[b1]?=W.heap[b1]?) (h2:W'.heap[b2]?=W.heap[b2]?):Bx2 W' b1 b2 d1 d2 d3 e1 e2 e3 h ser :=
 ⟨h1.trans x.x1,h2.trans x.x2⟩
theorem Bx2.still {W W':World} {b1 b2:Nat} {d1 d2 d3 e1 e2 e3:Value} {h:Nat → Int} {ser:Int} (x:Bx2 W b1 b2 d1 d2 d3 e1 e2 e3 h ser) (hs:Still W W'):Bx2 W' b1 b2 d1 d2 d3 e1 e2 e3 h ser :=
 x.block (hs.block _ x.lt.1 (.inl x.lt.1)) (hs.block _ x.lt.2 (.inl x.lt.2))
theorem Bx2.cells {W:World} {b1 b2:Nat} {d1 d2 d3 e1 e2 e3:Value} {h:Nat → Int} {ser:Int} (x:Bx2 W b1 b2 d1 d2 d3 e1 e2 e3 h ser) :
 (W.cell? ⟨b1,0,none⟩=some d1 ∧ W.cell? ⟨b1,1,none⟩=some d2 ∧ W.cell? ⟨b1,2,none⟩=some d3) ∧ (W.cell? ⟨b2,0,none⟩=some e1 ∧ W.cell? ⟨b2,1,none⟩=some e2 ∧ W.cell? ⟨b2,2,none⟩=some e3) :=
 ⟨⟨cell_of x.x1 0 rfl,cell_of x.x1 1 rfl,cell_of x.x1 2 rfl⟩,cell_of x.x2 0 rfl,cell_of x.x2 1 rfl,cell_of x.x2 2 rfl⟩
theorem Bx2.heads {W:World} {b1 b2:Nat} {d1 d2 d3 e1 e2 e3:Value} {h:Nat → Int} {ser:Int} (x:Bx2 W b1 b2 d1 d2 d3 e1 e2 e3 h ser) :
 (W.cell? ⟨b1,3,none⟩=some (.int .i64 (h 0)) ∧ W.cell? ⟨b1,4,none⟩=some (.int .i64 (h 1)) ∧ W.cell? ⟨b1,5,none⟩=some (.int .i64 (h 2)) ∧ W.cell? ⟨b1,6,none⟩=some (.int .i64 (h 3)) ∧ W.cell? ⟨b1,7,none⟩=some (.int .i64 (h 4)) ∧ W.cell? ⟨b1,8,none⟩=some (.int .i64 (h 5)) ∧ W.cell? ⟨b1,9,none⟩=some (.int .i64 (h 6)) ∧ W.cell? ⟨b1,10,none⟩=some (.int .i64 (h 7)) ∧ W.cell? ⟨b1,11,none⟩=some (.int .i64 ser)) ∧
 (W.cell? ⟨b2,3,none⟩=some (.int .i64 (h 0)) ∧ W.cell? ⟨b2,4,none⟩=some (.int .i64 (h 1)) ∧ W.cell? ⟨b2,5,none⟩=some (.int .i64 (h 2)) ∧ W.cell? ⟨b2,6,none⟩=some (.int .i64 (h 3)) ∧ W.cell? ⟨b2,7,none⟩=some (.int .i64 (h 4)) ∧ W.cell? ⟨b2,8,none⟩=some (.int .i64 (h 5)) ∧ W.cell? ⟨b2,9,none⟩=some (.int .i64 (h 6)) ∧ W.cell? ⟨b2,10,none⟩=some (.int .i64 (h 7)) ∧ W.cell? ⟨b2,11,none⟩=some (.int .i64 ser)) :=
 ⟨⟨cell_of x.x1 3 rfl,cell_of x.x1 4 rfl,cell_of x.x1 5 rfl,cell_of x.x1 6 rfl,cell_of x.x1 7 rfl,cell_of x.x1 8 rfl,cell_of x.x1 9 rfl,cell_of x.x1 10 rfl,cell_of x.x1 11 rfl⟩,
  cell_of x.x2 3 rfl,cell_of x.x2 4 rfl,cell_of x.x2 5 rfl,cell_of x.x2 6 rfl,cell_of x.x2 7 rfl,cell_of x.x2 8 rfl,cell_of x.x2 9 rfl,cell_of x.x2 10 rfl,cell_of x.x2 11 rfl⟩
set_option maxRecDepth 100000 in
set_option maxHeartbeats 6400000 in
theorem kdump_many (W:World) (pb:Nat) (h0 h1:Value) (own:Nat → Lb) (qf:Nat → Nat) (C B n1 n2 n3:Nat) (d1 d2 d3 e1 e2 e3:Value) (f1 f2 f3:Nat → Nat → Int) (hh:Nat → Int) (ser:Int) (v:Nat → Value) (ls:Nat → List Value) (hk:KeepV W pb h0 h1 own qf C v ls)
 (q1:QIn W own B 0 d1 e1 n1 f1) (q2:QIn W own B 1 d2 e2 n2 f2) (q3:QIn W own B 2 d3 e3 n3 f3) (hB:B ≤ W.heap.size) (hC:C + 24 ≤ 900000) (hm:30 < (ls 0).length + (ls 4).length) (q:Bool) (Q:Ending → World → Prop)
 (hQ:∀ W' own',KeepAt W' pb h0 h1 own' qf (C + 24) → KFB B W own W' own' → Q (.returned (.bool true)) W') :
 Calls Tryz.prog 38 #[.pointer (some ⟨pb,2,none⟩),dumpVal d1 d2 d3 hh ser,dumpVal e1 e2 e3 hh ser,.bool q] W Q:=by
 have HQ:=Lib.hid hQ
 have HK:=Lib.hid hk
 have H1:=Lib.hid q1
 have H2:=Lib.hid q2
 have H3:=Lib.hid q3
 have HC1:=Lib.hid (fun W' (hs:Still W W') => sameInts_eq W' d1 e1 n1 f1 (q1.rows.1.still hs) (q1.rows.2.still hs) (by have:=q1.le;omega))
 have HC2:=Lib.hid (fun W' (hs:Still W W') => samePages_eq W' d2 e2 n2 f2 (q2.rows.1.still hs) (q2.rows.2.still hs) (by have:=q2.le;omega))
 have HC3:=Lib.hid (fun W' (hs:Still W W') => sameBlocks_eq W' d3 e3 n3 f3 (q3.rows.1.still hs) (q3.rows.2.still hs) (by have:=q3.le;omega))
 have HM:=Lib.hid (fun W' (hs:Still W W') => many_any W' v ls ⟨hk.hd.still hs,hk.fc.still hs,hk.mny,hk.pgs⟩)
 obtain ⟨a1,m1,c1,r1⟩:∃ a n c,d1=.slice a n c:=by obtain ⟨xs,x1,_⟩:=q1.ex;exact own_slice x1
 obtain ⟨a2,m2,c2,r2⟩:∃ a n c,d2=.slice a n c:=by obtain ⟨xs,x1,_⟩:=q2.ex;exact own_slice x1
 obtain ⟨a3,m3,c3,r3⟩:∃ a n c,d3=.slice a n c:=by obtain ⟨xs,x1,_⟩:=q3.ex;exact own_slice x1
 obtain ⟨a4,m4,c4,r4⟩:∃ a n c,e1=.slice a n c:=by obtain ⟨xs,_,x1,_⟩:=q1.ex;exact own_slice x1
 obtain ⟨a5,m5,c5,r5⟩:∃ a n c,e2=.slice a n c:=by obtain ⟨xs,_,x1,_⟩:=q2.ex;exact own_slice x1
 obtain ⟨a6,m6,c6,r6⟩:∃ a n c,e3=.slice a n c:=by obtain ⟨xs,_,x1,_⟩:=q3.ex;exact own_slice x1
 subst r1 r2 r3 r4 r5 r6
 have hM:decide (30 < (ls 0).length + (ls 4).length)=true:=decide_eq_true hm
 rw [hM] at HM
 have hbx:Bx2 ((W.alloc (dumpObj (.slice a1 m1 c1) (.slice a2 m2 c2) (.slice a3 m3 c3) hh ser)).alloc (dumpObj (.slice a4 m4 c4) (.slice a5 m5 c5) (.slice a6 m6 c6) hh ser)) W.heap.size (W.heap.size + 1) (.slice a1 m1 c1) (.slice a2 m2 c2) (.slice a3 m3 c3) (.slice a4 m4 c4) (.slice a5 m5 c5) (.slice a6 m6 c6) hh ser:=by
  refine ⟨(Below.heap_alloc _ _ _ (by simp)).trans (heap_alloc_new W _),?_⟩
  have:=heap_alloc_new (W.alloc (dumpObj (.slice a1 m1 c1) (.slice a2 m2 c2) (.slice a3 m3 c3) hh ser)) (dumpObj (.slice a4 m4 c4) (.slice a5 m5 c5) (.slice a6 m6 c6) hh ser)
  rwa [World.size_alloc] at this
 have hsb:Still W ((W.alloc (dumpObj (.slice a1 m1 c1) (.slice a2 m2 c2) (.slice a3 m3 c3) hh ser)).alloc (dumpObj (.slice a4 m4 c4) (.slice a5 m5 c5) (.slice a6 m6 c6) hh ser)):=((Only.refl _ _ W).alloc _).alloc _
 have heq:∀ w:World,(Op.equalIn 10000 71 (.agg (hds hh)) (.agg (hds hh))).run Tryz.prog w=.ok true w:=fun w => heads_eq 9998 hh w
 obtain ⟨b1,hb1⟩:∃ b,W.heap.size=b:=⟨_,rfl⟩
 have HB1:=Lib.hid hb1
 clear hk q1 q2 q3 hQ hM hm
 go_enter Tryz.func38,Tryz.ntmps38
 go_wp2_with fail
 generalize ((W.alloc (dumpObj (.slice a1 m1 c1) (.slice a2 m2 c2) (.slice a3 m3 c3) hh ser)).alloc (dumpObj (.slice a4 m4 c4) (.slice a5 m5 c5) (.slice a6 m6 c6) hh ser))=w0 at *
 rw [hb1] at hbx
 have HX:=Lib.hid hbx
 have HS:=Lib.hid hsb
 clear hbx hsb hb1
 refine (HC1.out _ HS.out).mono ?_
 rintro e w1 ⟨rfl,hs1⟩
 have HX1:=Lib.hid (HX.out.still hs1)
 have HS1:=Lib.hid (Still.trans HS.out hs1)
 obtain ⟨⟨z1,z2,z3⟩,y1,y2,y3⟩:=HX1.out.cells
 obtain ⟨g1,g2⟩:=HX1.out.lt
 clear hs1
 go_wp2_with fail
 refine (HC2.out _ HS1.out).mono ?_
 rintro e w2 ⟨rfl,hs2⟩
 have HX2:=Lib.hid (HX1.out.still hs2)
 have HS2:=Lib.hid (Still.trans HS1.out hs2)
 clear z1 z2 z3 y1 y2 y3 g1 g2
 obtain ⟨⟨z1,z2,z3⟩,y1,y2,y3⟩:=HX2.out.cells
 obtain ⟨g1,g2⟩:=HX2.out.lt
 clear hs2
 go_wp2_with fail
 refine (HC3.out _ HS2.out).mono ?_
 rintro e w3 ⟨rfl,hs3⟩
 have HX3:=Lib.hid (HX2.out.still hs3)
 have HS3:=Lib.hid (Still.trans HS2.out hs3)
 clear z1 z2 z3 y1 y2 y3 g1 g2
 obtain ⟨⟨z1,z2,z3,z4,z5,z6,z7,z8,z9⟩,y1,y2,y3,y4,y5,y6,y7,y8,y9⟩:=HX3.out.heads
 obtain ⟨g1,g2⟩:=HX3.out.lt
 clear hs3
 go_wp2_with fail
 refine (HM.out _ HS3.out).mono ?_
 rintro e w4 ⟨rfl,hs4⟩
 have HX4:=Lib.hid (HX3.out.still hs4)
 have HS4:=Lib.hid (Still.trans HS3.out hs4)
 clear z1 z2 z3 y1 y2 y3 z4 z5 z6 z7 z8 z9 y4 y5 y6 y7 y8 y9 g1 g2 hs4 heq HC1 HC2 HC3 HM HX HX1 HX2 HX3
 go_wp2_with fail
 have h:=HK.out
 exact HQ.out _ own ⟨v,ls,h.hd.still HS4.out,(h.fc.still HS4.out).mono (by omega),h.mny,h.pgs⟩ ((KFB.refl B W own).still HS4.out)
set_option maxRecDepth 100000 in
set_option maxHeartbeats 6400000 in
theorem kdump_mark (W:World) (pb:Nat) (h0 h1:Value) (own:Nat → Lb) (qf:Nat → Nat) (C B n1 n2 n3:Nat) (d1 d2 d3 e1 e2 e3:Value) (f1 f2 f3:Nat → Nat → Int) (hh:Nat → Int) (ser:Int) (v:Nat → Value) (ls:Nat → List Value) (hk:KeepV W pb h0 h1 own qf C v ls)
 (q1:QIn W own B 0 d1 e1 n1 f1) (q2:QIn W own B 1 d2 e2 n2 f2) (q3:QIn W own B 2 d3 e3 n3 f3) (hB:B ≤ W.heap.size) (hC:C + 24 ≤ 900000) (hm:¬30 < (ls 0).length + (ls 4).length) (Q:Ending → World → Prop)
 (hQ:∀ W' own',KeepAt W' pb h0 h1 own' qf (C + 24) → KFB B W own W' own' → Q (.returned (.bool true)) W') :
 Calls Tryz.prog 38 #[.pointer (some ⟨pb,2,none⟩),dumpVal d1 d2 d3 hh ser,dumpVal e1 e2 e3 hh ser,.bool false] W Q:=by
 have HQ:=Lib.hid hQ
 have HK:=Lib.hid hk
 have H1:=Lib.hid q1
 have H2:=Lib.hid q2
 have H3:=Lib.hid q3
 have HC1:=Lib.hid (fun W' (hs:Still W W') => sameInts_eq W' d1 e1 n1 f1 (q1.rows.1.still hs) (q1.rows.2.still hs) (by have:=q1.le;omega))
 have HC2:=Lib.hid (fun W' (hs:Still W W') => samePages_eq W' d2 e2 n2 f2 (q2.rows.1.still hs) (q2.rows.2.still hs) (by have:=q2.le;omega))
 have HC3:=Lib.hid (fun W' (hs:Still W W') => sameBlocks_eq W' d3 e3 n3 f3 (q3.rows.1.still hs) (q3.rows.2.still hs) (by have:=q3.le;omega))
 have HM:=Lib.hid (fun W' (hs:Still W W') => many_any W' v ls ⟨hk.hd.still hs,hk.fc.still hs,hk.mny,hk.pgs⟩)
 obtain ⟨a1,m1,c1,r1⟩:∃ a n c,d1=.slice a n c:=by obtain ⟨xs,x1,_⟩:=q1.ex;exact own_slice x1
 obtain ⟨a2,m2,c2,r2⟩:∃ a n c,d2=.slice a n c:=by obtain ⟨xs,x1,_⟩:=q2.ex;exact own_slice x1
 obtain ⟨a3,m3,c3,r3⟩:∃ a n c,d3=.slice a n c:=by obtain ⟨xs,x1,_⟩:=q3.ex;exact own_slice x1
 obtain ⟨a4,m4,c4,r4⟩:∃ a n c,e1=.slice a n c:=by obtain ⟨xs,_,x1,_⟩:=q1.ex;exact own_slice x1
 obtain ⟨a5,m5,c5,r5⟩:∃ a n c,e2=.slice a n c:=by obtain ⟨xs,_,x1,_⟩:=q2.ex;exact own_slice x1
 obtain ⟨a6,m6,c6,r6⟩:∃ a n c,e3=.slice a n c:=by obtain ⟨xs,_,x1,_⟩:=q3.ex;exact own_slice x1
 subst r1 r2 r3 r4 r5 r6
 have hM:decide (30 < (ls 0).length + (ls 4).length)=false:=decide_eq_false hm
 rw [hM] at HM
 have hbx:Bx2 ((W.alloc (dumpObj (.slice a1 m1 c1) (.slice a2 m2 c2) (.slice a3 m3 c3) hh ser)).alloc (dumpObj (.slice a4 m4 c4) (.slice a5 m5 c5) (.slice a6 m6 c6) hh ser)) W.heap.size (W.heap.size + 1) (.slice a1 m1 c1) (.slice a2 m2 c2) (.slice a3 m3 c3) (.slice a4 m4 c4) (.slice a5 m5 c5) (.slice a6 m6 c6) hh ser:=by
  refine ⟨(Below.heap_alloc _ _ _ (by simp)).trans (heap_alloc_new W _),?_⟩
  have:=heap_alloc_new (W.alloc (dumpObj (.slice a1 m1 c1) (.slice a2 m2 c2) (.slice a3 m3 c3) hh ser)) (dumpObj (.slice a4 m4 c4) (.slice a5 m5 c5) (.slice a6 m6 c6) hh ser)
  rwa [World.size_alloc] at this
 have hsb:Still W ((W.alloc (dumpObj (.slice a1 m1 c1) (.slice a2 m2 c2) (.slice a3 m3 c3) hh ser)).alloc (dumpObj (.slice a4 m4 c4) (.slice a5 m5 c5) (.slice a6 m6 c6) hh ser)):=((Only.refl _ _ W).alloc _).alloc _
 have heq:∀ w:World,(Op.equalIn 10000 71 (.agg (hds hh)) (.agg (hds hh))).run Tryz.prog w=.ok true w:=fun w => heads_eq 9998 hh w
 obtain ⟨b1,hb1⟩:∃ b,W.heap.size=b:=⟨_,rfl⟩
 have HB1:=Lib.hid hb1
 clear hk q1 q2 q3 hQ hM hm
 go_enter Tryz.func38,Tryz.ntmps38
 go_wp2_with fail
 generalize ((W.alloc (dumpObj (.slice a1 m1 c1) (.slice a2 m2 c2) (.slice a3 m3 c3) hh ser)).alloc (dumpObj (.slice a4 m4 c4) (.slice a5 m5 c5) (.slice a6 m6 c6) hh ser))=w0 at *
 rw [hb1] at hbx
 have HX:=Lib.hid hbx
 have HS:=Lib.hid hsb
 clear hbx hsb hb1
 refine (HC1.out _ HS.out).mono ?_
 rintro e w1 ⟨rfl,hs1⟩
 have HX1:=Lib.hid (HX.out.still hs1)
 have HS1:=Lib.hid (Still.trans HS.out hs1)
 obtain ⟨⟨z1,z2,z3⟩,y1,y2,y3⟩:=HX1.out.cells
 obtain ⟨g1,g2⟩:=HX1.out.lt
 clear hs1
 go_wp2_with fail
 refine (HC2.out _ HS1.out).mono ?_
 rintro e w2 ⟨rfl,hs2⟩
 have HX2:=Lib.hid (HX1.out.still hs2)
 have HS2:=Lib.hid (Still.trans HS1.out hs2)
 clear z1 z2 z3 y1 y2 y3 g1 g2
 obtain ⟨⟨z1,z2,z3⟩,y1,y2,y3⟩:=HX2.out.cells
 obtain ⟨g1,g2⟩:=HX2.out.lt
 clear hs2
 go_wp2_with fail
 refine (HC3.out _ HS2.out).mono ?_
 rintro e w3 ⟨rfl,hs3⟩
 have HX3:=Lib.hid (HX2.out.still hs3)
 have HS3:=Lib.hid (Still.trans HS2.out hs3)
 clear z1 z2 z3 y1 y2 y3 g1 g2
 obtain ⟨⟨z1,z2,z3,z4,z5,z6,z7,z8,z9⟩,y1,y2,y3,y4,y5,y6,y7,y8,y9⟩:=HX3.out.heads
 obtain ⟨g1,g2⟩:=HX3.out.lt
 clear hs3
 go_wp2_with fail
 refine (HM.out _ HS3.out).mono ?_
 rintro e w4 ⟨rfl,hs4⟩
 have HX4:=Lib.hid (HX3.out.still hs4)
 have HS4:=Lib.hid (Still.trans HS3.out hs4)
 clear z1 z2 z3 y1 y2 y3 z4 z5 z6 z7 z8 z9 y4 y5 y6 y7 y8 y9 g1 g2 hs4 heq HC1 HC2 HC3 HM HX HX1 HX2 HX3
 obtain ⟨⟨z1,z2,z3⟩,y1,y2,y3⟩:=HX4.out.cells
 obtain ⟨g1,g2⟩:=HX4.out.lt
 have hi1:=H1.out.still HS4.out
 have hi2:=H2.out.still HS4.out
 have hi3:=H3.out.still HS4.out
 obtain ⟨xs,x1,_,_⟩:=hi1.ex
 have HMB:=Lib.hid (fun Q hQ => markWords_any w4 pb h0 h1 own v ls qf C (HK.out.hd.still HS4.out) (HK.out.fc.still HS4.out) _ _ xs x1 hi1.le (hi1.spare _) (by omega) Q hQ)
 have HN:=Lib.hid (And.intro hi1 (And.intro hi2 hi3))
 clear hi1 hi2 hi3 x1
 go_wp2_with fail
 refine HMB.out _ (fun W5 own5 v5 ls5 q1 q2 q3 q4 => ?_)
 obtain ⟨k1,k2,k3⟩:=HN.out
 have hbn:∀ g,W.heap.size ≤ g → own g=Lno:=fun g hg => by
  by_cases e:own g=Lno
  ·exact e
  ·have:=HK.out.hd.olt g e;omega
 have n1:∀ g,own5 g ≠ Lno → g < w4.heap.size → W.heap.size ≤ g → False:=fun g ha hb hc => by
  rcases q3.lb g ha with e | e | e
  ·exact e (hbn g hc)
  ·have:=H1.out.lts.1 g e;omega
  ·omega
 have hX5:Bx2 W5 b1 (b1 + 1) (.slice a1 m1 c1) (.slice a2 m2 c2) (.slice a3 m3 c3) (.slice a4 m4 c4) (.slice a5 m5 c5) (.slice a6 m6 c6) hh ser:=by
  refine HX4.out.block (q3.kf.block _ HX4.out.lt.1 fun e => ?_) (q3.kf.block _ HX4.out.lt.2 fun e => ?_)
  ·rcases e with e | e
   ·exact e (hbn _ (Nat.le_of_eq HB1.out))
   ·have:=H1.out.lts.1 _ e;have:=HB1.out;omega
  ·rcases e with e | e
   ·exact e (hbn _ (by have:=HB1.out;omega))
   ·have:=H1.out.lts.1 _ e;have:=HB1.out;omega
 have k2':=k2.frm q3 (fun g hg => k1.ne k2 (by decide) (.inl hg))
 have k3':=k3.frm q3 (fun g hg => k1.ne k3 (by decide) (.inl hg))
 have hsz5:=q3.kf.size
 have HF5:Hid (KFB B W own W5 own5):=Lib.hid (((KFB.refl B W own).still HS4.out).trans (q3.kfb (fun g hg => .inr (H1.out.ll g hg).2) (Nat.le_trans hB HS4.out.size)))
 have HL5:Hid (∀ j,j < 6 → ls5 j=ls j):=Lib.hid q4
 have HX5:=Lib.hid hX5
 have HN5:=Lib.hid (And.intro k2' k3')
 have HG5:Hid (∀ g,own5 g ≠ Lno → g < w4.heap.size → W.heap.size ≤ g → False):=Lib.hid n1
 have HW5:Hid (w4.heap.size ≤ W5.heap.size):=Lib.hid hsz5
 obtain ⟨xs,x1,_,_⟩:=k2'.ex
 have HMB2:=Lib.hid (fun Q hQ => markPages_any W5 pb h0 h1 own5 v5 ls5 qf (C + 8) q1 q2 _ _ xs x1 k2'.le (k2'.spare _) (by omega) Q hQ)
 clear z1 z2 z3 y1 y2 y3 g1 g2
 obtain ⟨⟨z1,z2,z3⟩,y1,y2,y3⟩:=hX5.cells
 obtain ⟨g1,g2⟩:=hX5.lt
 clear q1 q2 q3 q4 k1 k2 k3 hbn n1 k2' k3' hX5 hsz5 HMB x1
 go_wp2_with fail
 refine HMB2.out _ (fun W6 own6 v6 ls6 q1 q2 q3 q4 => ?_)
 obtain ⟨k2,k3⟩:=HN5.out
 have hX6:Bx2 W6 b1 (b1 + 1) (.slice a1 m1 c1) (.slice a2 m2 c2) (.slice a3 m3 c3) (.slice a4 m4 c4) (.slice a5 m5 c5) (.slice a6 m6 c6) hh ser:=by
  have l4:=HX4.out.lt
  refine HX5.out.block (q3.kf.block _ HX5.out.lt.1 fun e => ?_) (q3.kf.block _ HX5.out.lt.2 fun e => ?_)
  ·rcases e with e | e
   ·exact HG5.out _ e l4.1 (Nat.le_of_eq HB1.out)
   ·have:=H2.out.lts.1 _ e;have:=HB1.out;omega
  ·rcases e with e | e
   ·exact HG5.out _ e l4.2 (by have:=HB1.out;omega)
   ·have:=H2.out.lts.1 _ e;have:=HB1.out;omega
 have k3':=k3.frm q3 (fun g hg => k2.ne k3 (by decide) (.inl hg))
 have HF6:Hid (KFB B W own W6 own6):=Lib.hid (HF5.out.trans (q3.kfb (fun g hg => .inr (H2.out.ll g hg).2) (Nat.le_trans hB (Nat.le_trans HS4.out.size HW5.out))))
 have HL6:Hid (∀ j,j < 6 → ls6 j=ls j):=Lib.hid fun j hj => (q4 j hj).trans (HL5.out j hj)
 have HW6:Hid (w4.heap.size ≤ W6.heap.size):=Lib.hid (Nat.le_trans HW5.out q3.kf.size)
 obtain ⟨xs,x1,_,_⟩:=k3'.ex
 have HMB3:=Lib.hid (fun Q hQ => markBlocks_any W6 pb h0 h1 own6 v6 ls6 qf (C + 8 + 8) q1 q2 _ _ xs x1 k3'.le (k3'.spare _) (by omega) Q hQ)
 clear z1 z2 z3 y1 y2 y3 g1 g2
 obtain ⟨⟨z1,z2,z3⟩,y1,y2,y3⟩:=hX6.cells
 obtain ⟨g1,g2⟩:=hX6.lt
 clear q1 q2 q3 q4 k2 k3 k3' hX6 HMB2 x1
 go_wp2_with fail
 refine HMB3.out _ (fun W7 own7 v7 ls7 q1 q2 q3 q4 => ?_)
 have HE:Hid (KeepAt W7 pb h0 h1 own7 qf (C + 24) ∧ KFB B W own W7 own7):=Lib.hid ⟨⟨v7,ls7,q1,q2,by rw [q4 0 (by omega),q4 4 (by omega),HL6.out 0 (by omega),HL6.out 4 (by omega)];exact HK.out.mny,by rw [q4 0 (by omega),q4 2 (by omega),HL6.out 0 (by omega),HL6.out 2 (by omega)];exact HK.out.pgs⟩,
  HF6.out.trans (q3.kfb (fun g hg => .inr (H3.out.ll g hg).2) (Nat.le_trans hB (Nat.le_trans HS4.out.size HW6.out)))⟩
 clear q1 q2 q3 q4 HMB3 z1 z2 z3 y1 y2 y3 g1 g2
 go_wp2_with fail
 exact HQ.out _ own7 HE.out.1 HE.out.2
set_option maxRecDepth 100000 in
set_option maxHeartbeats 6400000 in
theorem kdump_quiet (W:World) (pb:Nat) (h0 h1:Value) (own:Nat → Lb) (qf:Nat → Nat) (C B n1 n2 n3:Nat) (d1 d2 d3 e1 e2 e3:Value) (f1 f2 f3:Nat → Nat → Int) (hh:Nat → Int) (ser:Int) (v:Nat → Value) (ls:Nat → List Value) (hk:KeepV W pb h0 h1 own qf C v ls)
 (q1:QIn W own B 0 d1 e1 n1 f1) (q2:QIn W own B 1 d2 e2 n2 f2) (q3:QIn W own B 2 d3 e3 n3 f3) (hB:B ≤ W.heap.size) (hC:C + 24 ≤ 900000) (hm:¬30 < (ls 0).length + (ls 4).length) (Q:Ending → World → Prop)
 (hQ:∀ W' own',KeepAt W' pb h0 h1 own' qf (C + 24) → KFB B W own W' own' → Q (.returned (.bool true)) W') :
 Calls Tryz.prog 38 #[.pointer (some ⟨pb,2,none⟩),dumpVal d1 d2 d3 hh ser,dumpVal e1 e2 e3 hh ser,.bool true] W Q:=by
 have HQ:=Lib.hid hQ
 have HK:=Lib.hid hk
 have H1:=Lib.hid q1
 have H2:=Lib.hid q2
 have H3:=Lib.hid q3
 have HC1:=Lib.hid (fun W' (hs:Still W W') => sameInts_eq W' d1 e1 n1 f1 (q1.rows.1.still hs) (q1.rows.2.still hs) (by have:=q1.le;omega))
 have HC2:=Lib.hid (fun W' (hs:Still W W') => samePages_eq W' d2 e2 n2 f2 (q2.rows.1.still hs) (q2.rows.2.still hs) (by have:=q2.le;omega))
 have HC3:=Lib.hid (fun W' (hs:Still W W') => sameBlocks_eq W' d3 e3 n3 f3 (q3.rows.1.still hs) (q3.rows.2.still hs) (by have:=q3.le;omega))
 have HM:=Lib.hid (fun W' (hs:Still W W') => many_any W' v ls ⟨hk.hd.still hs,hk.fc.still hs,hk.mny,hk.pgs⟩)
 obtain ⟨a1,m1,c1,r1⟩:∃ a n c,d1=.slice a n c:=by obtain ⟨xs,x1,_⟩:=q1.ex;exact own_slice x1
 obtain ⟨a2,m2,c2,r2⟩:∃ a n c,d2=.slice a n c:=by obtain ⟨xs,x1,_⟩:=q2.ex;exact own_slice x1
 obtain ⟨a3,m3,c3,r3⟩:∃ a n c,d3=.slice a n c:=by obtain ⟨xs,x1,_⟩:=q3.ex;exact own_slice x1
 obtain ⟨a4,m4,c4,r4⟩:∃ a n c,e1=.slice a n c:=by obtain ⟨xs,_,x1,_⟩:=q1.ex;exact own_slice x1
 obtain ⟨a5,m5,c5,r5⟩:∃ a n c,e2=.slice a n c:=by obtain ⟨xs,_,x1,_⟩:=q2.ex;exact own_slice x1
 obtain ⟨a6,m6,c6,r6⟩:∃ a n c,e3=.slice a n c:=by obtain ⟨xs,_,x1,_⟩:=q3.ex;exact own_slice x1
 subst r1 r2 r3 r4 r5 r6
 have hM:decide (30 < (ls 0).length + (ls 4).length)=false:=decide_eq_false hm
 rw [hM] at HM
 have hbx:Bx2 ((W.alloc (dumpObj (.slice a1 m1 c1) (.slice a2 m2 c2) (.slice a3 m3 c3) hh ser)).alloc (dumpObj (.slice a4 m4 c4) (.slice a5 m5 c5) (.slice a6 m6 c6) hh ser)) W.heap.size (W.heap.size + 1) (.slice a1 m1 c1) (.slice a2 m2 c2) (.slice a3 m3 c3) (.slice a4 m4 c4) (.slice a5 m5 c5) (.slice a6 m6 c6) hh ser:=by
  refine ⟨(Below.heap_alloc _ _ _ (by simp)).trans (heap_alloc_new W _),?_⟩
  have:=heap_alloc_new (W.alloc (dumpObj (.slice a1 m1 c1) (.slice a2 m2 c2) (.slice a3 m3 c3) hh ser)) (dumpObj (.slice a4 m4 c4) (.slice a5 m5 c5) (.slice a6 m6 c6) hh ser)
  rwa [World.size_alloc] at this
 have hsb:Still W ((W.alloc (dumpObj (.slice a1 m1 c1) (.slice a2 m2 c2) (.slice a3 m3 c3) hh ser)).alloc (dumpObj (.slice a4 m4 c4) (.slice a5 m5 c5) (.slice a6 m6 c6) hh ser)):=((Only.refl _ _ W).alloc _).alloc _
 have heq:∀ w:World,(Op.equalIn 10000 71 (.agg (hds hh)) (.agg (hds hh))).run Tryz.prog w=.ok true w:=fun w => heads_eq 9998 hh w
 obtain ⟨b1,hb1⟩:∃ b,W.heap.size=b:=⟨_,rfl⟩
 have HB1:=Lib.hid hb1
 clear hk q1 q2 q3 hQ hM 
 go_enter Tryz.func38,Tryz.ntmps38
 go_wp2_with fail
 generalize ((W.alloc (dumpObj (.slice a1 m1 c1) (.slice a2 m2 c2) (.slice a3 m3 c3) hh ser)).alloc (dumpObj (.slice a4 m4 c4) (.slice a5 m5 c5) (.slice a6 m6 c6) hh ser))=w0 at *
 rw [hb1] at hbx
 have HX:=Lib.hid hbx
 have HS:=Lib.hid hsb
 clear hbx hsb hb1
 refine (HC1.out _ HS.out).mono ?_
 rintro e w1 ⟨rfl,hs1⟩
 have HX1:=Lib.hid (HX.out.still hs1)
 have HS1:=Lib.hid (Still.trans HS.out hs1)
 obtain ⟨⟨z1,z2,z3⟩,y1,y2,y3⟩:=HX1.out.cells
 obtain ⟨g1,g2⟩:=HX1.out.lt
 clear hs1
 go_wp2_with fail
 refine (HC2.out _ HS1.out).mono ?_
 rintro e w2 ⟨rfl,hs2⟩
 have HX2:=Lib.hid (HX1.out.still hs2)
 have HS2:=Lib.hid (Still.trans HS1.out hs2)
 clear z1 z2 z3 y1 y2 y3 g1 g2
 obtain ⟨⟨z1,z2,z3⟩,y1,y2,y3⟩:=HX2.out.cells
 obtain ⟨g1,g2⟩:=HX2.out.lt
 clear hs2
 go_wp2_with fail
 refine (HC3.out _ HS2.out).mono ?_
 rintro e w3 ⟨rfl,hs3⟩
 have HX3:=Lib.hid (HX2.out.still hs3)
 have HS3:=Lib.hid (Still.trans HS2.out hs3)
 clear z1 z2 z3 y1 y2 y3 g1 g2
 obtain ⟨⟨z1,z2,z3,z4,z5,z6,z7,z8,z9⟩,y1,y2,y3,y4,y5,y6,y7,y8,y9⟩:=HX3.out.heads
 obtain ⟨g1,g2⟩:=HX3.out.lt
 clear hs3
 go_wp2_with fail
 refine (HM.out _ HS3.out).mono ?_
 rintro e w4 ⟨rfl,hs4⟩
 have HX4:=Lib.hid (HX3.out.still hs4)
 have HS4:=Lib.hid (Still.trans HS3.out hs4)
 clear z1 z2 z3 y1 y2 y3 z4 z5 z6 z7 z8 z9 y4 y5 y6 y7 y8 y9 g1 g2 hs4 heq HC1 HC2 HC3 HM HX HX1 HX2 HX3
 obtain ⟨⟨z1,z2,z3⟩,y1,y2,y3⟩:=HX4.out.cells
 obtain ⟨g1,g2⟩:=HX4.out.lt
 have i1:=H1.out.still HS4.out
 have i2:=H2.out.still HS4.out
 have i3:=H3.out.still HS4.out
 obtain ⟨s1,s2,⟨xs1,s3⟩,s4,s5⟩:=i1.lab (HK.out.hd.still HS4.out) (HK.out.fc.still HS4.out) (ls 0).length
 have i2':=i2.same (own':=relab (relab own (.slice a1 m1 c1) (Lq 0 (ls 0).length)) (.slice a4 m4 c4) (Lw 0 (ls 0).length)) (W':=w4) (fun g _ hg => ⟨s4 g (i2.ne i1 (by decide) hg).1 (i2.ne i1 (by decide) hg).2,rfl⟩)
 have i3':=i3.same (own':=relab (relab own (.slice a1 m1 c1) (Lq 0 (ls 0).length)) (.slice a4 m4 c4) (Lw 0 (ls 0).length)) (W':=w4) (fun g _ hg => ⟨s4 g (i3.ne i1 (by decide) hg).1 (i3.ne i1 (by decide) hg).2,rfl⟩)
 generalize relab (relab own (.slice a1 m1 c1) (Lq 0 (ls 0).length)) (.slice a4 m4 c4) (Lw 0 (ls 0).length)=ow1 at *
 obtain ⟨t1,t2,⟨xs2,t3⟩,t4,t5⟩:=i2'.lab s1 s2 (ls 2).length
 have s3':=s3.same (W':=w4) (own':=relab (relab ow1 (.slice a2 m2 c2) (Lq 1 (ls 2).length)) (.slice a5 m5 c5) (Lw 1 (ls 2).length)) (fun g _ hg => ⟨t4 g (fun e => by rw [(i2'.ll g e).1] at hg;rcases hg with hg | hg <;> cases hg) (fun e => by rw [(i2'.lw g e).1] at hg;rcases hg with hg | hg <;> cases hg),rfl⟩)
 have i3'':=i3'.same (own':=relab (relab ow1 (.slice a2 m2 c2) (Lq 1 (ls 2).length)) (.slice a5 m5 c5) (Lw 1 (ls 2).length)) (W':=w4) (fun g _ hg => ⟨t4 g (i3.ne i2 (by decide) hg).1 (i3.ne i2 (by decide) hg).2,rfl⟩)
 generalize relab (relab ow1 (.slice a2 m2 c2) (Lq 1 (ls 2).length)) (.slice a5 m5 c5) (Lw 1 (ls 2).length)=ow2 at *
 obtain ⟨u1,u2,⟨xs3,u3⟩,u4,u5⟩:=i3''.lab t1 t2 (ls 4).length
 have s3'':=s3'.same (W':=w4) (own':=relab (relab ow2 (.slice a3 m3 c3) (Lq 2 (ls 4).length)) (.slice a6 m6 c6) (Lw 2 (ls 4).length)) (fun g _ hg => ⟨u4 g (fun e => by rw [(i3''.ll g e).1] at hg;rcases hg with hg | hg <;> cases hg) (fun e => by rw [(i3''.lw g e).1] at hg;rcases hg with hg | hg <;> cases hg),rfl⟩)
 have t3':=t3.same (W':=w4) (own':=relab (relab ow2 (.slice a3 m3 c3) (Lq 2 (ls 4).length)) (.slice a6 m6 c6) (Lw 2 (ls 4).length)) (fun g _ hg => ⟨u4 g (fun e => by rw [(i3''.ll g e).1] at hg;rcases hg with hg | hg <;> cases hg) (fun e => by rw [(i3''.lw g e).1] at hg;rcases hg with hg | hg <;> cases hg),rfl⟩)
 generalize relab (relab ow2 (.slice a3 m3 c3) (Lq 2 (ls 4).length)) (.slice a6 m6 c6) (Lw 2 (ls 4).length)=ow3 at *
 have hlen:(ls 0).length + (ls 4).length ≤ 30:=by omega
 have l2:=HK.out.pgs
 have l1:(ls 1).length=(ls 0).length:=HK.out.fc.l1 0 (by decide)
 have l3:(ls 3).length=(ls 2).length:=HK.out.fc.l1 1 (by decide)
 have l5:(ls 5).length=(ls 4).length:=HK.out.fc.l1 2 (by decide)
 have hbn:∀ g,W.heap.size ≤ g → g < w4.heap.size → (ow3 g).1 ≠ 1 ∧ (ow3 g).1 ≠ 2:=fun g hg _ => by
  have e3:=u4 g (fun e => by have:=H3.out.lts.1 g e;omega) (fun e => by have:=H3.out.lts.2 g e;omega)
  have e2:=t4 g (fun e => by have:=H2.out.lts.1 g e;omega) (fun e => by have:=H2.out.lts.2 g e;omega)
  have e1:=s4 g (fun e => by have:=H1.out.lts.1 g e;omega) (fun e => by have:=H1.out.lts.2 g e;omega)
  have e0:own g=Lno:=by
   by_cases e:own g=Lno
   ·exact e
   ·have:=HK.out.hd.olt g e;omega
  rw [e3,e2,e1,e0]
  decide
 have HP:Hid (Pq pb h0 h1 w4 ow3 w4 ow3 v ls):=Lib.hid (Pq.start u1)
 have hbx0:(ow3 b1).1 ≠ 1 ∧ (ow3 b1).1 ≠ 2:=hbn _ (Nat.le_of_eq HB1.out) HX4.out.lt.1
 have hbx1:(ow3 (b1 + 1)).1 ≠ 1 ∧ (ow3 (b1 + 1)).1 ≠ 2:=hbn _ (by have:=HB1.out;omega) HX4.out.lt.2
 have HLE:Hid (∀ j,j < 6 → (ls j).length ≤ 30):=Lib.hid fun j hj => by
  have:j=0 ∨ j=1 ∨ j=2 ∨ j=3 ∨ j=4 ∨ j=5:=by omega
  rcases this with rfl | rfl | rfl | rfl | rfl | rfl <;> omega
 have HXX:Hid (∀ W own v ls,Pq pb h0 h1 w4 ow3 W own v ls → Bx2 W b1 (b1 + 1) (.slice a1 m1 c1) (.slice a2 m2 c2) (.slice a3 m3 c3) (.slice a4 m4 c4) (.slice a5 m5 c5) (.slice a6 m6 c6) hh ser):=Lib.hid fun W own v ls hp =>
  HX4.out.block (hp.same HX4.out.lt.1 hbx0).2 (hp.same HX4.out.lt.2 hbx1).2
 have HFIN:Hid (∀ Wf ownf vf,Pq pb h0 h1 w4 ow3 Wf ownf vf (updF (updF (updF (updF (updF (updF ls 0 (ls 0 ++ [.slice a1 m1 c1])) 1 (ls 1 ++ [.slice a4 m4 c4])) 2 (ls 2 ++ [.slice a2 m2 c2])) 3 (ls 3 ++ [.slice a5 m5 c5])) 4 (ls 4 ++ [.slice a3 m3 c3])) 5 (ls 5 ++ [.slice a6 m6 c6])) → KeepAt Wf pb h0 h1 ownf qf (C + 24) ∧ KFB B W own Wf ownf):=Lib.hid fun Wf ownf vf hp => by
  have f1:=(hp.facts u2).addq (k:=0) (by decide) (hp.quiet s3'')
  have f2:=f1.addq (k:=1) (by decide) (hp.quiet t3')
  have f3:=(f2.addq (k:=2) (by decide) (hp.quiet u3)).mono (show C ≤ C + 24 by omega)
  refine ⟨⟨vf,_,hp.hd,f3,?_,?_⟩,((KFB.refl B W own).still HS4.out).trans (hp.kfb (Nat.le_trans hB HS4.out.size) fun g hg => ?_)⟩
  ·show (ls 0 ++ [_]).length + (ls 4 ++ [_]).length ≤ 32
   rw [List.length_append,List.length_append]
   show (ls 0).length + 1 + ((ls 4).length + 1) ≤ 32
   omega
  ·show (ls 2 ++ [_]).length=(ls 0 ++ [_]).length
   rw [List.length_append,List.length_append,l2]
   rfl
  ·rcases u5 g hg with e | e
   ·rcases t5 g e with e | e
    ·exact s5 g e
    ·exact .inr e
   ·exact .inr e
 clear hlen l1 l2 l3 l5 s1 s2 s3 s4 s5 i1 i2 i3 i2' i3' t1 t2 t3 t4 t5 s3' i3'' u1 u2 u3 u4 u5 s3'' t3' hbn hbx0 hbx1 z1 z2 z3 y1 y2 y3 g1 g2 HX4
 obtain ⟨⟨z1,z2,z3⟩,y1,y2,y3⟩:=(HXX.out _ _ _ _ HP.out).cells
 obtain ⟨g1,g2⟩:=(HXX.out _ _ _ _ HP.out).lt
 have x1:w4.cell? ⟨pb,2,none⟩=some (v 0):=HP.out.hd.cell 0 (by decide)
 have gp:=HP.out.hd.lt
 obtain ⟨a,n,c,W0,r,⟨y,z⟩,f,lp,ow0n,v0n,hp,hv⟩:=(HP.out.still (Only.refl _ _ w4).drew).push (t:=42) Tryz.underlying42 Tryz.infoLI rfl (by decide) (j:=0) (by decide) rfl (by
  have:=HLE.out 0 (by decide);omega) (.slice a1 m1 c1) rfl
 have z:W0.cell? ⟨pb,2,none⟩=some y:=z
 have f:W0.frozen? ⟨pb,2,none⟩=false:=f
 have HR:=Lib.hid r
 have HPN:=Lib.hid hp
 clear r hp hv
 go_upto_region 8 with fail
 go_cut [70] from 62 to 72 (fun s4 wx => s4=.slice a n c ∧ wx=W0.setCell ⟨pb,2,none⟩ (.slice a n c))
 case first =>
  go_region_law (first | (refine step_append_eq rfl (.tmp 66) (.tmp 69) 42 rfl (v 0) (.slice (some ⟨w4.heap.size,0,none⟩) 1 1) (.slice a n c) W0 rfl rfl HR.out ?_))
  all_goals
   go_wp2_with fail
   go_meet
   exact ⟨rfl,rfl⟩
 case rest =>
 obtain ⟨rfl,hwc⟩:=hcut
 have HPN:Hid (Pq pb h0 h1 w4 ow3 wc ow0n v0n (updF ls 0 (ls 0 ++ [.slice a1 m1 c1]))):=Lib.hid (by rw [hwc];exact HPN.out)
 obtain ⟨wp0,hww⟩:∃ w,w=wc:=⟨_,rfl⟩
 subst hww
 clear hwc x1 gp z f lp HR HP z1 z2 z3 y1 y2 y3 g1 g2
 have HP:=Lib.hid HPN.out
 clear HPN
 obtain ⟨⟨z1,z2,z3⟩,y1,y2,y3⟩:=(HXX.out _ _ _ _ HP.out).cells
 obtain ⟨g1,g2⟩:=(HXX.out _ _ _ _ HP.out).lt
 have x1:wp0.cell? ⟨pb,3,none⟩=some (v0n 1):=HP.out.hd.cell 1 (by decide)
 have gp:=HP.out.hd.lt
 obtain ⟨a,n,c,W1,r,⟨y,z⟩,f,lp,ow1n,v1n,hp,hv⟩:=(HP.out.still (Only.refl _ _ wp0).drew).push (t:=42) Tryz.underlying42 Tryz.infoLI rfl (by decide) (j:=1) (by decide) rfl (by
  rw [updF_ne _ _ (by decide)];have:=HLE.out 1 (by decide);omega) (.slice a4 m4 c4) rfl
 have z:W1.cell? ⟨pb,3,none⟩=some y:=z
 have f:W1.frozen? ⟨pb,3,none⟩=false:=f
 have HR:=Lib.hid r
 have HPN:=Lib.hid hp
 clear r hp hv
 go_upto_region 9 with fail
 go_cut [81] from 73 to 83 (fun s4 wx => s4=.slice a n c ∧ wx=W1.setCell ⟨pb,3,none⟩ (.slice a n c))
 case first =>
  go_region_law (first | (refine step_append_eq rfl (.tmp 77) (.tmp 80) 42 rfl (v0n 1) (.slice (some ⟨wp0.heap.size,0,none⟩) 1 1) (.slice a n c) W1 rfl rfl HR.out ?_))
  all_goals
   go_wp2_with fail
   go_meet
   exact ⟨rfl,rfl⟩
 case rest =>
 obtain ⟨rfl,hwc⟩:=hcut
 have HPN:Hid (Pq pb h0 h1 w4 ow3 wc ow1n v1n (updF (updF ls 0 (ls 0 ++ [.slice a1 m1 c1])) 1 (ls 1 ++ [.slice a4 m4 c4]))):=Lib.hid (by rw [hwc];exact HPN.out)
 obtain ⟨wp1,hww⟩:∃ w,w=wc:=⟨_,rfl⟩
 subst hww
 clear hwc x1 gp z f lp HR HP z1 z2 z3 y1 y2 y3 g1 g2
 have HP:=Lib.hid HPN.out
 clear HPN
 obtain ⟨⟨z1,z2,z3⟩,y1,y2,y3⟩:=(HXX.out _ _ _ _ HP.out).cells
 obtain ⟨g1,g2⟩:=(HXX.out _ _ _ _ HP.out).lt
 have x1:wp1.cell? ⟨pb,4,none⟩=some (v1n 2):=HP.out.hd.cell 2 (by decide)
 have gp:=HP.out.hd.lt
 obtain ⟨a,n,c,W2,r,⟨y,z⟩,f,lp,ow2n,v2n,hp,hv⟩:=(HP.out.still (Only.refl _ _ wp1).drew).push (t:=43) Tryz.underlying43 Tryz.infoLP rfl (by decide) (j:=2) (by decide) rfl (by
  rw [updF_ne _ _ (by decide)];rw [updF_ne _ _ (by decide)];have:=HLE.out 2 (by decide);omega) (.slice a2 m2 c2) rfl
 have z:W2.cell? ⟨pb,4,none⟩=some y:=z
 have f:W2.frozen? ⟨pb,4,none⟩=false:=f
 have HR:=Lib.hid r
 have HPN:=Lib.hid hp
 clear r hp hv
 go_upto_region 10 with fail
 go_cut [92] from 84 to 94 (fun s4 wx => s4=.slice a n c ∧ wx=W2.setCell ⟨pb,4,none⟩ (.slice a n c))
 case first =>
  go_region_law (first | (refine step_append_eq rfl (.tmp 88) (.tmp 91) 43 rfl (v1n 2) (.slice (some ⟨wp1.heap.size,0,none⟩) 1 1) (.slice a n c) W2 rfl rfl HR.out ?_))
  all_goals
   go_wp2_with fail
   go_meet
   exact ⟨rfl,rfl⟩
 case rest =>
 obtain ⟨rfl,hwc⟩:=hcut
 have HPN:Hid (Pq pb h0 h1 w4 ow3 wc ow2n v2n (updF (updF (updF ls 0 (ls 0 ++ [.slice a1 m1 c1])) 1 (ls 1 ++ [.slice a4 m4 c4])) 2 (ls 2 ++ [.slice a2 m2 c2]))):=Lib.hid (by rw [hwc];exact HPN.out)
 obtain ⟨wp2,hww⟩:∃ w,w=wc:=⟨_,rfl⟩
 subst hww
 clear hwc x1 gp z f lp HR HP z1 z2 z3 y1 y2 y3 g1 g2
 have HP:=Lib.hid HPN.out
 clear HPN
 obtain ⟨⟨z1,z2,z3⟩,y1,y2,y3⟩:=(HXX.out _ _ _ _ HP.out).cells
 obtain ⟨g1,g2⟩:=(HXX.out _ _ _ _ HP.out).lt
 have x1:wp2.cell? ⟨pb,5,none⟩=some (v2n 3):=HP.out.hd.cell 3 (by decide)
 have gp:=HP.out.hd.lt
 obtain ⟨a,n,c,W3,r,⟨y,z⟩,f,lp,ow3n,v3n,hp,hv⟩:=(HP.out.still (Only.refl _ _ wp2).drew).push (t:=43) Tryz.underlying43 Tryz.infoLP rfl (by decide) (j:=3) (by decide) rfl (by
  rw [updF_ne _ _ (by decide)];rw [updF_ne _ _ (by decide)];rw [updF_ne _ _ (by decide)];have:=HLE.out 3 (by decide);omega) (.slice a5 m5 c5) rfl
 have z:W3.cell? ⟨pb,5,none⟩=some y:=z
 have f:W3.frozen? ⟨pb,5,none⟩=false:=f
 have HR:=Lib.hid r
 have HPN:=Lib.hid hp
 clear r hp hv
 go_upto_region 11 with fail
 go_cut [103] from 95 to 105 (fun s4 wx => s4=.slice a n c ∧ wx=W3.setCell ⟨pb,5,none⟩ (.slice a n c))
 case first =>
  go_region_law (first | (refine step_append_eq rfl (.tmp 99) (.tmp 102) 43 rfl (v2n 3) (.slice (some ⟨wp2.heap.size,0,none⟩) 1 1) (.slice a n c) W3 rfl rfl HR.out ?_))
  all_goals
   go_wp2_with fail
   go_meet
   exact ⟨rfl,rfl⟩
 case rest =>
 obtain ⟨rfl,hwc⟩:=hcut
 have HPN:Hid (Pq pb h0 h1 w4 ow3 wc ow3n v3n (updF (updF (updF (updF ls 0 (ls 0 ++ [.slice a1 m1 c1])) 1 (ls 1 ++ [.slice a4 m4 c4])) 2 (ls 2 ++ [.slice a2 m2 c2])) 3 (ls 3 ++ [.slice a5 m5 c5]))):=Lib.hid (by rw [hwc];exact HPN.out)
 obtain ⟨wp3,hww⟩:∃ w,w=wc:=⟨_,rfl⟩
 subst hww
 clear hwc x1 gp z f lp HR HP z1 z2 z3 y1 y2 y3 g1 g2
 have HP:=Lib.hid HPN.out
 clear HPN
 obtain ⟨⟨z1,z2,z3⟩,y1,y2,y3⟩:=(HXX.out _ _ _ _ HP.out).cells
 obtain ⟨g1,g2⟩:=(HXX.out _ _ _ _ HP.out).lt
 have x1:wp3.cell? ⟨pb,6,none⟩=some (v3n 4):=HP.out.hd.cell 4 (by decide)
 have gp:=HP.out.hd.lt
 obtain ⟨a,n,c,W4,r,⟨y,z⟩,f,lp,ow4n,v4n,hp,hv⟩:=(HP.out.still (Only.refl _ _ wp3).drew).push (t:=44) Tryz.underlying44 Tryz.infoLB rfl (by decide) (j:=4) (by decide) rfl (by
  rw [updF_ne _ _ (by decide)];rw [updF_ne _ _ (by decide)];rw [updF_ne _ _ (by decide)];rw [updF_ne _ _ (by decide)];have:=HLE.out 4 (by decide);omega) (.slice a3 m3 c3) rfl
 have z:W4.cell? ⟨pb,6,none⟩=some y:=z
 have f:W4.frozen? ⟨pb,6,none⟩=false:=f
 have HR:=Lib.hid r
 have HPN:=Lib.hid hp
 clear r hp hv
 go_upto_region 12 with fail
 go_cut [114] from 106 to 116 (fun s4 wx => s4=.slice a n c ∧ wx=W4.setCell ⟨pb,6,none⟩ (.slice a n c))
 case first =>
  go_region_law (first | (refine step_append_eq rfl (.tmp 110) (.tmp 113) 44 rfl (v3n 4) (.slice (some ⟨wp3.heap.size,0,none⟩) 1 1) (.slice a n c) W4 rfl rfl HR.out ?_))
  all_goals
   go_wp2_with fail
   go_meet
   exact ⟨rfl,rfl⟩
 case rest =>
 obtain ⟨rfl,hwc⟩:=hcut
 have HPN:Hid (Pq pb h0 h1 w4 ow3 wc ow4n v4n (updF (updF (updF (updF (updF ls 0 (ls 0 ++ [.slice a1 m1 c1])) 1 (ls 1 ++ [.slice a4 m4 c4])) 2 (ls 2 ++ [.slice a2 m2 c2])) 3 (ls 3 ++ [.slice a5 m5 c5])) 4 (ls 4 ++ [.slice a3 m3 c3]))):=Lib.hid (by rw [hwc];exact HPN.out)
 obtain ⟨wp4,hww⟩:∃ w,w=wc:=⟨_,rfl⟩
 subst hww
 clear hwc x1 gp z f lp HR HP z1 z2 z3 y1 y2 y3 g1 g2
 have HP:=Lib.hid HPN.out
 clear HPN
 obtain ⟨⟨z1,z2,z3⟩,y1,y2,y3⟩:=(HXX.out _ _ _ _ HP.out).cells
 obtain ⟨g1,g2⟩:=(HXX.out _ _ _ _ HP.out).lt
 have x1:wp4.cell? ⟨pb,7,none⟩=some (v4n 5):=HP.out.hd.cell 5 (by decide)
 have gp:=HP.out.hd.lt
 obtain ⟨a,n,c,W5,r,⟨y,z⟩,f,lp,ow5n,v5n,hp,hv⟩:=(HP.out.still (Only.refl _ _ wp4).drew).push (t:=44) Tryz.underlying44 Tryz.infoLB rfl (by decide) (j:=5) (by decide) rfl (by
  rw [updF_ne _ _ (by decide)];rw [updF_ne _ _ (by decide)];rw [updF_ne _ _ (by decide)];rw [updF_ne _ _ (by decide)];rw [updF_ne _ _ (by decide)];have:=HLE.out 5 (by decide);omega) (.slice a6 m6 c6) rfl
 have z:W5.cell? ⟨pb,7,none⟩=some y:=z
 have f:W5.frozen? ⟨pb,7,none⟩=false:=f
 have HR:=Lib.hid r
 have HPN:=Lib.hid hp
 clear r hp hv
 go_wp2_with fail
 have hf:=HFIN.out _ _ _ HPN.out
 have HF:Hid (KeepAt (W5.setCell ⟨pb,7,none⟩ (.slice a n c)) pb h0 h1 ow5n qf (C + 24) ∧ KFB B W own (W5.setCell ⟨pb,7,none⟩ (.slice a n c)) ow5n):=Lib.hid ⟨hf.1,hf.2⟩
 clear hf HP HPN
 go_region_law (first | (refine step_append_eq rfl (.tmp 121) (.tmp 124) 44 rfl (v4n 5) (.slice (some ⟨wp4.heap.size,0,none⟩) 1 1) (.slice a n c) W5 rfl rfl HR.out ?_))
 all_goals
  go_wp2_with fail
  exact HQ.out _ _ HF.out.1 HF.out.2
theorem kdump_any (W:World) (pb:Nat) (h0 h1:Value) (own:Nat → Lb) (qf:Nat → Nat) (C B n1 n2 n3:Nat) (d1 d2 d3 e1 e2 e3:Value) (f1 f2 f3:Nat → Nat → Int) (hh:Nat → Int) (ser:Int) (hk:KeepAt W pb h0 h1 own qf C)
 (q1:QIn W own B 0 d1 e1 n1 f1) (q2:QIn W own B 1 d2 e2 n2 f2) (q3:QIn W own B 2 d3 e3 n3 f3) (hB:B ≤ W.heap.size) (hC:C + 24 ≤ 900000) (q:Bool) (Q:Ending → World → Prop)
 (hQ:∀ W' own',KeepAt W' pb h0 h1 own' qf (C + 24) → KFB B W own W' own' → Q (.returned (.bool true)) W') :
 Calls Tryz.prog 38 #[.pointer (some ⟨pb,2,none⟩),dumpVal d1 d2 d3 hh ser,dumpVal e1 e2 e3 hh ser,.bool q] W Q:=by
 obtain ⟨v,ls,hk⟩:=hk
 by_cases hm:30 < (ls 0).length + (ls 4).length
 ·exact kdump_many W pb h0 h1 own qf C B n1 n2 n3 d1 d2 d3 e1 e2 e3 f1 f2 f3 hh ser v ls hk q1 q2 q3 hB hC hm q Q hQ
 ·cases q with
  | false => exact kdump_mark W pb h0 h1 own qf C B n1 n2 n3 d1 d2 d3 e1 e2 e3 f1 f2 f3 hh ser v ls hk q1 q2 q3 hB hC hm Q hQ
  | true => exact kdump_quiet W pb h0 h1 own qf C B n1 n2 n3 d1 d2 d3 e1 e2 e3 f1 f2 f3 hh ser v ls hk q1 q2 q3 hB hC hm Q hQ
end Go.Proofs.YtfbcdmhmpfijjaaGreatDoor
