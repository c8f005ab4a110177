/-
  The walk of space.Keep.
-/
import Derived.Test.YtfbcdmhmpfijjaaGreatDoorQ14
import Derived.Test.YtfbcdmhmpfijjaaGreatDoorQ15
set_option linter.unusedVariables false
set_option linter.unusedSimpArgs false
set_option linter.unusedSectionVars false
namespace Go.Proofs.YtfbcdmhmpfijjaaGreatDoor
open Go Go.RowKit
attribute [local go_sem] Oper.semAt_some
def stayTo (zs:List Int):Nat → (Nat → Bool)
 | 0 => fun _ => false
 | j + 1 => setS (stayTo zs j) (zs.getD j 0).toNat true
structure KB (w:World) (b2 b6 B sb:Nat) (mp m0:Addr) (f:Nat) (o:Obj):Prop where
 x2:w.heap[b2]?=some (.cells #[.pointer (some ⟨sb,0,none⟩)] 34)
 x6:w.heap[b6]?=some (.cells #[.pointer (some mp)] 81)
 xf:w.heap[B]?=some (.cells #[.int .i64 (f:Int)] 3)
 xm:w.heap[B + 1]?=some (.cells #[.pointer (some m0)] 81)
 xd:w.heap[B + 1 + 1]?=some (.deferred (some []))
 xl:w.heap[B + 1 + 1 + 1]?=some o
theorem KB.kept {w w':World} {b2 b6 B sb:Nat} {mp m0:Addr} {f:Nat} {o:Obj} (h:KB w b2 b6 B sb mp m0 f o) {lo hi:Nat} (ho:Only lo hi w w') (h1:hi ≤ b2) (h2:hi ≤ b6) (h3:hi ≤ B):KB w' b2 b6 B sb mp m0 f o:=by
 have l2:=(Array.getElem?_eq_some_iff.1 h.x2).1
 have l6:=(Array.getElem?_eq_some_iff.1 h.x6).1
 have lf:=(Array.getElem?_eq_some_iff.1 h.xf).1
 have lm:=(Array.getElem?_eq_some_iff.1 h.xm).1
 have ld:=(Array.getElem?_eq_some_iff.1 h.xd).1
 have ll:=(Array.getElem?_eq_some_iff.1 h.xl).1
 exact ⟨(ho.block _ l2 (.inr h1)).trans h.x2,(ho.block _ l6 (.inr h2)).trans h.x6,(ho.block _ lf (.inr h3)).trans h.xf,(ho.block _ lm (.inr (by omega))).trans h.xm,(ho.block _ ld (.inr (by omega))).trans h.xd,(ho.block _ ll (.inr (by omega))).trans h.xl⟩
theorem KB.put {w:World} {b2 b6 B sb:Nat} {mp m0:Addr} {f:Nat} {o:Obj} (h:KB w b2 b6 B sb mp m0 f o) (h1:b2 < B) (h2:b6 < B) (o':Obj):KB (w.putObj (B + 1 + 1 + 1) o') b2 b6 B sb mp m0 f o' :=
 ⟨(World.putObj_heap_other (by omega)).trans h.x2,(World.putObj_heap_other (by omega)).trans h.x6,(World.putObj_heap_other (by omega)).trans h.xf,(World.putObj_heap_other (by omega)).trans h.xm,(World.putObj_heap_other (by omega)).trans h.xd,World.putObj_heap_same (Array.getElem?_eq_some_iff.1 h.xl).1⟩
theorem KB.free {w:World} {b2 b6 B sb:Nat} {mp m0:Addr} {f:Nat} {o:Obj} (h:KB w b2 b6 B sb mp m0 f o) (h1:b2 < B) (h2:b6 < B) (f':Nat):KB (w.setCell ⟨B,0,none⟩ (.int .i64 (f':Int))) b2 b6 B sb mp m0 f' o :=
 ⟨(Below.heap_setCell _ _ _ _ (by show b2 ≠ B;omega)).trans h.x2,(Below.heap_setCell _ _ _ _ (by show b6 ≠ B;omega)).trans h.x6,by simp only [World.setCell,Array.getElem?_modify,h.xf];simp,(Below.heap_setCell _ _ _ _ (by show B + 1 ≠ B;omega)).trans h.xm,(Below.heap_setCell _ _ _ _ (by show B + 1 + 1 ≠ B;omega)).trans h.xd,(Below.heap_setCell _ _ _ _ (by show B + 1 + 1 + 1 ≠ B;omega)).trans h.xl⟩
structure KC (w:World) (b2 b sb:Nat) (m:Addr) (c:Nat) (o:Obj):Prop where
 x2:w.heap[b2]?=some (.cells #[.pointer (some ⟨sb,0,none⟩)] 34)
 xc:w.heap[b]?=some (.cells #[.int .i64 (c:Int)] 3)
 xm:w.heap[b + 1]?=some (.cells #[.pointer (some m)] 81)
 xd:w.heap[b + 1 + 1]?=some (.deferred (some []))
 xl:w.heap[b + 1 + 1 + 1]?=some o
theorem KC.kept {w w':World} {b2 b sb:Nat} {m:Addr} {c:Nat} {o:Obj} (h:KC w b2 b sb m c o) {lo hi:Nat} (ho:Only lo hi w w') (h1:hi ≤ b2) (h3:hi ≤ b):KC w' b2 b sb m c o:=by
 have l2:=(Array.getElem?_eq_some_iff.1 h.x2).1
 have lc:=(Array.getElem?_eq_some_iff.1 h.xc).1
 have lm:=(Array.getElem?_eq_some_iff.1 h.xm).1
 have ld:=(Array.getElem?_eq_some_iff.1 h.xd).1
 have ll:=(Array.getElem?_eq_some_iff.1 h.xl).1
 exact ⟨(ho.block _ l2 (.inr h1)).trans h.x2,(ho.block _ lc (.inr h3)).trans h.xc,(ho.block _ lm (.inr (by omega))).trans h.xm,(ho.block _ ld (.inr (by omega))).trans h.xd,(ho.block _ ll (.inr (by omega))).trans h.xl⟩
theorem KC.put {w:World} {b2 b sb:Nat} {m:Addr} {c:Nat} {o:Obj} (h:KC w b2 b sb m c o) (h1:b2 < b) (o':Obj):KC (w.putObj (b + 1 + 1 + 1) o') b2 b sb m c o' :=
 ⟨(World.putObj_heap_other (by omega)).trans h.x2,(World.putObj_heap_other (by omega)).trans h.xc,(World.putObj_heap_other (by omega)).trans h.xm,(World.putObj_heap_other (by omega)).trans h.xd,World.putObj_heap_same (Array.getElem?_eq_some_iff.1 h.xl).1⟩
theorem St.linkTo_n (s:St) (c a:Nat):(s.linkTo c a).n=s.n:=by obtain ⟨W,h⟩:=St.linkTo_form s c a;rw [h];rfl
theorem St.linkTo_B (s:St) (c a:Nat):(s.linkTo c a).B=s.B:=by obtain ⟨W,h⟩:=St.linkTo_form s c a;rw [h];rfl
theorem St.linkTo_link (s:St) (c a d:Nat) (x:Int):(s.linkTo c a).link d x=s.link d x:=by obtain ⟨W,h⟩:=St.linkTo_form s c a;rw [h];rfl
set_option maxRecDepth 100000 in
theorem index_maps (m:Nat → Addr) (c:Nat) (hc:c < 8) (w:World) :
 (Instr.index 82 (.agg #[.pointer (some (m 1)),.pointer (some (m 2)),.pointer (some (m 3)),.pointer (some (m 4)),.pointer (some (m 5)),.pointer (some (m 6)),.pointer (some (m 7)),.pointer (some (m 8))]) (.int .i64 (c:Int))).run Tryz.prog w=.ok (.pointer (some (m (c + 1)))) w:=by
 have h:c=0 ∨ c=1 ∨ c=2 ∨ c=3 ∨ c=4 ∨ c=5 ∨ c=6 ∨ c=7:=by omega
 rcases h with rfl | rfl | rfl | rfl | rfl | rfl | rfl | rfl <;> rfl
set_option maxRecDepth 100000 in
set_option maxHeartbeats 12800000 in
theorem keep_ok (w:World) (L:Lay) (s:St) (h:SpaceAt w L s) (v:Value) (zs:List Int) (hz:IntsAt w v zs) (hh:∀ j,j < zs.length → s.has (zs.getD j 0)=true) (hf:s.Fine)
 (hdr:∀ a,a < 64 * s.n → (s.dropTo (stayTo zs zs.length) a).B 0 a=true → stayTo zs zs.length a=false → (s.dropTo (stayTo zs zs.length) a).DropOk a)
 (htd:∀ p,p < s.n → (((s.dropTo (stayTo zs zs.length) (64 * s.n)).reset 8).tidyTo p).TidyOk p) (Q:Ending → World → Prop)
 (hQ:∀ w',SpaceAt w' L (s.keep (stayTo zs zs.length)) → Only L.lo L.hi w w' → Q (.returned (.tuple #[.int .i64 (s.dropN (stayTo zs zs.length) (64 * s.n):Nat),.int .i64 0])) w') :
 Calls Tryz.prog 122 #[.pointer (some ⟨L.sb,0,none⟩),v] w Q:=by
 have HQ:=Lib.hid hQ
 have HH:=Lib.hid hh
 have HF:=Lib.hid hf
 have HDR:=Lib.hid hdr
 have HTD:=Lib.hid htd
 have HZ:=Lib.hid hz
 have hn2:=h.n2
 obtain ⟨N,hN⟩:∃ N,64 * s.n=N:=⟨_,rfl⟩
 have HN:=Lib.hid hN
 have HNW:=Lib.hid (fun w => new_yes N w (by omega))
 have H0:=Lib.hid h
 have hc0:=h.c0N hN
 have hlt:=h.sblt
 have hlen:Hid (zs.length ≤ 140737488355328):=by
  rcases hz with ⟨_,rfl⟩ | ⟨_,_,_,_,h1,_⟩
  ·exact Lib.hid (by simp)
  ·exact Lib.hid h1
 refine (callsIn_wide (n:=9)).1 ?_
 clear hQ hh hf hdr htd hz h hN hn2
 refine callsIn_of_wp_marks Tryz.func122 rfl trivial ?_ rfl
 simp only [Tryz.ntmps122,List.size_toArray,List.length_cons,List.length_nil,Nat.reduceAdd,Nat.reduceSub,Array.replicate_succ,Array.replicate_zero,List.push_toArray,List.append_toArray,List.nil_append,List.cons_append]
 refine wpIn_wide.2 ?_
 go_wp2_with fail
 have hB0:=heap_alloc_new w (.cells #[.pointer (some ⟨L.sb,0,none⟩)] 34)
 have H1:=Lib.hid (H0.out.alloc (.cells #[.pointer (some ⟨L.sb,0,none⟩)] 34))
 have hs1:Still w (w.alloc (.cells #[.pointer (some ⟨L.sb,0,none⟩)] 34)):=(Only.refl _ _ w).alloc _
 generalize w.alloc (.cells #[.pointer (some ⟨L.sb,0,none⟩)] 34)=w1 at *
 refine (HNW.out w1).mono ?_
 rintro e w2 ⟨mp,rfl,hm,hs2⟩
 have hB2:w2.heap[w.heap.size]?=some (.cells #[.pointer (some ⟨L.sb,0,none⟩)] 34):=by rw [hs2.block _ (Array.getElem?_eq_some_iff.1 hB0).1 (.inl (Array.getElem?_eq_some_iff.1 hB0).1)];exact hB0
 have hl2:=(Array.getElem?_eq_some_iff.1 hB2).1
 have HM:=Lib.hid hm
 have HS2:=Lib.hid (Still.trans hs1 hs2)
 have H2:=Lib.hid (H1.out.still hs2)
 have hB0':=hB0
 clear hB0 hs1 hm hs2 H1
 trace "A"
 obtain ⟨len,cap,ao,hv⟩:∃ len cap ao,v=.slice ao len cap:=by
  rcases HZ.out with ⟨rfl,_⟩ | ⟨b,o,cap,rfl,_⟩
  ·exact ⟨0,0,none,rfl⟩
  ·exact ⟨_,_,_,rfl⟩
 have hlz:len=zs.length:=by
  rcases HZ.out with ⟨e,rfl⟩ | ⟨b,o,cap',e,_⟩
  ·rw [hv] at e;injection e
  ·rw [hv] at e;injection e
 subst hv
 go_wp2_with fail
 have hB6:=heap_alloc_new w2 (.cells #[.pointer (some mp)] 81)
 have hB3:(w2.alloc (.cells #[.pointer (some mp)] 81)).heap[w.heap.size]?=some (.cells #[.pointer (some ⟨L.sb,0,none⟩)] 34):=by rw [Below.heap_alloc _ _ _ hl2];exact hB2
 have H3:=Lib.hid (H2.out.alloc (.cells #[.pointer (some mp)] 81))
 have HS3:=Lib.hid (HS2.out.alloc (.cells #[.pointer (some mp)] 81))
 have HM3:=Lib.hid (HM.out.still ((Only.refl _ _ w2).alloc (.cells #[.pointer (some mp)] 81)))
 have HLO:Hid (L.hi ≤ w.heap.size ∧ w.heap.size < w1.heap.size ∧ w1.heap.size < w2.heap.size):=Lib.hid ⟨H0.out.top,(Array.getElem?_eq_some_iff.1 hB0').1,HM.out.bounds.1⟩
 have HMH:Hid (w2.heap.size < (w2.alloc (.cells #[.pointer (some mp)] 81)).heap.size):=Lib.hid (by simp)
 generalize w2.alloc (.cells #[.pointer (some mp)] 81)=w3 at *
 clear hB2 hl2 H2 HS2 HM hB0'
 generalize w2.heap.size=b6 at *
 generalize w1.heap.size=mlo at *
 have HBX:=Lib.hid (And.intro hB3 hB6)
 have HLEN:=Lib.hid hlen.out
 have hlenI:(zs.length:Int) ≤ 140737488355328:=by have:=hlen.out;omega
 go_loopw [28] (fun y wr => ∃ j:Nat,y=.int .i64 (j:Int) ∧ j ≤ zs.length ∧ IsMap wr mlo b6 mp N (stayTo zs j) ∧ Only mlo b6 w3 wr) (fun y _ => zs.length + 1 - (intOf y).toNat)
 case atStart => exact ⟨0,rfl,Nat.zero_le _,HM3.out,Only.refl _ _ _⟩
 case round =>
  obtain ⟨j,rfl,hj,hmj,hoj⟩:=hrel
  have HMJ:=Lib.hid hmj;have HOJ:=Lib.hid hoj
  have hj0:(0:Int) ≤ (j:Int):=by omega
  obtain ⟨hl1,hl2,hl3⟩:=HLO.out
  have HSJ:=Lib.hid (H3.out.kept hoj (.inl (by omega)) (by omega))
  have hb2:wr.heap[w.heap.size]?=some (.cells #[.pointer (some ⟨L.sb,0,none⟩)] 34):=by rw [hoj.block _ (by have:=HMH.out;omega) (.inl hl2)];exact HBX.out.1
  have hb6:wr.heap[b6]?=some (.cells #[.pointer (some mp)] 81):=by rw [hoj.block _ HMH.out (.inr (Nat.le_refl _))];exact HBX.out.2
  have hx2:=cell_of (v:=.pointer (some ⟨L.sb,0,none⟩)) hb2 0 rfl
  have hx6:=cell_of (v:=.pointer (some mp)) hb6 0 rfl
  have hq2:=(Array.getElem?_eq_some_iff.1 hb2).1
  have hq6:=(Array.getElem?_eq_some_iff.1 hb6).1
  by_cases hlt:j < zs.length
  ·have hjI:(j:Int) < (zs.length:Int):=by omega
   have hel:∃ b o,ao=some ⟨b,o,none⟩ ∧ wr.cell? ⟨b,o + j,none⟩=some (.int .i64 (zs.getD j 0)):=by
    rcases HZ.out with ⟨_,rfl⟩ | ⟨b,o,cap',e,_,hc⟩
    ·simp at hlt
    ·injection e with e1 _ _
     have hcj:=hc j hlt
     have hbl:b < w.heap.size:=World.block_lt_of_cell? w _ hcj
     refine ⟨b,o,e1,?_⟩
     have c1:w3.cell? ⟨b,o + j,none⟩=w.cell? ⟨b,o + j,none⟩:=HS3.out.cell hbl (.inl hbl)
     have c2:wr.cell? ⟨b,o + j,none⟩=w3.cell? ⟨b,o + j,none⟩:=hoj.cell (p:=⟨b,o + j,none⟩) (Nat.lt_of_lt_of_le hbl HS3.out.size) (.inl (by show b < mlo;omega))
     exact c2.trans (c1.trans hcj)
   obtain ⟨b,o,rfl,hcj⟩:=hel
   have hhas:=HH.out j hlt
   have hfine:=HF.out _ hhas
   obtain ⟨x,hx⟩:∃ x,zs.getD j 0=x:=⟨_,rfl⟩
   have HST:Hid (stayTo zs (j + 1)=setS (stayTo zs j) x.toNat true):=Lib.hid (by rw [← hx];rfl)
   rw [hx] at hcj hhas hfine
   obtain ⟨xn,rfl⟩:=Int.eq_ofNat_of_zero_le hfine.1
   rw [Int.toNat_natCast] at HST
   have hxN:xn < N:=by have:=hfine.2.1;have:=HN.out;omega
   have HXN:=Lib.hid hxN
   have HHS:=Lib.hid hhas
   have hc2:=HSJ.out.c2
   have hls:=HSJ.out.sblt
   clear hmj hoj hb2 hb6 hx hhas hfine hxN hl1 hl2 hl3
   go_wp2_with fail
   refine (HSJ.out.get (xn:Int) HHS.out).mono ?_
   rintro e w4 ⟨rfl,rfl⟩
   go_wp2_with fail
   refine (set_yes mlo b6 N mp (stayTo zs j) (xn:Int) _ HMJ.out (by omega) (by have:=HXN.out;omega)).mono ?_
   rintro e w4 ⟨rfl,hm4,ho4⟩
   rw [rangeS_one,← HST.out] at hm4
   have HM4:=Lib.hid hm4;have HO4:=Lib.hid (HOJ.out.trans ho4)
   clear hm4 ho4
   go_wp2
   go_roundw
   case rel => exact ⟨j + 1,by go_num,hlt,HM4.out,HO4.out⟩
   case measure => simp [intOf];omega
  ·obtain rfl:j=zs.length:=by omega
   have hc2:=HSJ.out.c2
   have hls:=HSJ.out.sblt
   have HSW:Hid (Still w wr):=Lib.hid (HS3.out.trans' hoj (.inr (by omega)) (.inr (by omega)))
   clear hmj hoj
   go_wp2_with fail
   have hbA:=heap_alloc_new wr (.cells #[.int .i64 0] 3)
   have hbB:=heap_alloc_new (wr.alloc (.cells #[.int .i64 0] 3)) (.cells #[.pointer (some (L.m 0))] 81)
   rw [World.size_alloc] at hbB
   refine (all_any _ _).mono ?_
   rintro e w5 ⟨rfl,rfl⟩
   go_wp2_with fail
   have hW5:Still wr ((wr.alloc (.cells #[.int .i64 0] 3)).alloc (.cells #[.pointer (some (L.m 0))] 81)):=((Only.refl _ _ wr).alloc _).alloc _
   have hsz5:((wr.alloc (.cells #[.int .i64 0] 3)).alloc (.cells #[.pointer (some (L.m 0))] 81)).heap.size=wr.heap.size + 1 + 1:=by simp
   have hbA5:((wr.alloc (.cells #[.int .i64 0] 3)).alloc (.cells #[.pointer (some (L.m 0))] 81)).heap[wr.heap.size]?=some (.cells #[.int .i64 ((0:Nat):Int)] 3):=by rw [Below.heap_alloc _ _ _ (by simp)];exact hbA
   have hb25:=(hW5.block _ hq2 (.inl hq2)).trans hb2
   have hb65:=(hW5.block _ hq6 (.inl hq6)).trans hb6
   have HS5:=Lib.hid (HSJ.out.still hW5)
   have HM5:=Lib.hid (HMJ.out.still hW5)
   have HW5:=Lib.hid (Still.trans HSW.out hW5)
   have HQ26:Hid (w.heap.size < wr.heap.size ∧ b6 < wr.heap.size):=Lib.hid ⟨hq2,hq6⟩
   generalize (wr.alloc (.cells #[.int .i64 0] 3)).alloc (.cells #[.pointer (some (L.m 0))] 81)=w5 at *
   clear hbA hW5 hq2 hq6 hb2 hb6 hx2 hx6 hc2 hls HSJ HMJ HOJ HSW hB3 hB6 HBX H3 HM3 hc0
   generalize hB:wr.heap.size=B at *
   clear hB
   obtain ⟨stay,hstay⟩:∃ stay,stayTo zs zs.length=stay:=⟨_,rfl⟩
   rw [hstay] at HM5 HQ HDR HTD
   clear hstay
   have HSZ:=Lib.hid hsz5
   refine (wpIn_wide (n:=9)).1 ?_
   refine wpIn_range (gf:=124) (lb:=#[.pointer (some ⟨B + 1,0,none⟩)]) rfl (enters_of Tryz.func124 (by kernel_rfl) rfl) ?_
   intro r ht hps has hbd W1 hW1
   have HRT:=Lib.hid ht;have HRP:=Lib.hid hps;have HRA:=Lib.hid has;have HRB:=Lib.hid hbd
   clear ht hps has hbd
   rw [HSZ.out]
   have hO1:Still w5 W1:=by rw [hW1];exact ((Only.refl _ _ w5).alloc _).alloc _
   have hkb:KB W1 w.heap.size b6 B L.sb mp (L.m 0) 0 (r.at .ready none):=by
    have hx:∀ k,k < w5.heap.size → W1.heap[k]?=w5.heap[k]?:=fun k hk => hO1.block k hk (.inl hk)
    have hsz:=HSZ.out
    have h26:=HQ26.out
    refine ⟨(hx _ (by omega)).trans hb25,(hx _ (by omega)).trans hb65,(hx _ (by omega)).trans hbA5,(hx _ (by omega)).trans hbB,?_,?_⟩
    ·rw [hW1,Below.heap_alloc _ _ _ (by simp [hsz]),← hsz]
     exact World.alloc_heap_new w5 _
    ·rw [hW1]
     have:=World.alloc_heap_new (w5.alloc (.deferred (some []))) (r.at .ready none)
     rw [World.size_alloc,hsz] at this
     exact this
   have HKB:=Lib.hid hkb
   have HS1:=Lib.hid (HS5.out.still hO1)
   have HM1:=Lib.hid (HM5.out.still hO1)
   have HO1:=Lib.hid ((Still.trans HW5.out hO1).any L.lo L.hi)
   clear hkb hO1 hW1 hbA5 hb25 hb65 hbB hsz5 HS5 HM5 HW5
   refine (iter_in (9 - 1) (B + 1 + 1 + 1)
    (fun a S wx => a ≤ N ∧ S=(s.dropTo stay a).B 0 ∧ SpaceAt wx L (s.dropTo stay a) ∧ IsMap wx mlo b6 mp N stay ∧ KB wx w.heap.size b6 B L.sb mp (L.m 0) (s.dropN stay a) (r.at .ready none) ∧ Only L.lo L.hi w wx)
    (fun wx => SpaceAt wx L (s.dropTo stay N) ∧ KB wx w.heap.size b6 B L.sb mp (L.m 0) (s.dropN stay N) (r.at .ready none) ∧ Only L.lo L.hi w wx)
    (L.ma 0) (L.mb 0) N (B + 1) (L.m 0) ?hmap ?hyield ?hdrew ?hend (s.B 0) W1 ⟨Nat.zero_le _,rfl,HS1.out,HM1.out,HKB.out,HO1.out⟩).mono ?_
   case hmap =>
    rintro a S wx ⟨ha,rfl,h1,h2,h3,h4⟩
    have:=h1.maps 0 (by omega)
    rw [St.dropTo_n,HN.out] at this
    exact ⟨this,h1.tab,cell_of h3.xm 0 rfl⟩
   case hdrew =>
    rintro a S wx m ⟨ha,rfl,h1,h2,h3,h4⟩
    exact ⟨ha,rfl,h1.drewN m,h2.drewN m,⟨h3.x2,h3.x6,h3.xf,h3.xm,h3.xd,h3.xl⟩,h4.drewN m⟩
   case hend =>
    rintro a S wx ⟨ha,rfl,h1,h2,h3,h4⟩ he
    obtain ⟨d,rfl⟩:=Nat.exists_eq_add_of_le ha
    have hg:∀ j,a ≤ j → j < a + d → (s.dropTo stay a).B 0 j=false:=by
     rcases Bm.next_spec ((s.dropTo stay a).B 0) (a + d) (a:Int) with ⟨_,hf⟩ | ⟨i,hi,_⟩
     ·exact fun j hj hj2 => hf j (by omega) hj2
     ·rw [he] at hi;omega
    obtain ⟨e1,e2⟩:=St.dropTo_gap s stay a d hg
    rw [e1,e2]
    exact ⟨h1,h3,h4⟩
   case hyield =>
    rintro a S wx i ⟨ha,rfl,h1,h2,h3,h4⟩ hn hai hiN
    have hset:(s.dropTo stay a).B 0 i=true ∧ ∀ j,a ≤ j → j < i → (s.dropTo stay a).B 0 j=false:=by
     rcases Bm.next_spec ((s.dropTo stay a).B 0) N (a:Int) with ⟨e,_⟩ | ⟨i',e,_,_,hi',hg'⟩
     ·rw [hn] at e;omega
     ·rw [hn] at e
      obtain rfl:i=i':=by omega
      exact ⟨hi',fun j hj hj2 => hg' j (by omega) hj2⟩
    obtain ⟨d,rfl⟩:=Nat.exists_eq_add_of_le hai
    obtain ⟨e1,e2⟩:=St.dropTo_gap s stay a d hset.2
    have hset1:=hset.1
    rw [← e1] at hset1 h1
    rw [← e2] at h3
    obtain ⟨hq2,hq6⟩:=HQ26.out
    have hkb:=h3.put hq2 hq6 (r.at .busy none)
    refine yield_at r h3.xl (by rw [HRP.out];rfl) ?_
    rw [HRA.out,HRT.out,HRP.out]
    clear hset e1 e2 hn hai ha
    generalize a + d=i at *
    have h3l:=h3.xl
    gi_wp2
    rw [HRB.out]
    have hl3:B + 1 + 1 + 1 < wx.heap.size:=(Array.getElem?_eq_some_iff.1 h3.xl).1
    have hLO:=HLO.out
    have ho5:Only (B + 1 + 1 + 1) (B + 1 + 1 + 1 + 1) wx (wx.putObj (B + 1 + 1 + 1) (r.at .busy none)):=only_put _
    have hLh:L.hi ≤ B:=by omega
    have HS5:=Lib.hid (h1.kept ho5 (.inl (by omega)) (by have:=h1.ok.lo0;have:=h1.ok.inn 0 (by omega);omega))
    have HM5:=Lib.hid (h2.kept ho5 (.inl (by omega)))
    have HO5:Hid (Only L.lo L.hi w (wx.putObj (B + 1 + 1 + 1) (r.at .busy none))):=Lib.hid (h4.trans' ho5 (.inr (by omega)) (.inr (by omega)))
    have HK5:=Lib.hid hkb
    generalize wx.putObj (B + 1 + 1 + 1) (r.at .busy none)=w5 at *
    have HSET:=Lib.hid hset1
    have HIN:=Lib.hid hiN
    clear hkb ho5 hl3 h3l h1 h2 h3 h4 hset1 hiN
    have hx2:=cell_of (v:=.pointer (some ⟨L.sb,0,none⟩)) HK5.out.x2 0 rfl
    have hx6:=cell_of (v:=.pointer (some mp)) HK5.out.x6 0 rfl
    have hxf:=cell_of (v:=.int .i64 (s.dropN stay i:Int)) HK5.out.xf 0 rfl
    have hlx2:=(Array.getElem?_eq_some_iff.1 HK5.out.x2).1
    have hlx6:=(Array.getElem?_eq_some_iff.1 HK5.out.x6).1
    have hlxf:=(Array.getElem?_eq_some_iff.1 HK5.out.xf).1
    have hi0:(0:Int) ≤ (i:Int):=by omega
    have hiI:(i:Int) < 262144:=by have:=HIN.out;have:=HN.out;have:=H0.out.n2;omega
    gi_wp2_with fail
    refine ⟨trivial,(CallsIn.inRound _ (callsIn_wide.2 (get_any mlo b6 N mp stay (i:Int) w5 HM5.out (stay i) (by rw [decide_eq_true hi0,Int.toNat_natCast];rfl)))).mono ?_⟩
    rintro e w6 ⟨rfl,rfl⟩
    by_cases hst:stay i=true
    ·have HST:=Lib.hid hst
     rw [hst]
     gi_wp2_with fail
     have e1:s.dropTo stay (i + 1)=s.dropTo stay i:=by
      show (if (s.dropTo stay i).B 0 i && !stay i then _ else _)=_
      rw [HST.out];simp
     have e2:s.dropN stay (i + 1)=s.dropN stay i:=by
      show (if (s.dropTo stay i).B 0 i && !stay i then _ else _)=_
      rw [HST.out];simp
     obtain ⟨hq2,hq6⟩:=HQ26.out
     have hLO:=HLO.out
     have hLh:L.hi ≤ B:=by omega
     refine ⟨HK5.out.xl,.inl ⟨rfl,HIN.out,?_,?_,?_,?_⟩⟩
     ·rw [e1]
      exact HS5.out.kept (only_put (r.at .ready none)) (.inl (by omega)) (by have:=HS5.out.ok.lo0;have:=HS5.out.ok.inn 0 (by omega);omega)
     ·exact HM5.out.kept (only_put (r.at .ready none)) (.inl (by omega))
     ·rw [e2];exact HK5.out.put hq2 hq6 _
     ·exact HO5.out.trans' (only_put (r.at .ready none)) (.inr (by omega)) (.inr (by omega))
    ·have hst:stay i=false:=by simpa using hst
     have HST:=Lib.hid hst
     have HDOK:=Lib.hid (HDR.out i (by rw [HN.out];exact HIN.out) HSET.out hst)
     have e1:s.dropTo stay (i + 1)=(s.dropTo stay i).drop i:=by
      show (if (s.dropTo stay i).B 0 i && !stay i then _ else _)=_
      rw [HST.out,HSET.out];simp
     have e2:s.dropN stay (i + 1)=s.dropN stay i + 1:=by
      show (if (s.dropTo stay i).B 0 i && !stay i then _ else _)=_
      rw [HST.out,HSET.out];simp
     have HE1:=Lib.hid e1
     have HE2:=Lib.hid e2
     have HFN:=Lib.hid (St.dropN_le s stay i)
     rw [hst]
     clear e1 e2 hst
     gi_wp2_with fail
     refine ⟨trivial,(CallsIn.inRound _ (callsIn_wide.2 (drop_any w5 L _ HS5.out i (by rw [St.dropTo_n,HN.out];exact HIN.out) HDOK.out.1 HDOK.out.2.1 HDOK.out.2.2
      (fun e w' => e=.returned (.tuple #[]) ∧ SpaceAt w' L (s.dropTo stay (i + 1)) ∧ Only L.lo L.hi w5 w')
      (fun w' h1 h2 => ⟨rfl,by rw [HE1.out];exact h1,h2⟩)))).mono ?_⟩
     rintro e w6 ⟨rfl,h6,ho6⟩
     obtain ⟨hq2,hq6⟩:=HQ26.out
     have hLO:=HLO.out
     have hLh:L.hi ≤ B:=by omega
     have HS6:=Lib.hid h6
     have HK6:=Lib.hid (HK5.out.kept ho6 (by omega) (by omega) hLh)
     have HO6:=Lib.hid (HO5.out.trans ho6)
     have HM6:=Lib.hid (HM5.out.kept ho6 (.inr (by omega)))
     clear h6 ho6 hx2 hx6 hxf hlx2 hlx6 hlxf HK5 HO5 HM5 HS5
     generalize s.dropN stay i=f at *
     have hfI:(f:Int) ≤ 262144:=by have:=HFN.out;omega
     have hf0:(0:Int) ≤ (f:Int):=by omega
     have hxf:=cell_of (v:=.int .i64 (f:Int)) HK6.out.xf 0 rfl
     have hlxf:=(Array.getElem?_eq_some_iff.1 HK6.out.xf).1
     have hwr:IntKind.i64.wrap ((f:Int) + 1)=(f:Int) + 1:=by rw [IntKind.wrap_i64];omega
     clear hq2 hq6 hLO hLh
     have hfr:=frozen_of HK6.out.xf 0
     gi_wp2_with fail
     obtain ⟨hq2,hq6⟩:=HQ26.out
     have hLO:=HLO.out
     have hLh:L.hi ≤ B:=by omega
     have hlo:0 < L.lo ∨ True:=.inr trivial
     have ec:((f:Int) + 1)=((f + 1:Nat):Int):=by omega
     rw [ec]
     have hO7:Only B (B + 1 + 1 + 1 + 1) w6 ((w6.setCell ⟨B,0,none⟩ (.int .i64 ((f + 1:Nat):Int))).putObj (B + 1 + 1 + 1) (r.at .ready none)) :=
      ((only_cell w6 B 0 _).mono (Nat.le_refl _) (by omega)).trans ((only_put _).mono (by omega) (by omega))
     refine ⟨(HK6.out.free hq2 hq6 (f + 1)).xl,.inl ⟨rfl,HIN.out,?_,?_,?_,?_⟩⟩
     ·exact HS6.out.kept hO7 (.inl (by omega)) (by have:=HS6.out.ok.lo0;have:=HS6.out.ok.inn 0 (by omega);omega)
     ·exact HM6.out.kept hO7 (.inl (by omega))
     ·rw [HE2.out];exact (HK6.out.free hq2 hq6 (f + 1)).put hq2 hq6 _
     ·exact HO6.out.trans' hO7 (.inr (by omega)) (.inr (by omega))
   ·rintro e W2 ⟨hv,h1,h2,h3⟩
    refine ⟨hv,.inl ⟨h2.xl,?_⟩⟩
    obtain ⟨hq2,hq6⟩:=HQ26.out
    have hLO:=HLO.out
    have hLh:L.hi ≤ B:=by omega
    have hkb:=h2.put hq2 hq6 (r.at .exhausted none)
    have ho5:Only (B + 1 + 1 + 1) (B + 1 + 1 + 1 + 1) W2 (W2.putObj (B + 1 + 1 + 1) (r.at .exhausted none)):=only_put _
    have HS5:=Lib.hid (h1.kept ho5 (.inl (by omega)) (by have:=h1.ok.lo0;have:=h1.ok.inn 0 (by omega);omega))
    have HO5:Hid (Only L.lo L.hi w (W2.putObj (B + 1 + 1 + 1) (r.at .exhausted none))):=Lib.hid (h3.trans' ho5 (.inr (by omega)) (.inr (by omega)))
    have HK5:=Lib.hid hkb
    have HDN:=Lib.hid (St.dropN_le s stay N)
    rw [HN.out] at HQ HTD
    have hsn:=St.dropTo_n s stay N
    generalize W2.putObj (B + 1 + 1 + 1) (r.at .exhausted none)=w5 at *
    unfold St.keep at HQ
    rw [HN.out] at HQ
    generalize s.dropN stay N=f at *
    generalize s.dropTo stay N=s1 at *
    rw [← hsn] at HTD HN HQ
    clear hkb ho5 h1 h2 h3 hsn hq2 hq6 hLO hl1 hl2 hl3
    have HLH:=Lib.hid hLh
    clear hLh
    have hx2:=cell_of (v:=.pointer (some ⟨L.sb,0,none⟩)) HK5.out.x2 0 rfl
    have hlx2:=(Array.getElem?_eq_some_iff.1 HK5.out.x2).1
    go_wp2_with fail
    go_loopw [58] (fun y wr => ∃ i:Nat,y=.int .i64 (i:Int) ∧ i ≤ 8 ∧ SpaceAt wr L (s1.reset i) ∧ Only L.lo L.hi w5 wr) (fun y _ => 9 - (intOf y).toNat)
    case atStart => exact ⟨0,rfl,by omega,by rw [St.reset_zero];exact HS5.out,Only.refl _ _ _⟩
    case round =>
     obtain ⟨i,rfl,hi,h1,h2⟩:=hrel
     have hb2:wr.heap[w.heap.size]?=some (.cells #[.pointer (some ⟨L.sb,0,none⟩)] 34):=(h2.block _ hlx2 (.inr H0.out.top)).trans HK5.out.x2
     have hlb2:=(Array.getElem?_eq_some_iff.1 hb2).1
     have hx2:=cell_of (v:=.pointer (some ⟨L.sb,0,none⟩)) hb2 0 rfl
     have HB2:=Lib.hid hb2
     have H1:=Lib.hid h1
     have H2:=Lib.hid h2
     have hi0:(0:Int) ≤ (i:Int):=by omega
     clear hb2 h2 h1
     by_cases hlt:i < 8
     ·have hi8:(i:Int) < 8:=by omega
      have hc3:=H1.out.c3 i hlt
      have hls:=H1.out.sblt
      go_wp2_with fail
      refine (reset_any _ _ _ _ _ _ (H1.out.maps (i + 1) (by omega))).mono ?_
      rintro e w7 ⟨rfl,hm,ho⟩
      have h7:=H1.out.updB (i + 1) (by omega) ho hm
      have h7':SpaceAt w7 L (s1.reset (i + 1)):=by rw [← St.reset_succ];exact h7
      have HO7:=Lib.hid (H2.out.trans (H1.out.only (i + 1 + 5) (by omega) ho))
      have H7:=Lib.hid h7'
      clear h7 h7' ho hm
      go_wp2
      go_roundw
      case rel => exact ⟨i + 1,by go_num,hlt,H7.out,HO7.out⟩
      case measure => simp [intOf];omega
     ·obtain rfl:i=8:=by omega
      have H7:=H1
      have hc1:=H7.out.c1
      have hls:=H7.out.sblt
      obtain ⟨fr,htb⟩:=H7.out.table
      have HTBL:=Lib.hid (tlen_any _ _ _ _ _ _ _ _ _ _ htb)
      clear htb
      obtain ⟨s2,hs2⟩:∃ s2,s1.reset 8=s2:=⟨_,rfl⟩
      have hsn2:s2.n=s1.n:=by rw [← hs2];rfl
      have hsnI:(s1.n:Int) ≤ 4096:=by have:=H7.out.n2;rw [hs2,hsn2] at this;omega
      have hsn0:(0:Int) ≤ (s1.n:Int):=by omega
      rw [hs2,hsn2] at HTBL
      rw [hs2] at H7 HTD HQ
      clear H1 hs2
      go_wp2_with fail
      refine HTBL.out.mono ?_
      rintro e w7 ⟨rfl,rfl⟩
      go_wp2_with fail
      go_loopw [74] (fun y wx => ∃ i:Nat,y=.int .i64 (i:Int) ∧ i ≤ s1.n ∧ SpaceAt wx L (s2.tidyTo i) ∧ Only L.lo L.hi wr wx) (fun y _ => s1.n + 1 - (intOf y).toNat)
      case atStart => exact ⟨0,rfl,by omega,H7.out,Only.refl _ _ _⟩
      case round =>
       obtain ⟨i,rfl,hi,h1,h2⟩:=hrel
       have hO:=H2.out.trans h2
       have hb2:wr.heap[w.heap.size]?=some (.cells #[.pointer (some ⟨L.sb,0,none⟩)] 34):=(hO.block _ hlx2 (.inr H0.out.top)).trans HK5.out.x2
       have hlb2:=(Array.getElem?_eq_some_iff.1 hb2).1
       have hx2:=cell_of (v:=.pointer (some ⟨L.sb,0,none⟩)) hb2 0 rfl
       have HB2:=Lib.hid hb2
       have H1:=Lib.hid h1
       have H3:=Lib.hid h2
       have HO:=Lib.hid hO
       have hi0:(0:Int) ≤ (i:Int):=by omega
       clear hb2 h2 h1 hO
       by_cases hlt:i < s1.n
       ·have hiI:(i:Int) < (s1.n:Int):=by omega
        have HOK:=Lib.hid (HTD.out i hlt)
        go_wp2_with fail
        refine tidy_any wr L _ H1.out i (by rw [St.tidyTo_n,hsn2];exact hlt) HOK.out _ ?_
        intro w7 h7 ho7
        have H7:=Lib.hid h7
        have HO7:=Lib.hid (H3.out.trans ho7)
        clear h7 ho7
        go_wp2
        go_roundw
        case rel => exact ⟨i + 1,by go_num,hlt,H7.out,HO7.out⟩
        case measure => simp [intOf];omega
       ·obtain rfl:i=s1.n:=by omega
        obtain ⟨s3,hs3⟩:∃ s3,s2.tidyTo s1.n=s3:=⟨_,rfl⟩
        have hsn3:s3.n=s1.n:=by rw [← hs3,St.tidyTo_n,hsn2]
        rw [hs3] at HQ H1
        clear hs3 HTD
        have hls:=H1.out.sblt
        have e0:wr.cell? ⟨L.sb,3,none⟩=some (.pointer (some (L.m 1))):=H1.out.c3 0 (by omega)
        have e1:wr.cell? ⟨L.sb,4,none⟩=some (.pointer (some (L.m 2))):=H1.out.c3 1 (by omega)
        have e2:wr.cell? ⟨L.sb,5,none⟩=some (.pointer (some (L.m 3))):=H1.out.c3 2 (by omega)
        have e3:wr.cell? ⟨L.sb,6,none⟩=some (.pointer (some (L.m 4))):=H1.out.c3 3 (by omega)
        have e4:wr.cell? ⟨L.sb,7,none⟩=some (.pointer (some (L.m 5))):=H1.out.c3 4 (by omega)
        have e5:wr.cell? ⟨L.sb,8,none⟩=some (.pointer (some (L.m 6))):=H1.out.c3 5 (by omega)
        have e6:wr.cell? ⟨L.sb,9,none⟩=some (.pointer (some (L.m 7))):=H1.out.c3 6 (by omega)
        have e7:wr.cell? ⟨L.sb,10,none⟩=some (.pointer (some (L.m 8))):=H1.out.c3 7 (by omega)
        go_wp2_with fail
        have HKW:=Lib.hid (HK5.out.kept HO.out (Nat.le_trans H0.out.top (Nat.le_refl _)) (Nat.le_trans H0.out.top (Nat.le_of_lt (Nat.lt_trans HLO.out.2.1 HLO.out.2.2))) HLH.out)
        have HOW:=Lib.hid (HO5.out.trans HO.out)
        have hs0:SpaceAt wr L (s3.links 0):=H1.out
        have H1W:=Lib.hid hs0
        clear hs0 HK5 HO HO5 e0 e1 e2 e3 e4 e5 e6 e7 hx2 hlb2 HB2 H1 H3 H2 H7 HTBL HS5 hlx2
        have hlb2':=(Array.getElem?_eq_some_iff.1 HKW.out.x2).1
        refine wp_loop (fun a wx => ∃ (ds:List Nat) (c:Nat) (u14 u15 u16 u86 u87 u88 u89 u90 u91 u92 u93 u94 u95 u96 u97 u98 u99 u100 u101 u102:Value),(c ≤ 8 ∧ SpaceAt wx L (s3.links c) ∧ Only L.lo L.hi wr wx ∧ ds.Nodup ∧ (∀ D ∈ ds,B ≤ D ∧ D < wx.heap.size ∧ wx.heap[D]?=some (.deferred (some [])))) ∧ a=⟨#[Value.pointer (some ⟨L.sb,0,none⟩),Value.slice ao zs.length cap,Value.pointer (some ⟨w.heap.size,0,none⟩),undef,u4,u5,Value.pointer (some ⟨b6,0,none⟩),Value.int IntKind.i64 0,undef,u9,Value.pointer (some ⟨B,0,none⟩),undef,u12,u13,u14,u15,u16,Value.tuple #[Value.pointer (some mp),Value.int IntKind.i64 0],Value.pointer (some ⟨L.sb,0,none⟩),Value.pointer (some ⟨L.sb,0,none⟩),Value.pointer (some ⟨L.sb,0,none⟩),Value.slice (some ⟨L.wb,0,none⟩) N N,Value.int IntKind.i64 ↑N,Value.tuple #[Value.pointer (some mp),Value.int IntKind.i64 0],Value.pointer (some mp),Value.int IntKind.i64 0,Value.slice ao zs.length cap,Value.int IntKind.i64 ↑zs.length,Value.int IntKind.i64 ↑zs.length,Value.bool false,u30,u31,u32,u33,u34,u35,u36,u37,u38,u39,u40,u41,u42,Value.pointer (some ⟨L.sb,0,none⟩),Value.pointer (some ⟨L.sb,0,none⟩),Value.pointer (some ⟨L.sb,2,none⟩),Value.pointer (some (L.m 0)),Value.func (Fn.func 124) #[] #[Value.pointer (some ⟨B + 1,0,none⟩)],undef,undef,undef,undef,undef,undef,undef,undef,undef,undef,Value.int IntKind.i64 8,Value.bool false,u60,u61,u62,u63,u64,u65,u66,u67,u68,Value.pointer (some ⟨L.sb,0,none⟩),Value.pointer (some ⟨L.sb,0,none⟩),Value.pointer (some ⟨L.sb,1,none⟩),Value.pointer (some ⟨L.tb,0,none⟩),Value.int IntKind.i64 ↑s1.n,Value.int IntKind.i64 ↑s1.n,Value.bool false,u76,u77,u78,u79,u80,Value.pointer (some ⟨L.sb,0,none⟩),Value.pointer (some ⟨L.sb,0,none⟩),Value.pointer (some ⟨L.sb,3,none⟩),Value.agg #[Value.pointer (some (L.m 1)),Value.pointer (some (L.m 2)),Value.pointer (some (L.m 3)),Value.pointer (some (L.m 4)),Value.pointer (some (L.m 5)),Value.pointer (some (L.m 6)),Value.pointer (some (L.m 7)),Value.pointer (some (L.m 8))],Value.int IntKind.i64 (c:Int),u86,u87,u88,u89,u90,u91,u92,u93,u94,u95,u96,u97,u98,u99,u100,u101,u102,undef],ds.map markOf⟩) (fun a _ => 9 - (intOf (a.tmps.getD 85 undef)).toNat) ?_ ?_
        ·refine ⟨[B + 1 + 1],0,_,_,_,_,_,_,_,_,_,_,_,_,_,_,_,_,_,_,_,_,⟨by omega,H1W.out,Only.refl _ _ _,by simp,?_⟩,rfl⟩
         intro D hD
         have hD:D=B + 1 + 1:=by simpa using hD
         subst hD
         exact ⟨by omega,(Array.getElem?_eq_some_iff.1 HKW.out.xd).1,HKW.out.xd⟩
        ·rintro a wx ⟨ds,c,u14,u15,u16,u86,u87,u88,u89,u90,u91,u92,u93,u94,u95,u96,u97,u98,u99,u100,u101,u102,⟨hc,h1,h2,h3,h4⟩,rfl⟩
         have H1:=Lib.hid h1
         have H2:=Lib.hid h2
         have H3:=Lib.hid h3
         have H4:=Lib.hid h4
         have hc0:(0:Int) ≤ (c:Int):=by omega
         have hb2:wx.heap[w.heap.size]?=some (.cells #[.pointer (some ⟨L.sb,0,none⟩)] 34):=(h2.block _ hlb2' (.inr H0.out.top)).trans HKW.out.x2
         have HB2:=Lib.hid hb2
         have hx2:=cell_of (v:=.pointer (some ⟨L.sb,0,none⟩)) hb2 0 rfl
         have hlx2:=(Array.getElem?_eq_some_iff.1 hb2).1
         clear h1 h2 h3 h4 hb2
         by_cases hlt:c < 8
         ·have hc8:(c:Int) < 8:=by omega
          have hix:=fun w => index_maps L.m c hlt w
          go_wp2_with fail
          have hB0:=heap_alloc_new wx (.cells #[.int .i64 (c:Int)] 3)
          refine (all_any _ _).mono ?_
          rintro e w7 ⟨rfl,rfl⟩
          go_wp2_with fail
          obtain ⟨s4,hs4⟩:∃ s4,s3.links c=s4:=⟨_,rfl⟩
          have hn4:64 * s4.n=N:=by
           obtain ⟨W,hW⟩:=St.links_form s3 c
           rw [← hs4,hW]
           exact (congrArg (64 * ·) hsn3).trans HN.out
          have hlk:s3.links (c + 1)=s4.linkTo c N:=by
           rw [← hs4,← HN.out,← hsn3];rfl
          rw [hs4] at H1
          clear hs4
          have HLK:=Lib.hid hlk
          have HN4:=Lib.hid hn4
          have hW5:Still wx ((wx.alloc (.cells #[.int .i64 (c:Int)] 3)).alloc (.cells #[.pointer (some (L.m (c + 1)))] 81)):=((Only.refl _ _ wx).alloc _).alloc _
          have hsz5:((wx.alloc (.cells #[.int .i64 (c:Int)] 3)).alloc (.cells #[.pointer (some (L.m (c + 1)))] 81)).heap.size=wx.heap.size + 1 + 1:=by simp
          have hbA5:((wx.alloc (.cells #[.int .i64 (c:Int)] 3)).alloc (.cells #[.pointer (some (L.m (c + 1)))] 81)).heap[wx.heap.size]?=some (.cells #[.int .i64 (c:Int)] 3):=by rw [Below.heap_alloc _ _ _ (by simp)];exact hB0
          have hbB5:((wx.alloc (.cells #[.int .i64 (c:Int)] 3)).alloc (.cells #[.pointer (some (L.m (c + 1)))] 81)).heap[wx.heap.size + 1]?=some (.cells #[.pointer (some (L.m (c + 1)))] 81):=by
           have:=heap_alloc_new (wx.alloc (.cells #[.int .i64 (c:Int)] 3)) (.cells #[.pointer (some (L.m (c + 1)))] 81)
           rwa [World.size_alloc] at this
          have hb25:=(hW5.block _ hlx2 (.inl hlx2)).trans HB2.out
          have HS5:=Lib.hid (H1.out.still hW5)
          have HW5:=Lib.hid hW5
          generalize (wx.alloc (.cells #[.int .i64 (c:Int)] 3)).alloc (.cells #[.pointer (some (L.m (c + 1)))] 81)=w5 at *
          have HX26:=Lib.hid hlx2
          clear hW5 hB0 hx2 hlx2 hix hlk hn4
          have HSZ:=Lib.hid hsz5
          refine (wpIn_wide (n:=9)).1 ?_
          refine wpIn_range (gf:=124) (lb:=#[.pointer (some ⟨wx.heap.size + 1,0,none⟩)]) rfl (enters_of Tryz.func124 (by kernel_rfl) rfl) ?_
          clear HRT HRP HRA HRB HKB HO1 HM1 HS1
          intro r ht hps has hbd W1 hW1
          have HRT:=Lib.hid ht;have HRP:=Lib.hid hps;have HRA:=Lib.hid has;have HRB:=Lib.hid hbd
          clear ht hps has hbd
          rw [HSZ.out]
          have hO1:Still w5 W1:=by rw [hW1];exact ((Only.refl _ _ w5).alloc _).alloc _
          have hkc:KC W1 w.heap.size wx.heap.size L.sb (L.m (c + 1)) c (r.at .ready none):=by
           have hx:∀ k,k < w5.heap.size → W1.heap[k]?=w5.heap[k]?:=fun k hk => hO1.block k hk (.inl hk)
           have hsz:=HSZ.out
           have h26:=HX26.out
           refine ⟨(hx _ (by omega)).trans hb25,(hx _ (by omega)).trans hbA5,(hx _ (by omega)).trans hbB5,?_,?_⟩
           ·rw [hW1,Below.heap_alloc _ _ _ (by simp [hsz]),← hsz]
            exact World.alloc_heap_new w5 _
           ·rw [hW1]
            have:=World.alloc_heap_new (w5.alloc (.deferred (some []))) (r.at .ready none)
            rw [World.size_alloc,hsz] at this
            exact this
          have HKC:=Lib.hid hkc
          have HS1:=Lib.hid (HS5.out.still hO1)
          have HO1:=Lib.hid ((Still.trans HW5.out hO1).any L.lo L.hi)
          have HLX:Hid (L.hi ≤ wx.heap.size):=Lib.hid H1.out.top
          clear hkc hO1 hW1 hbA5 hb25 hbB5 hsz5 HS5 HW5
          refine (iter_in (9 - 1) (wx.heap.size + 1 + 1 + 1)
           (fun a S wy => a ≤ N ∧ S=s4.B (c + 1) ∧ SpaceAt wy L (s4.linkTo c a) ∧ KC wy w.heap.size wx.heap.size L.sb (L.m (c + 1)) c (r.at .ready none) ∧ Only L.lo L.hi wx wy)
           (fun wy => SpaceAt wy L (s4.linkTo c N) ∧ KC wy w.heap.size wx.heap.size L.sb (L.m (c + 1)) c (r.at .ready none) ∧ Only L.lo L.hi wx wy)
           (L.ma (c + 1)) (L.mb (c + 1)) N (wx.heap.size + 1) (L.m (c + 1)) ?hmap ?hyield ?hdrew ?hend (s4.B (c + 1)) W1 ⟨Nat.zero_le _,rfl,HS1.out,HKC.out,HO1.out⟩).mono ?_
          case hmap =>
           rintro a S wy ⟨ha,rfl,h1,h2,h3⟩
           have:=h1.maps (c + 1) (by omega)
           rw [St.linkTo_n,HN4.out,St.linkTo_B] at this
           exact ⟨this,h1.tab,cell_of h2.xm 0 rfl⟩
          case hdrew =>
           rintro a S wy m ⟨ha,rfl,h1,h2,h3⟩
           exact ⟨ha,rfl,h1.drewN m,⟨h2.x2,h2.xc,h2.xm,h2.xd,h2.xl⟩,h3.drewN m⟩
          case hend =>
           rintro a S wy ⟨ha,rfl,h1,h2,h3⟩ he
           obtain ⟨d,rfl⟩:=Nat.exists_eq_add_of_le ha
           have hg:∀ j,a ≤ j → j < a + d → s4.B (c + 1) j=false:=by
            rcases Bm.next_spec (s4.B (c + 1)) (a + d) (a:Int) with ⟨_,hf⟩ | ⟨i,hi,_⟩
            ·exact fun j hj hj2 => hf j (by omega) hj2
            ·rw [he] at hi;omega
           rw [St.linkTo_gap s4 c a d hg]
           exact ⟨h1,h2,h3⟩
          case hyield =>
           rintro a S wy i ⟨ha,rfl,h1,h2,h3⟩ hn hai hiN
           have hset:s4.B (c + 1) i=true ∧ ∀ j,a ≤ j → j < i → s4.B (c + 1) j=false:=by
            rcases Bm.next_spec (s4.B (c + 1)) N (a:Int) with ⟨e,_⟩ | ⟨i',e,_,_,hi',hg'⟩
            ·rw [hn] at e;omega
            ·rw [hn] at e
             obtain rfl:i=i':=by omega
             exact ⟨hi',fun j hj hj2 => hg' j (by omega) hj2⟩
           obtain ⟨d,rfl⟩:=Nat.exists_eq_add_of_le hai
           have e1:=St.linkTo_gap s4 c a d hset.2
           have hset1:=hset.1
           rw [← e1] at h1
           have hkc:=h2.put HX26.out (r.at .busy none)
           refine yield_at r h2.xl (by rw [HRP.out];rfl) ?_
           rw [HRA.out,HRT.out,HRP.out]
           clear hset e1 hn hai ha
           generalize a + d=i at *
           have h3l:=h2.xl
           gi_wp2
           rw [HRB.out]
           have ho5:Only (wx.heap.size + 1 + 1 + 1) (wx.heap.size + 1 + 1 + 1 + 1) wy (wy.putObj (wx.heap.size + 1 + 1 + 1) (r.at .busy none)):=only_put _
           have HS6:=Lib.hid (h1.kept ho5 (.inl (by have:=HLX.out;omega)) (by have:=h1.ok.lo0;have:=h1.ok.inn 0 (by omega);have:=HLX.out;omega))
           have HO6:Hid (Only L.lo L.hi wx (wy.putObj (wx.heap.size + 1 + 1 + 1) (r.at .busy none))):=Lib.hid (h3.trans' ho5 (.inr (by omega)) (.inr (by omega)))
           have HK6:=Lib.hid hkc
           have HSET:=Lib.hid hset1
           have HIN:=Lib.hid hiN
           clear hkc ho5 h3l h1 h2 h3 hset1 hiN
           generalize wy.putObj (wx.heap.size + 1 + 1 + 1) (r.at .busy none)=w6 at *
           have hx2:=cell_of (v:=.pointer (some ⟨L.sb,0,none⟩)) HK6.out.x2 0 rfl
           have hxc:=cell_of (v:=.int .i64 (c:Int)) HK6.out.xc 0 rfl
           have hlx2:=(Array.getElem?_eq_some_iff.1 HK6.out.x2).1
           have hlxc:=(Array.getElem?_eq_some_iff.1 HK6.out.xc).1
           have hi0:(0:Int) ≤ (i:Int):=by omega
           have hiN2:(i:Int) < (N:Int):=by have:=HIN.out;omega
           have hmx:Tryz.prog.follows .mixedOrders=true:=by kernel_rfl
           have HI64:Hid (i < 64 * (s4.linkTo c i).n):=Lib.hid (by rw [St.linkTo_n,HN4.out];exact HIN.out)
           have HTM:Hid ((i:Int) ≤ 262144):=Lib.hid (by have:=HIN.out;have:=HN.out;have:=H0.out.n2;have:=HS6.out.n2;rw [St.linkTo_n] at this;have:=HN4.out;omega)
           have hc0':w6.cell? ⟨L.sb,0,none⟩=some (.slice (some ⟨L.wb,0,none⟩) N N):=HS6.out.c0N (by rw [St.linkTo_n,HN4.out])
           have hcw:=HS6.out.words.cell i HI64.out
           have hfw:=HS6.out.words.frozen i
           have hls:=HS6.out.sblt
           have HLNK:=Lib.hid (fun m => slink_any (w6.drewN m) L _ (HS6.out.drewN m) c hlt (i:Int) (by omega) HTM.out)
           obtain ⟨x,hx⟩:∃ x,(s4.linkTo c i).link c i=x:=⟨_,rfl⟩
           rw [hx] at HLNK
           obtain ⟨y,hy⟩:∃ y,(s4.linkTo c i).W i=y:=⟨_,rfl⟩
           rw [hy] at hcw
           clear hy
           gi_wp2_with fail
           refine wpIn_region_round (fun w' => w'.cell? ⟨L.sb,0,none⟩=some (.slice (some ⟨L.wb,0,none⟩) N N) ∧ w'.cell? ⟨w.heap.size,0,none⟩=some (.pointer (some ⟨L.sb,0,none⟩)) ∧ w'.cell? ⟨wx.heap.size,0,none⟩=some (.int .i64 (c:Int)) ∧ L.sb < w'.heap.size) hmx (no_defer (by kernel_rfl)) ⟨hc0',hx2,hxc,hls⟩ (fun hHeld => ?_)
           refine wpAnyH_take (i:=0) (v:=.pointer (some ⟨L.sb,0,none⟩)) rfl (by kernel_rfl) (by kernel_rfl) (by kernel_rfl) onlyN_panic (Or.inl ⟨by rfl,(by intro w hSw;obtain ⟨hs0,hs2,hsc,hsl⟩:=hSw;go_simp)⟩) (by assumption) ?_
           simp only [Act.put,List.setIfInBounds_toArray]
           refine wpAnyH_take (i:=1) (v:=.pointer (some ⟨L.sb,0,none⟩)) rfl (by kernel_rfl) (by kernel_rfl) (by kernel_rfl) onlyN_panic (Or.inl ⟨by rfl,(by intro w hSw;obtain ⟨hs0,hs2,hsc,hsl⟩:=hSw;go_simp)⟩) (by assumption) ?_
           simp only [Act.put]
           refine wpAnyH_take (i:=2) (v:=.pointer (some ⟨L.sb,0,none⟩)) rfl (by kernel_rfl) (by kernel_rfl) (by kernel_rfl) onlyN_panic (Or.inl ⟨by rfl,(by intro w hSw;obtain ⟨hs0,hs2,hsc,hsl⟩:=hSw;go_simp)⟩) (by assumption) ?_
           simp only [Act.put]
           refine wpAnyH_take (i:=3) (v:=.slice (some ⟨L.wb,0,none⟩) N N) rfl (by kernel_rfl) (by kernel_rfl) (by kernel_rfl) onlyN_panic (Or.inl ⟨by rfl,(by intro w hSw;obtain ⟨hs0,hs2,hsc,hsl⟩:=hSw;go_simp)⟩) (by assumption) ?_
           simp only [Act.put]
           refine wpAnyH_take (i:=4) (v:=.int .i64 (i:Int)) rfl (by kernel_rfl) (by kernel_rfl) (by kernel_rfl) onlyN_panic (Or.inl ⟨by rfl,(by intro w hSw;obtain ⟨hs0,hs2,hsc,hsl⟩:=hSw;go_simp)⟩) (by assumption) ?_
           simp only [Act.put]
           refine wpAnyH_take (i:=5) (v:=.pointer (some ⟨L.sb,0,none⟩)) rfl (by kernel_rfl) (by kernel_rfl) (by kernel_rfl) onlyN_panic (Or.inl ⟨by rfl,(by intro w hSw;obtain ⟨hs0,hs2,hsc,hsl⟩:=hSw;go_simp)⟩) (by assumption) ?_
           simp only [Act.put]
           refine wpAnyH_take (i:=6) (v:=.int .i64 (c:Int)) rfl (by kernel_rfl) (by kernel_rfl) (by kernel_rfl) onlyN_panic (Or.inl ⟨by rfl,(by intro w hSw;obtain ⟨hs0,hs2,hsc,hsl⟩:=hSw;go_simp)⟩) (by assumption) ?_
           simp only [Act.put]
           refine wpAnyH_take (i:=7) (v:=.int .i64 (i:Int)) rfl (by kernel_rfl) (by kernel_rfl) (by kernel_rfl) onlyN_panic (Or.inl ⟨by rfl,(by intro w hSw;obtain ⟨hs0,hs2,hsc,hsl⟩:=hSw;go_simp)⟩) (by assumption) ?_
           simp only [Act.put]
           refine wpAnyH_ready (rs:=[8]) (by kernel_rfl) (by simp) ?_
           refine AllReadyH.cons rfl (fun K hK => ?_) AllReadyH.nil
           go_simp
           refine (HLNK.out 1).mono ?_
           rintro e w7 ⟨rfl,m',rfl⟩
           refine hK.out _ _ hHeld (fun hHeld2 => ?_)
           clear hK K hHeld
           try simp only [Act.put,List.setIfInBounds_toArray,List.set_cons_zero,List.set_cons_succ]
           refine wpAnyH_take (i:=9) (v:=.pointer (some ⟨L.wb,i,none⟩)) rfl (by kernel_rfl) (by kernel_rfl) (by kernel_rfl) onlyN_panic (Or.inl ⟨by rfl,(by intro w hSw;obtain ⟨hs0,hs2,hsc,hsl⟩:=hSw;go_simp)⟩) (by assumption) ?_
           simp only [Act.put,List.setIfInBounds_toArray]
           refine wpAnyH_ready (rs:=[10]) (by kernel_rfl) (by simp) ?_
           refine AllReadyH.cons rfl (fun K hK => ?_) AllReadyH.nil
           have hdw:((w6.drewN 1).drewN m').cell? ⟨L.wb,i,none⟩=some (.int .i64 y):=hcw
           have hdf:((w6.drewN 1).drewN m').frozen? ⟨L.wb,i,none⟩=false:=hfw
           have hO7:Only L.wb (L.wb + 1) w6 (((w6.drewN 1).drewN m').setCell ⟨L.wb,i,none⟩ (.int .i64 x)):=(((Only.refl L.wb (L.wb + 1) w6).drewN 1).drewN m').trans (only_cell ((w6.drewN 1).drewN m') L.wb i (.int .i64 x))
           have H7:=((HS6.out.drewN 1).drewN m').setWord i x
           have hwh:L.wb + 1 ≤ L.hi:=by have:=HS6.out.ok.inn 1 (by omega);simp only [Lay.a,Lay.b] at this;omega
           have hwl:L.lo ≤ L.wb:=by have:=HS6.out.ok.inn 1 (by omega);simp only [Lay.a,Lay.b] at this;omega
           go_simp
           have hne:L.sb ≠ L.wb:=by have:=HS6.out.ok.out 0 1 (by omega) (by omega) (by omega);simp only [Lay.a,Lay.b] at this;omega
           have hne2:w.heap.size ≠ L.wb:=by have:=H0.out.top;omega
           have hne3:wx.heap.size ≠ L.wb:=by have:=HLX.out;omega
           refine hK.out _ _ ⟨set_cell hHeld2.1 hne,set_cell hHeld2.2.1 hne2,set_cell hHeld2.2.2.1 hne3,by simpa [World.setCell] using hHeld2.2.2.2⟩ (fun _ => ?_)
           clear hK K hHeld2
           refine wpAnyH_done (by kernel_rfl) ⟨rfl,?_⟩ _
           have HK8:=Lib.hid (HK6.out.kept hO7 (Nat.le_trans hwh H0.out.top) (Nat.le_trans hwh HLX.out))
           have HO8:=Lib.hid (HO6.out.trans (hO7.mono hwl hwh))
           have H8:Hid (SpaceAt (((w6.drewN 1).drewN m').setCell ⟨L.wb,i,none⟩ (.int .i64 x)) L (s4.linkTo c (i + 1))):=by
            refine Lib.hid ?_
            have e1:s4.linkTo c (i + 1)=(s4.linkTo c i).setWs (setW (s4.linkTo c i).W i (s4.link c i)):=by
             show (if s4.B (c + 1) i then _ else _)=_
             rw [HSET.out];rfl
            rw [e1,← St.linkTo_link s4 c i c i,hx]
            exact H7
           clear hO7 H7 hdw hdf hne hne2 hne3 hwh hwl
           gi_wp2_with fail
           have hdn:(w6.drewN 1).drewN m'=w6.drewN (1 + m'):=by simp [World.drewN,Nat.add_assoc];exact ⟨rfl,rfl,rfl⟩
           rw [hdn] at HK8 HO8 H8
           generalize (w6.drewN (1 + m')).setCell ⟨L.wb,i,none⟩ (.int .i64 x)=w9 at *
           have hLX:=HLX.out
           refine ⟨HK8.out.xl,.inl ⟨rfl,HIN.out,?_,HK8.out.put HX26.out _,?_⟩⟩
           ·exact H8.out.kept (only_put (r.at .ready none)) (.inl (by omega)) (by have:=H8.out.ok.lo0;have:=H8.out.ok.inn 0 (by omega);omega)
           ·exact HO8.out.trans' (only_put (r.at .ready none)) (.inr (by omega)) (.inr (by omega))
          rintro e W2 ⟨hv,h1,h2,h3⟩
          refine ⟨hv,.inl ⟨h2.xl,?_⟩⟩
          have hLX:=HLX.out
          have ho5:Only (wx.heap.size + 1 + 1 + 1) (wx.heap.size + 1 + 1 + 1 + 1) W2 (W2.putObj (wx.heap.size + 1 + 1 + 1) (r.at .exhausted none)):=only_put _
          have HS7:Hid (SpaceAt (W2.putObj (wx.heap.size + 1 + 1 + 1) (r.at .exhausted none)) L (s3.links (c + 1))):=Lib.hid (by
           rw [HLK.out]
           exact h1.kept ho5 (.inl (by omega)) (by have:=h1.ok.lo0;have:=h1.ok.inn 0 (by omega);omega))
          have HO7:Hid (Only L.lo L.hi wx (W2.putObj (wx.heap.size + 1 + 1 + 1) (r.at .exhausted none))):=Lib.hid (h3.trans' ho5 (.inr (by omega)) (.inr (by omega)))
          have HK7:=Lib.hid (h2.put HX26.out (r.at .exhausted none))
          generalize W2.putObj (wx.heap.size + 1 + 1 + 1) (r.at .exhausted none)=w7 at *
          clear h1 h2 h3 ho5 hLX HS1 HKC HO1
          go_wp2_with fail
          refine ⟨⟨(wx.heap.size + 1 + 1) :: ds,c + 1,⟨hlt,HS7.out,H2.out.trans HO7.out,?_,?_⟩,by omega,rfl⟩,?_⟩
          ·refine List.nodup_cons.2 ⟨fun hm => ?_,H3.out⟩
           have:=(H4.out _ hm).2.1
           omega
          ·intro D hD
           rcases List.mem_cons.1 hD with rfl | hD
           ·exact ⟨by have:=HQ26.out;have:=HLH.out;have:=H2.out.size;have:=(Array.getElem?_eq_some_iff.1 HKW.out.xl).1;omega,(Array.getElem?_eq_some_iff.1 HK7.out.xd).1,HK7.out.xd⟩
           ·obtain ⟨d1,d2,d3⟩:=H4.out D hD
            exact ⟨d1,Nat.lt_of_lt_of_le d2 HO7.out.size,(HO7.out.block D d2 (.inr (by have:=HLH.out;omega))).trans d3⟩
          ·simp [intOf];omega
         ·obtain rfl:c=8:=by omega
          have hbB:wx.heap[B]?=some (.cells #[.int .i64 (f:Int)] 3):=(H2.out.block _ (Array.getElem?_eq_some_iff.1 HKW.out.xf).1 (.inr HLH.out)).trans HKW.out.xf
          have hxB:=cell_of (v:=.int .i64 (f:Int)) hbB 0 rfl
          have hlB:=(Array.getElem?_eq_some_iff.1 hbB).1
          clear hbB
          go_wp2_with fail
          refine leaves_marks B wx.heap.size ds wx H3.out H4.out (fun w' ho => ?_)
          refine ⟨.tuple #[.int .i64 (f:Int),.int .i64 0],by simp [results,Tryz.results122,go_sem],?_⟩
          refine HQ.out w' (H1.out.kept ho (.inl HLH.out) (by have:=H1.out.ok.lo0;have:=H1.out.ok.inn 0 (by omega);have:=HLH.out;omega)) ?_
          exact (HOW.out.trans H2.out).trans' ho (.inr (by have:=HQ26.out;omega)) (.inr (by have:=HQ26.out;omega))
end Go.Proofs.YtfbcdmhmpfijjaaGreatDoor
