/-
  The walk of space.Wrong.
-/
import Derived.Test.YtfbcdmhmpfijjaaGreatDoorQ22
set_option linter.unusedVariables false
set_option linter.unusedSimpArgs false
set_option linter.unusedSectionVars false
namespace Go.Proofs.YtfbcdmhmpfijjaaGreatDoor
open Go Go.RowKit
attribute [local go_sem] Oper.semAt_some
def Least (p:Nat → Prop) (N m:Nat):Prop:=m ≤ N ∧ (∀ i,i < m → ¬p i) ∧ (m < N → p m)
theorem Least.congr {p q:Nat → Prop} {N m:Nat} (h:Least p N m) (hpq:∀ i,i < N → (p i ↔ q i)):Least q N m :=
 ⟨h.1,fun i hi hq => h.2.1 i hi ((hpq i (Nat.lt_of_lt_of_le hi h.1)).2 hq),fun hm => (hpq m hm).1 (h.2.2 hm)⟩
theorem Least.same {p:Nat → Prop} {N m k:Nat} (h:Least p N m) (g:Least p N k):m=k:=by
 rcases Nat.lt_trichotomy m k with h1 | h1 | h1
 ·exact absurd (h.2.2 (Nat.lt_of_lt_of_le h1 g.1)) (g.2.1 m h1)
 ·exact h1
 ·exact absurd (g.2.2 (Nat.lt_of_lt_of_le h1 h.1)) (h.2.1 k h1)
def St.bad0 (s:St) (i:Nat):Prop:=s.B 0 i=true ∧ s.W i ≠ s.hd i
def St.badc (s:St) (c i:Nat):Prop:=s.B (c + 1) i=true ∧ s.W i ≠ s.link c i
def St.badTo (s:St) (c i:Nat):Prop:=s.bad0 i ∨ ∃ c',c' < c ∧ s.badc c' i
def St.badAt (s:St) (c a i:Nat):Prop:=s.badTo c i ∨ i < a ∧ s.badc c i
theorem St.badTo_zero (s:St) (i:Nat):s.badTo 0 i ↔ s.bad0 i:=⟨fun h => h.resolve_right fun ⟨c',h1,_⟩ => by omega,.inl⟩
theorem St.badTo_succ (s:St) (c i:Nat):s.badTo (c + 1) i ↔ s.badTo c i ∨ s.badc c i:=by
 constructor
 ·rintro (h1 | ⟨c',h1,h2⟩)
  ·exact .inl (.inl h1)
  ·by_cases e:c'=c
   ·subst e;exact .inr h2
   ·exact .inl (.inr ⟨c',by omega,h2⟩)
 ·rintro ((h1 | ⟨c',h1,h2⟩) | h2)
  ·exact .inl h1
  ·exact .inr ⟨c',by omega,h2⟩
  ·exact .inr ⟨c,by omega,h2⟩
theorem St.least_end {s:St} {c N a m:Nat} (h:Least (s.badAt c a) N m) (hz:∀ j,a ≤ j → j < N → s.B (c + 1) j=false):Least (s.badTo (c + 1)) N m :=
 h.congr fun i hi => by
  rw [s.badTo_succ]
  refine ⟨fun hh => hh.elim .inl fun h2 => .inr h2.2,fun hh => hh.elim .inl fun h2 => .inr ⟨Nat.lt_of_not_le fun hia => ?_,h2⟩⟩
  have h3:=h2.1
  rw [hz i hia hi] at h3;cases h3
theorem St.least_far {s:St} {c N a i m:Nat} (h:Least (s.badAt c a) N m) (hz:∀ j,a ≤ j → j < i → s.B (c + 1) j=false) (hm:m ≤ i):Least (s.badTo (c + 1)) N m:=by
 refine ⟨h.1,fun j hj hb => ?_,fun hh => ?_⟩
 ·rcases (s.badTo_succ c j).1 hb with h1 | h1
  ·exact h.2.1 j hj (.inl h1)
  ·by_cases hja:j < a
   ·exact h.2.1 j hj (.inr ⟨hja,h1⟩)
   ·have h3:=h1.1
    rw [hz j (by omega) (by omega)] at h3;cases h3
 ·exact (s.badTo_succ c m).2 ((h.2.2 hh).elim .inl fun h2 => .inr h2.2)
theorem St.least_new {s:St} {c N a i m:Nat} (h:Least (s.badAt c a) N m) (hz:∀ j,a ≤ j → j < i → s.B (c + 1) j=false) (hm:i < m) (hb:s.badc c i):Least (s.badAt c (i + 1)) N i:=by
 have:=h.1
 refine ⟨by omega,fun j hj hbj => ?_,fun _ => .inr ⟨by omega,hb⟩⟩
 rcases hbj with h1 | ⟨_,h1⟩
 ·exact h.2.1 j (by omega) (.inl h1)
 ·by_cases hja:j < a
  ·exact h.2.1 j (by omega) (.inr ⟨hja,h1⟩)
  ·have h3:=h1.1
   rw [hz j (by omega) hj] at h3;cases h3
theorem St.least_on {s:St} {c N a i m:Nat} (h:Least (s.badAt c a) N m) (hai:a ≤ i) (hz:∀ j,a ≤ j → j < i → s.B (c + 1) j=false) (hb:¬s.badc c i):Least (s.badAt c (i + 1)) N m:=by
 refine ⟨h.1,fun j hj hbj => ?_,fun hh => (h.2.2 hh).elim .inl fun h2 => .inr ⟨by omega,h2.2⟩⟩
 rcases hbj with h1 | ⟨h0,h1⟩
 ·exact h.2.1 j hj (.inl h1)
 ·by_cases hja:j < a
  ·exact h.2.1 j hj (.inr ⟨hja,h1⟩)
  ·by_cases e:j=i
   ·subst e;exact hb h1
   ·have h3:=h1.1
    rw [hz j (by omega) (by omega)] at h3;cases h3
theorem St.badAt_zero (s:St) (c i:Nat):s.badAt c 0 i ↔ s.badTo c i:=⟨fun h => h.resolve_right fun hh => by omega,.inl⟩
theorem St.chk_bad (s:St) (i:Nat) (hi:s.B 0 i=true):((s.chk (i:Int)).1 != 0)=true ↔ s.bad0 i:=by
 have hh:s.has (i:Int)=true:=by unfold St.has;rw [decide_eq_true (by omega),Int.toNat_natCast,hi];rfl
 unfold St.chk St.bad0
 rw [if_pos hh,Int.toNat_natCast]
 by_cases e:s.W i=s.hd i
 ·rw [if_pos e];simp [e]
 ·rw [if_neg e];simp [e,hi]
structure WK (w:World) (B sb:Nat) (m0:Addr) (m:Nat) (o:Obj):Prop where
 x2:w.heap[B]?=some (.cells #[.pointer (some ⟨sb,0,none⟩)] 34 (0,0))
 xf:w.heap[B + 1]?=some (.cells #[.int .i64 (m:Int)] 3 (0,0))
 xm:w.heap[B + 1 + 1]?=some (.cells #[.pointer (some m0)] 81 (0,0))
 xd:w.heap[B + 1 + 1 + 1]?=some (.deferred (some []))
 xl:w.heap[B + 1 + 1 + 1 + 1]?=some o
theorem WK.only {w w':World} {B sb m:Nat} {m0:Addr} {o:Obj} (h:WK w B sb m0 m o) {lo hi:Nat} (ho:Only lo hi w w') (hl:B + 5 ≤ lo):WK w' B sb m0 m o :=
 ⟨at_only ho h.x2 (.inl (by omega)),at_only ho h.xf (.inl (by omega)),at_only ho h.xm (.inl (by omega)),at_only ho h.xd (.inl (by omega)),at_only ho h.xl (.inl (by omega))⟩
theorem WK.size {w:World} {B sb m:Nat} {m0:Addr} {o:Obj} (h:WK w B sb m0 m o):B + 5 ≤ w.heap.size:=(Array.getElem?_eq_some_iff.1 h.xl).1
theorem WK.put {w:World} {B sb m:Nat} {m0:Addr} {o:Obj} (h:WK w B sb m0 m o) (o':Obj):WK (w.putObj (B + 1 + 1 + 1 + 1) o') B sb m0 m o' :=
 ⟨(World.putObj_heap_other (by omega)).trans h.x2,(World.putObj_heap_other (by omega)).trans h.xf,(World.putObj_heap_other (by omega)).trans h.xm,(World.putObj_heap_other (by omega)).trans h.xd,World.putObj_heap_same (Array.getElem?_eq_some_iff.1 h.xl).1⟩
theorem WK.turn {w:World} {B sb m:Nat} {m0:Addr} {o:Obj} (h:WK w B sb m0 m o) (k:Nat):WK (w.setCell ⟨B + 1,0,none⟩ (.int .i64 (k:Int))) B sb m0 k o :=
 ⟨(box1_ne (by omega) _ _).trans h.x2,box1 h.xf _,(box1_ne (by omega) _ _).trans h.xm,(box1_ne (by omega) _ _).trans h.xd,(box1_ne (by omega) _ _).trans h.xl⟩
set_option maxRecDepth 100000 in
set_option maxHeartbeats 6400000 in
theorem wrong_any (w:World) (L:Lay) (s:St) (h:SpaceAt w L s) (hf:s.Fine) :
 Calls Tryz.prog 34 #[.pointer (some ⟨L.sb,0,none⟩)] w fun e w' => (∃ m,Least (s.badTo 8) (64 * s.n) m ∧ e=.returned (.int .i64 (if m=64 * s.n then -1 else (m:Int)))) ∧ Still w w':=by
 have HS:=Lib.hid h
 have HF:=Lib.hid hf
 have hn2:=h.n2
 obtain ⟨N,hN⟩:∃ N,64 * s.n=N:=⟨_,rfl⟩
 have HN:=Lib.hid hN
 have c0:=h.c0N hN
 have c2:=h.c2
 have hlt:=h.sblt
 rw [hN]
 refine (callsIn_wide (n:=9)).1 ?_
 clear h hf hN hn2
 refine callsIn_of_wp_marks Tryz.func34 rfl trivial ?_ rfl
 simp only [Tryz.ntmps34,List.size_toArray,List.length_cons,List.length_nil,Nat.reduceAdd,Nat.reduceSub,Array.replicate_succ,Array.replicate_zero,List.push_toArray,List.append_toArray,List.nil_append,List.cons_append]
 gi_wp2_with fail
 refine ⟨trivial,(callsIn_wide.2 (all_any _ _)).mono ?_⟩
 rintro e w' ⟨rfl,rfl⟩
 gi_wp2_with fail
 obtain ⟨B,hB⟩:∃ B,w.heap.size=B:=⟨_,rfl⟩
 have hb0:(((w.alloc (.cells #[.pointer (some ⟨L.sb,0,none⟩)] 34)).alloc (.cells #[.int .i64 (N:Int)] 3)).alloc (.cells #[.pointer (some (L.m 0))] 81)).heap[B]?=some (.cells #[.pointer (some ⟨L.sb,0,none⟩)] 34 (0,0)):=box1_al (box1_al (by rw [← hB];exact heap_alloc_new w _))
 have hb1:(((w.alloc (.cells #[.pointer (some ⟨L.sb,0,none⟩)] 34)).alloc (.cells #[.int .i64 (N:Int)] 3)).alloc (.cells #[.pointer (some (L.m 0))] 81)).heap[B + 1]?=some (.cells #[.int .i64 (N:Int)] 3 (0,0)):=box1_al (by
  have:=heap_alloc_new (w.alloc (.cells #[.pointer (some ⟨L.sb,0,none⟩)] 34)) (.cells #[.int .i64 (N:Int)] 3)
  rwa [World.size_alloc,hB] at this)
 have hb2:(((w.alloc (.cells #[.pointer (some ⟨L.sb,0,none⟩)] 34)).alloc (.cells #[.int .i64 (N:Int)] 3)).alloc (.cells #[.pointer (some (L.m 0))] 81)).heap[B + 1 + 1]?=some (.cells #[.pointer (some (L.m 0))] 81 (0,0)):=by
  have:=heap_alloc_new ((w.alloc (.cells #[.pointer (some ⟨L.sb,0,none⟩)] 34)).alloc (.cells #[.int .i64 (N:Int)] 3)) (.cells #[.pointer (some (L.m 0))] 81)
  rwa [World.size_alloc,World.size_alloc,hB] at this
 have hst:Still w (((w.alloc (.cells #[.pointer (some ⟨L.sb,0,none⟩)] 34)).alloc (.cells #[.int .i64 (N:Int)] 3)).alloc (.cells #[.pointer (some (L.m 0))] 81)):=(((Only.refl _ _ w).alloc _).alloc _).alloc _
 have hsz:(((w.alloc (.cells #[.pointer (some ⟨L.sb,0,none⟩)] 34)).alloc (.cells #[.int .i64 (N:Int)] 3)).alloc (.cells #[.pointer (some (L.m 0))] 81)).heap.size=B + 1 + 1 + 1:=by rw [← hB];simp
 rw [hB]
 generalize ((w.alloc (.cells #[.pointer (some ⟨L.sb,0,none⟩)] 34)).alloc (.cells #[.int .i64 (N:Int)] 3)).alloc (.cells #[.pointer (some (L.m 0))] 81)=w2 at *
 refine wpIn_range (gf:=124) (lb:=#[.pointer (some ⟨B + 1 + 1,0,none⟩)]) rfl (enters_of Tryz.func124 (by kernel_rfl) rfl) ?_
 intro r ht hps has hbd W1 hW1
 have HRT:=Lib.hid ht;have HRP:=Lib.hid hps;have HRA:=Lib.hid has;have HRB:=Lib.hid hbd
 clear ht hps has hbd
 rw [hsz]
 have hl0:W1.heap[B + 1 + 1 + 1 + 1]?=some (r.at .ready none):=by
  rw [hW1]
  have:=World.alloc_heap_new (w2.alloc (.deferred (some []))) (r.at .ready none)
  rw [World.size_alloc,hsz] at this
  exact this
 have hd0:W1.heap[B + 1 + 1 + 1]?=some (.deferred (some [])):=by
  rw [hW1,Below.heap_alloc _ _ _ (by simp [hsz]),← hsz]
  exact World.alloc_heap_new w2 _
 have hO1:Still w2 W1:=by rw [hW1];exact ((Only.refl _ _ w2).alloc _).alloc _
 have hwk:WK W1 B L.sb (L.m 0) N (r.at .ready none):=⟨at_only hO1 hb0 (.inl (by omega)),at_only hO1 hb1 (.inl (by omega)),at_only hO1 hb2 (.inl (by omega)),hd0,hl0⟩
 have hOW:Still w W1:=Still.trans hst hO1
 clear hO1 hW1 hb0 hb1 hb2 hst hl0 hd0 hsz c2 hlt c0
 refine (iter_in (9 - 1) (B + 1 + 1 + 1 + 1)
  (fun a S w' => S=s.B 0 ∧ Still w w' ∧ WK w' B L.sb (L.m 0) N (r.at .ready none) ∧ ∀ i,i < a → ¬s.bad0 i)
  (fun w' => Still w w' ∧ ∃ m,Least s.bad0 N m ∧ (WK w' B L.sb (L.m 0) m (r.at .ready none) ∨ WK w' B L.sb (L.m 0) m (r.at .done (some (.exit 0)))))
  (L.ma 0) (L.mb 0) N (B + 1 + 1) (L.m 0) ?hmap ?hyield ?hdrew ?hend (s.B 0) W1 ⟨rfl,hOW,hwk,fun i hi => by omega⟩).mono ?_
 case hmap =>
  rintro a S w' ⟨rfl,hs,hk,_⟩
  have h1:=HS.out.still hs
  have:=h1.maps 0 (by omega)
  rw [HN.out] at this
  exact ⟨this,h1.tab,cell_of hk.xm 0 rfl⟩
 case hdrew =>
  rintro a S w' m ⟨rfl,hs,hk,h3⟩
  exact ⟨rfl,hs.drewN m,⟨hk.x2,hk.xf,hk.xm,hk.xd,hk.xl⟩,h3⟩
 case hend =>
  rintro a S w' ⟨rfl,hs,hk,h3⟩ he
  refine ⟨hs,N,⟨Nat.le_refl _,fun i hi hb => ?_,fun hh => absurd hh (Nat.lt_irrefl _)⟩,.inl hk⟩
  by_cases hia:i < a
  ·exact h3 i hia hb
  ·rcases Bm.next_spec (s.B 0) N (a:Int) with ⟨_,hf⟩ | ⟨i',e,_⟩
   ·have hb:=hb.1
    rw [hf i (by omega) hi] at hb;cases hb
   ·rw [he] at e;omega
 case hyield =>
  rintro a S w3 i ⟨rfl,hs,hk,h3⟩ hn hai hiN
  have hset:s.B 0 i=true ∧ ∀ j,j < i → ¬s.bad0 j:=by
   rcases Bm.next_spec (s.B 0) N (a:Int) with ⟨e,_⟩ | ⟨i',e,_,_,hi',hg'⟩
   ·rw [hn] at e;omega
   ·rw [hn] at e
    obtain rfl:i=i':=by omega
    refine ⟨hi',fun j hj hb => ?_⟩
    by_cases hja:j < a
    ·exact h3 j hja hb
    ·have hb:=hb.1
     rw [hg' j (by omega) hj] at hb;cases hb
  refine yield_at r hk.xl (by rw [HRP.out];rfl) ?_
  rw [HRA.out,HRT.out,HRP.out]
  have hkl:=hk.xl
  gi_wp2
  have ho5:Only (B + 1 + 1 + 1 + 1) (B + 1 + 1 + 1 + 1 + 1) w3 (w3.putObj (B + 1 + 1 + 1 + 1) (r.at .busy none)):=only_put _
  have hk5:=hk.put (r.at .busy none)
  have hs5:=hs.trans' ho5 (.inr (by omega)) (.inr (by omega))
  generalize w3.putObj (B + 1 + 1 + 1 + 1) (r.at .busy none)=w5 at *
  rw [HRB.out]
  have x0:=cell_of (v:=.pointer (some ⟨L.sb,0,none⟩)) hk5.x2 0 rfl
  have xl:=(Array.getElem?_eq_some_iff.1 hk5.x2).1
  have HCH:Hid (Calls Tryz.prog 58 #[.pointer (some ⟨L.sb,0,none⟩),.int .i64 (i:Int)] w5 fun e w' => e=.returned (.agg #[.int .i64 (s.chk (i:Int)).1,.int .i64 (s.chk (i:Int)).2]) ∧ Still w5 w'):=Lib.hid (check_any w5 L s (HS.out.still hs5) i HF.out)
  have HK5:=Lib.hid hk5
  have HS5:=Lib.hid hs5
  have HSET:=Lib.hid hset
  have HIN:=Lib.hid hiN
  clear hk hs ho5 hk5 hs5 hset hn hai hkl h3
  gi_wp2_with fail
  refine ⟨trivial,(CallsIn.inRound _ (callsIn_wide.2 HCH.out)).mono ?_⟩
  rintro e w6 ⟨rfl,hs6⟩
  have hk6:=HK5.out.only hs6 HK5.out.size
  have HS6:=Lib.hid (Still.trans HS5.out hs6)
  have HK6:=Lib.hid hk6
  have y0:=cell_of (v:=.int .i64 (N:Int)) hk6.xf 0 rfl
  have yf:=frozen_of hk6.xf 0
  have yl:=(Array.getElem?_eq_some_iff.1 hk6.xf).1
  clear hk6 hs6 HCH x0 xl
  have hcb:=s.chk_bad i HSET.out.1
  obtain ⟨f1,hf1⟩:∃ f1,(s.chk (i:Int)).1=f1:=⟨_,rfl⟩
  obtain ⟨f2,hf2⟩:∃ f2,(s.chk (i:Int)).2=f2:=⟨_,rfl⟩
  rw [hf1,hf2]
  rw [hf1] at hcb
  clear hf1 hf2
  have hfld:∀ w,(Instr.field 50 (.agg #[.int .i64 f1,.int .i64 f2]) 0).run Tryz.prog w=.ok (.int .i64 f1) w:=fun _ => by kernel_rfl
  cases hb:(f1 != 0) with
  | true =>
   have hbad:=hcb.1 hb
   have HBAD:=Lib.hid hbad
   clear hcb hbad
   gi_wp2_with fail
   have hk7:=HK6.out.turn i
   have hs7:Still w (w6.setCell ⟨B + 1,0,none⟩ (.int .i64 (i:Int))):=HS6.out.setCell (p:=⟨B + 1,0,none⟩) (.inr (by show w.heap.size ≤ B + 1;omega)) _
   refine ⟨hk7.xl,.inr ⟨rfl,hs7.trans' (only_put _) (.inr (by omega)) (.inr (by omega)),i,⟨Nat.le_of_lt HIN.out,HSET.out.2,fun _ => HBAD.out⟩,.inr (hk7.put _)⟩⟩
  | false =>
   have hbad:¬s.bad0 i:=fun h => by rw [hcb.2 h] at hb;cases hb
   have HBAD:=Lib.hid hbad
   clear hcb hbad
   gi_wp2_with fail
   refine ⟨HK6.out.xl,.inl ⟨rfl,HS6.out.trans' (only_put _) (.inr (by omega)) (.inr (by omega)),HK6.out.put _,fun j hj hb2 => ?_⟩⟩
   by_cases ej:j=i
   ·subst ej;exact HBAD.out hb2
   ·exact HSET.out.2 j (by omega) hb2
 ·rintro e W2 ⟨hv,hs2,m,hm,hk2⟩
  refine ⟨hv,?_⟩
  have hfin:∀ o,WK (W2.putObj (B + 1 + 1 + 1 + 1) o) B L.sb (L.m 0) m o:=fun o => by
   rcases hk2 with hk2 | hk2
   ·exact hk2.put o
   ·exact hk2.put o
  have hs3:∀ o,Still w (W2.putObj (B + 1 + 1 + 1 + 1) o):=fun o => hs2.trans' (only_put _) (.inr (by omega)) (.inr (by omega))
  have HM:=Lib.hid hm
  have hprep:∀ w3,Still w w3 → ∀ c,c < 8 → w3.cell? ⟨L.sb,3 + c,none⟩=some (.pointer (some (L.m (c + 1)))):=fun w3 h c hc => (HS.out.still h).c3 c hc
  have HPR:=Lib.hid hprep
  have HSL:Hid (∀ w3,Still w w3 → L.sb < w3.heap.size):=Lib.hid fun w3 h => (HS.out.still h).sblt
  clear hprep
  rcases hk2 with hk2 | hk2
  ·refine .inl ⟨hk2.xl,?_⟩
   have HK3:=Lib.hid (hfin (r.at .exhausted none))
   have HS3:=Lib.hid (hs3 (r.at .exhausted none))
   generalize W2.putObj (B + 1 + 1 + 1 + 1) (r.at .exhausted none)=w3 at *
   clear hfin hs3 hk2 hs2 hm
   have x0:=cell_of (v:=.pointer (some ⟨L.sb,0,none⟩)) HK3.out.x2 0 rfl
   have xl:=(Array.getElem?_eq_some_iff.1 HK3.out.x2).1
   have q0:=HPR.out w3 HS3.out 0 (by omega)
   have q1:=HPR.out w3 HS3.out 1 (by omega)
   have q2:=HPR.out w3 HS3.out 2 (by omega)
   have q3:=HPR.out w3 HS3.out 3 (by omega)
   have q4:=HPR.out w3 HS3.out 4 (by omega)
   have q5:=HPR.out w3 HS3.out 5 (by omega)
   have q6:=HPR.out w3 HS3.out 6 (by omega)
   have q7:=HPR.out w3 HS3.out 7 (by omega)
   have hlt:=HSL.out w3 HS3.out
   gi_wp2_with fail
   clear q0 q1 q2 q3 q4 q5 q6 q7 hlt x0 xl
   refine wpIn_wide.2 ?_
   refine wp_loop (fun a wx => ∃ (ds:List Nat) (c:Nat) (u5 u6 u7 u30 u31 u32 u33 u34 u35 u36 u37 u38 u39 u40 u41 u42 u43 u44 u45 u46 u47 u48 u49 u50 u51 u52:Value),(c ≤ 8 ∧ Still w wx ∧ ds.Nodup ∧ (∀ D ∈ ds,B ≤ D ∧ D < wx.heap.size ∧ wx.heap[D]?=some (.deferred (some []))) ∧ wx.heap[B]?=some (.cells #[.pointer (some ⟨L.sb,0,none⟩)] 34 (0,0)) ∧ ∃ m:Nat,wx.heap[B + 1]?=some (.cells #[.int .i64 (m:Int)] 3 (0,0)) ∧ Least (s.badTo c) N m) ∧ a=⟨#[Value.pointer (some ⟨L.sb,0,none⟩),Value.pointer (some ⟨B,0,none⟩),Value.int IntKind.i64 0,Value.pointer (some ⟨B + 1,0,none⟩),undef,u5,u6,u7,Value.pointer (some ⟨L.sb,0,none⟩),Value.pointer (some ⟨L.sb,0,none⟩),Value.pointer (some ⟨L.sb,0,none⟩),Value.slice (some ⟨L.wb,0,none⟩) N N,Value.int IntKind.i64 ↑N,Value.pointer (some ⟨L.sb,0,none⟩),Value.pointer (some ⟨L.sb,0,none⟩),Value.pointer (some ⟨L.sb,2,none⟩),Value.pointer (some (L.m 0)),Value.func (Fn.func 124) #[] #[Value.pointer (some ⟨B + 1 + 1,0,none⟩)],undef,undef,undef,undef,undef,undef,undef,Value.pointer (some ⟨L.sb,0,none⟩),Value.pointer (some ⟨L.sb,0,none⟩),Value.pointer (some ⟨L.sb,3,none⟩),Value.agg #[Value.pointer (some (L.m 1)),Value.pointer (some (L.m 2)),Value.pointer (some (L.m 3)),Value.pointer (some (L.m 4)),Value.pointer (some (L.m 5)),Value.pointer (some (L.m 6)),Value.pointer (some (L.m 7)),Value.pointer (some (L.m 8))],Value.int IntKind.i64 (c:Int),u30,u31,u32,u33,u34,u35,u36,u37,u38,u39,u40,u41,u42,u43,u44,u45,u46,u47,u48,u49,u50,u51,u52,undef,undef,undef,undef,undef,undef,undef,undef],ds.map markOf⟩) (fun a _ => 9 - (intOf (a.tmps.getD 29 undef)).toNat) ?_ ?_
   ·refine ⟨[B + 1 + 1 + 1],0,_,_,_,_,_,_,_,_,_,_,_,_,_,_,_,_,_,_,_,_,_,_,_,_,_,_,⟨by omega,HS3.out,by simp,?_,HK3.out.x2,m,HK3.out.xf,HM.out.congr fun i _ => (s.badTo_zero i).symm⟩,rfl⟩
    intro D hD
    have hD:D=B + 1 + 1 + 1:=by simpa using hD
    subst hD
    exact ⟨by omega,(Array.getElem?_eq_some_iff.1 HK3.out.xd).1,HK3.out.xd⟩
   ·rintro a wx ⟨ds,c,u5,u6,u7,u30,u31,u32,u33,u34,u35,u36,u37,u38,u39,u40,u41,u42,u43,u44,u45,u46,u47,u48,u49,u50,u51,u52,⟨hc,h1,h2,h3,h4,m2,h5,h6⟩,rfl⟩
    have H1:=Lib.hid h1
    have H2:=Lib.hid h2
    have H3:=Lib.hid h3
    have H4:=Lib.hid h4
    have H5:=Lib.hid h5
    have H6:=Lib.hid h6
    have hc0:(0:Int) ≤ (c:Int):=by omega
    have hx2:=cell_of (v:=.pointer (some ⟨L.sb,0,none⟩)) h4 0 rfl
    have hlx2:=(Array.getElem?_eq_some_iff.1 h4).1
    have hlx1:=(Array.getElem?_eq_some_iff.1 h5).1
    clear h1 h2 h3 h4 h5 h6 HK3 HS3 HM
    by_cases hlt:c < 8
    ·have hc8:(c:Int) < 8:=by omega
     have hix:=fun w => index_maps L.m c hlt w
     go_wp2_with fail
     have hB0:=heap_alloc_new wx (.cells #[.int .i64 (c:Int)] 3)
     refine (all_any _ _).mono ?_
     rintro e w7 ⟨rfl,rfl⟩
     go_wp2_with fail
     have hW5:Still wx ((wx.alloc (.cells #[.int .i64 (c:Int)] 3)).alloc (.cells #[.pointer (some (L.m (c + 1)))] 81)):=((Only.refl _ _ wx).alloc _).alloc _
     have hsz5:((wx.alloc (.cells #[.int .i64 (c:Int)] 3)).alloc (.cells #[.pointer (some (L.m (c + 1)))] 81)).heap.size=wx.heap.size + 1 + 1:=by simp
     have hbA5:((wx.alloc (.cells #[.int .i64 (c:Int)] 3)).alloc (.cells #[.pointer (some (L.m (c + 1)))] 81)).heap[wx.heap.size]?=some (.cells #[.int .i64 (c:Int)] 3):=by rw [Below.heap_alloc _ _ _ (by simp)];exact hB0
     have hbB5:((wx.alloc (.cells #[.int .i64 (c:Int)] 3)).alloc (.cells #[.pointer (some (L.m (c + 1)))] 81)).heap[wx.heap.size + 1]?=some (.cells #[.pointer (some (L.m (c + 1)))] 81):=by
      have:=heap_alloc_new (wx.alloc (.cells #[.int .i64 (c:Int)] 3)) (.cells #[.pointer (some (L.m (c + 1)))] 81)
      rwa [World.size_alloc] at this
     generalize (wx.alloc (.cells #[.int .i64 (c:Int)] 3)).alloc (.cells #[.pointer (some (L.m (c + 1)))] 81)=w5 at *
     have HX2:=Lib.hid hlx2
     have HX1:=Lib.hid hlx1
     clear hB0 hx2 hlx2 hlx1 hix
     have HSZ:=Lib.hid hsz5
     refine (wpIn_wide (n:=9)).1 ?_
     refine wpIn_range (gf:=124) (lb:=#[.pointer (some ⟨wx.heap.size + 1,0,none⟩)]) rfl (enters_of Tryz.func124 (by kernel_rfl) rfl) ?_
     clear HRT HRP HRA HRB
     intro r ht hps has hbd W1 hW1
     have HRT:=Lib.hid ht;have HRP:=Lib.hid hps;have HRA:=Lib.hid has;have HRB:=Lib.hid hbd
     clear ht hps has hbd
     rw [HSZ.out]
     have hO1:Still w5 W1:=by rw [hW1];exact ((Only.refl _ _ w5).alloc _).alloc _
     have hOX:Still wx W1:=Still.trans hW5 hO1
     have hkc:KC W1 B wx.heap.size L.sb (L.m (c + 1)) c (r.at .ready none):=by
      refine ⟨at_only hOX H4.out (.inl HX2.out),at_only hO1 hbA5 (.inl (by omega)),at_only hO1 hbB5 (.inl (by omega)),?_,?_⟩
      ·rw [hW1,Below.heap_alloc _ _ _ (by simp [hsz5]),← hsz5]
       exact World.alloc_heap_new w5 _
      ·rw [hW1]
       have:=World.alloc_heap_new (w5.alloc (.deferred (some []))) (r.at .ready none)
       rw [World.size_alloc,hsz5] at this
       exact this
     have hm1:=at_only hOX H5.out (.inl HX1.out)
     have hBx:B + 2 ≤ wx.heap.size:=HX1.out
     clear hO1 hW1 hbA5 hbB5 hsz5 hW5
     refine (iter_in (9 - 1) (wx.heap.size + 1 + 1 + 1)
      (fun a S wy => a ≤ N ∧ S=s.B (c + 1) ∧ Still w wy ∧ KC wy B wx.heap.size L.sb (L.m (c + 1)) c (r.at .ready none) ∧ Only (B + 1) (B + 2) wx wy ∧ ∃ m:Nat,wy.heap[B + 1]?=some (.cells #[.int .i64 (m:Int)] 3 (0,0)) ∧ Least (s.badAt c a) N m)
      (fun wy => Still w wy ∧ Only (B + 1) (B + 2) wx wy ∧ (∃ m:Nat,wy.heap[B + 1]?=some (.cells #[.int .i64 (m:Int)] 3 (0,0)) ∧ Least (s.badTo (c + 1)) N m) ∧ (KC wy B wx.heap.size L.sb (L.m (c + 1)) c (r.at .ready none) ∨ KC wy B wx.heap.size L.sb (L.m (c + 1)) c (r.at .done (some (.exit 4)))))
      (L.ma (c + 1)) (L.mb (c + 1)) N (wx.heap.size + 1) (L.m (c + 1)) ?hmap ?hyield ?hdrew ?hend (s.B (c + 1)) W1 ⟨Nat.zero_le _,rfl,Still.trans H1.out hOX,hkc,hOX.any _ _,m2,hm1,H6.out.congr fun i _ => (s.badAt_zero c i).symm⟩).mono ?_
     case hmap =>
      rintro a S wy ⟨ha,rfl,h1,h2,h3⟩
      have h4:=HS.out.still h1
      have:=h4.maps (c + 1) (by omega)
      rw [HN.out] at this
      exact ⟨this,h4.tab,cell_of h2.xm 0 rfl⟩
     case hdrew =>
      rintro a S wy m ⟨ha,rfl,h1,h2,h3,h4⟩
      exact ⟨ha,rfl,h1.drewN m,⟨h2.x2,h2.xc,h2.xm,h2.xd,h2.xl⟩,h3.drewN m,h4⟩
     case hend =>
      rintro a S wy ⟨ha,rfl,h1,h2,h3,m3,h4,h5⟩ he
      refine ⟨h1,h3,⟨m3,h4,s.least_end h5 fun j hj hjN => ?_⟩,.inl h2⟩
      rcases Bm.next_spec (s.B (c + 1)) N (a:Int) with ⟨_,hf⟩ | ⟨i,hi,_⟩
      ·exact hf j (by omega) hjN
      ·rw [he] at hi;omega
     case hyield =>
      rintro a S wy i ⟨ha,rfl,h1,h2,h3,m3,h4,h5⟩ hn hai hiN
      have hset:s.B (c + 1) i=true ∧ ∀ j,a ≤ j → j < i → s.B (c + 1) j=false:=by
       rcases Bm.next_spec (s.B (c + 1)) N (a:Int) with ⟨e,_⟩ | ⟨i',e,_,_,hi',hg'⟩
       ·rw [hn] at e;omega
       ·rw [hn] at e
        obtain rfl:i=i':=by omega
        exact ⟨hi',fun j hj hj2 => hg' j (by omega) hj2⟩
      refine yield_at r h2.xl (by rw [HRP.out];rfl) ?_
      rw [HRA.out,HRT.out,HRP.out]
      have h3l:=h2.xl
      gi_wp2
      rw [HRB.out]
      have ho5:Only (wx.heap.size + 1 + 1 + 1) (wx.heap.size + 1 + 1 + 1 + 1) wy (wy.putObj (wx.heap.size + 1 + 1 + 1) (r.at .busy none)):=only_put _
      have hwx:=HX2.out
      have hws:w.heap.size=B:=hB
      have HS6:Hid (Still w (wy.putObj (wx.heap.size + 1 + 1 + 1) (r.at .busy none))):=Lib.hid (h1.trans' ho5 (.inr (by omega)) (.inr (by omega)))
      have HO6:Hid (Only (B + 1) (B + 2) wx (wy.putObj (wx.heap.size + 1 + 1 + 1) (r.at .busy none))):=Lib.hid (h3.trans' ho5 (.inr (by omega)) (.inr (by omega)))
      have HK6:=Lib.hid (h2.put (by omega:B < wx.heap.size) (r.at .busy none))
      have hm6:=at_only ho5 h4 (.inl (by omega))
      have HM6:=Lib.hid hm6
      have HLE:=Lib.hid h5
      have HSET:=Lib.hid hset
      have HIN:=Lib.hid hiN
      have HAI:=Lib.hid hai
      clear ho5 h3l h1 h2 h3 h4 h5 hset hiN hai hn
      generalize wy.putObj (wx.heap.size + 1 + 1 + 1) (r.at .busy none)=w6 at *
      have x0:=cell_of (v:=.pointer (some ⟨L.sb,0,none⟩)) HK6.out.x2 0 rfl
      have xc:=cell_of (v:=.int .i64 (c:Int)) HK6.out.xc 0 rfl
      have xl:=(Array.getElem?_eq_some_iff.1 HK6.out.x2).1
      have xcl:=(Array.getElem?_eq_some_iff.1 HK6.out.xc).1
      have xm:=cell_of (v:=.int .i64 (m3:Int)) hm6 0 rfl
      have xml:=(Array.getElem?_eq_some_iff.1 hm6).1
      have xmf:=frozen_of hm6 0
      have hi0:(0:Int) ≤ (i:Int):=by omega
      clear hm6
      by_cases hmi:m3 ≤ i
      ·have g1:decide ((m3:Int) ≤ (i:Int))=true:=decide_eq_true (by omega)
       have HMI:=Lib.hid hmi
       clear hmi
       gi_wp2_with fail
       have hzz:=HSET.out.2
       exact ⟨HK6.out.xl,.inr ⟨rfl,HS6.out.trans' (only_put _) (.inr (by omega)) (.inr (by omega)),HO6.out.trans' (only_put _) (.inr (by omega)) (.inr (by omega)),⟨m3,(World.putObj_heap_other (by omega)).trans HM6.out,s.least_far HLE.out hzz HMI.out⟩,.inr (HK6.out.put (by omega:B < wx.heap.size) _)⟩⟩
      ·have g1:decide ((m3:Int) ≤ (i:Int))=false:=decide_eq_false (by omega)
       have HMI:=Lib.hid hmi
       clear hmi
       have h6s:=HS.out.still HS6.out
       have hiN2:(i:Int) < (N:Int):=by have:=HIN.out;omega
       have hmx:Tryz.prog.follows .mixedOrders=true:=by kernel_rfl
       have hc0':w6.cell? ⟨L.sb,0,none⟩=some (.slice (some ⟨L.wb,0,none⟩) N N):=h6s.c0N HN.out
       have hcw:=h6s.words.cell i (by rw [HN.out];exact HIN.out)
       have hls:=h6s.sblt
       have HTM:Hid ((i:Int) ≤ 262144):=Lib.hid (by have:=HIN.out;have:=HN.out;have:=h6s.n2;omega)
       have HLNK:=Lib.hid (fun m => slink_any (w6.drewN m) L s (h6s.drewN m) c hlt (i:Int) (by omega) HTM.out)
       obtain ⟨x,hx⟩:∃ x,s.link c i=x:=⟨_,rfl⟩
       rw [hx] at HLNK
       obtain ⟨y,hy⟩:∃ y,s.W i=y:=⟨_,rfl⟩
       rw [hy] at hcw
       have HXY:Hid (s.badc c i ↔ y ≠ x):=Lib.hid (by unfold St.badc;rw [hy,hx];exact ⟨fun h => h.2,fun h => ⟨HSET.out.1,h⟩⟩)
       clear hx hy h6s
       gi_wp2_with fail
       refine wpIn_region_round (fun w' => w'.cell? ⟨L.sb,0,none⟩=some (.slice (some ⟨L.wb,0,none⟩) N N) ∧ w'.cell? ⟨B,0,none⟩=some (.pointer (some ⟨L.sb,0,none⟩)) ∧ w'.cell? ⟨wx.heap.size,0,none⟩=some (.int .i64 (c:Int)) ∧ w'.cell? ⟨L.wb,i,none⟩=some (.int .i64 y) ∧ L.sb < w'.heap.size) hmx (no_defer (by kernel_rfl)) ⟨hc0',x0,xc,hcw,hls⟩ (fun hHeld => ?_)
       refine wpAnyH_take (i:=0) (v:=.pointer (some ⟨L.sb,0,none⟩)) rfl (by kernel_rfl) (by kernel_rfl) (by kernel_rfl) onlyN_panic (Or.inl ⟨by rfl,(by intro w hSw;obtain ⟨hs0,hs2,hsc,hsw,hsl⟩:=hSw;go_simp)⟩) (by assumption) ?_
       simp only [Act.put,List.setIfInBounds_toArray]
       refine wpAnyH_take (i:=1) (v:=.pointer (some ⟨L.sb,0,none⟩)) rfl (by kernel_rfl) (by kernel_rfl) (by kernel_rfl) onlyN_panic (Or.inl ⟨by rfl,(by intro w hSw;obtain ⟨hs0,hs2,hsc,hsw,hsl⟩:=hSw;go_simp)⟩) (by assumption) ?_
       simp only [Act.put]
       refine wpAnyH_take (i:=2) (v:=.pointer (some ⟨L.sb,0,none⟩)) rfl (by kernel_rfl) (by kernel_rfl) (by kernel_rfl) onlyN_panic (Or.inl ⟨by rfl,(by intro w hSw;obtain ⟨hs0,hs2,hsc,hsw,hsl⟩:=hSw;go_simp)⟩) (by assumption) ?_
       simp only [Act.put]
       refine wpAnyH_take (i:=3) (v:=.slice (some ⟨L.wb,0,none⟩) N N) rfl (by kernel_rfl) (by kernel_rfl) (by kernel_rfl) onlyN_panic (Or.inl ⟨by rfl,(by intro w hSw;obtain ⟨hs0,hs2,hsc,hsw,hsl⟩:=hSw;go_simp)⟩) (by assumption) ?_
       simp only [Act.put]
       refine wpAnyH_take (i:=4) (v:=.int .i64 (i:Int)) rfl (by kernel_rfl) (by kernel_rfl) (by kernel_rfl) onlyN_panic (Or.inl ⟨by rfl,(by intro w hSw;obtain ⟨hs0,hs2,hsc,hsw,hsl⟩:=hSw;go_simp)⟩) (by assumption) ?_
       simp only [Act.put]
       refine wpAnyH_take (i:=5) (v:=.pointer (some ⟨L.wb,i,none⟩)) rfl (by kernel_rfl) (by kernel_rfl) (by kernel_rfl) onlyN_panic (Or.inl ⟨by rfl,(by intro w hSw;obtain ⟨hs0,hs2,hsc,hsw,hsl⟩:=hSw;go_simp)⟩) (by assumption) ?_
       simp only [Act.put]
       refine wpAnyH_take (i:=6) (v:=.int .i64 y) rfl (by kernel_rfl) (by kernel_rfl) (by kernel_rfl) onlyN_panic (Or.inl ⟨by rfl,(by intro w hSw;obtain ⟨hs0,hs2,hsc,hsw,hsl⟩:=hSw;go_simp)⟩) (by assumption) ?_
       simp only [Act.put]
       refine wpAnyH_take (i:=7) (v:=.pointer (some ⟨L.sb,0,none⟩)) rfl (by kernel_rfl) (by kernel_rfl) (by kernel_rfl) onlyN_panic (Or.inl ⟨by rfl,(by intro w hSw;obtain ⟨hs0,hs2,hsc,hsw,hsl⟩:=hSw;go_simp)⟩) (by assumption) ?_
       simp only [Act.put]
       refine wpAnyH_take (i:=8) (v:=.int .i64 (c:Int)) rfl (by kernel_rfl) (by kernel_rfl) (by kernel_rfl) onlyN_panic (Or.inl ⟨by rfl,(by intro w hSw;obtain ⟨hs0,hs2,hsc,hsw,hsl⟩:=hSw;go_simp)⟩) (by assumption) ?_
       simp only [Act.put]
       refine wpAnyH_take (i:=9) (v:=.int .i64 (i:Int)) rfl (by kernel_rfl) (by kernel_rfl) (by kernel_rfl) onlyN_panic (Or.inl ⟨by rfl,(by intro w hSw;obtain ⟨hs0,hs2,hsc,hsw,hsl⟩:=hSw;go_simp)⟩) (by assumption) ?_
       simp only [Act.put]
       refine wpAnyH_ready (rs:=[10]) (by kernel_rfl) (by simp) ?_
       refine AllReadyH.cons rfl (fun K hK => ?_) AllReadyH.nil
       go_simp
       refine (HLNK.out 1).mono ?_
       rintro e w7 ⟨rfl,m',rfl⟩
       refine hK.out _ _ hHeld (fun hHeld2 => ?_)
       clear hK K hHeld
       try simp only [Act.put,List.setIfInBounds_toArray,List.set_cons_zero,List.set_cons_succ]
       cases hyx:(y != x) with
       | true =>
        refine wpAnyH_take (i:=11) (v:=.bool true) rfl (by kernel_rfl) (by kernel_rfl) (by kernel_rfl) onlyN_panic (Or.inl ⟨by rfl,(by intro w hSw;obtain ⟨hs0,hs2,hsc,hsw,hsl⟩:=hSw;go_simp)⟩) (by assumption) ?_
        simp only [Act.put,List.setIfInBounds_toArray]
        refine wpAnyH_done (by kernel_rfl) ⟨rfl,?_⟩ _
        have hbad:=HXY.out.2 (by simpa using hyx)
        have HBAD:=Lib.hid hbad
        clear hbad hHeld2 hyx
        gi_wp2_with fail
        have hm7:((w6.drewN (1 + m')).setCell ⟨B + 1,0,none⟩ (.int .i64 (i:Int))).heap[B + 1]?=some (.cells #[.int .i64 (i:Int)] 3 (0,0)):=box1 (by exact HM6.out) _
        have ho7:Only (B + 1) (B + 2) w6 ((w6.drewN (1 + m')).setCell ⟨B + 1,0,none⟩ (.int .i64 (i:Int))):=((Only.refl _ _ w6).drewN _).setCell (p:=⟨B + 1,0,none⟩) (.inl ⟨Nat.le_refl _,Nat.lt_succ_self _⟩) _
        have hs7:Still w ((w6.drewN (1 + m')).setCell ⟨B + 1,0,none⟩ (.int .i64 (i:Int))):=(HS6.out.drewN _).setCell (p:=⟨B + 1,0,none⟩) (.inr (by show w.heap.size ≤ B + 1;omega)) _
        have hk7:KC ((w6.drewN (1 + m')).setCell ⟨B + 1,0,none⟩ (.int .i64 (i:Int))) B wx.heap.size L.sb (L.m (c + 1)) c (r.at .busy none) :=
         ⟨(box1_ne (by omega) _ _).trans HK6.out.x2,(box1_ne (by omega) _ _).trans HK6.out.xc,(box1_ne (by omega) _ _).trans HK6.out.xm,(box1_ne (by omega) _ _).trans HK6.out.xd,(box1_ne (by omega) _ _).trans HK6.out.xl⟩
        refine ⟨hk7.xl,.inl ⟨rfl,HIN.out,hs7.trans' (only_put _) (.inr (by omega)) (.inr (by omega)),hk7.put (by omega:B < wx.heap.size) _,(HO6.out.trans ho7).trans' (only_put _) (.inr (by omega)) (.inr (by omega)),i,(World.putObj_heap_other (by omega)).trans hm7,s.least_new HLE.out HSET.out.2 (Nat.lt_of_not_le HMI.out) HBAD.out⟩⟩
       | false =>
        refine wpAnyH_take (i:=11) (v:=.bool false) rfl (by kernel_rfl) (by kernel_rfl) (by kernel_rfl) onlyN_panic (Or.inl ⟨by rfl,(by intro w hSw;obtain ⟨hs0,hs2,hsc,hsw,hsl⟩:=hSw;go_simp)⟩) (by assumption) ?_
        simp only [Act.put,List.setIfInBounds_toArray]
        refine wpAnyH_done (by kernel_rfl) ⟨rfl,?_⟩ _
        have hbad:¬s.badc c i:=fun h => by have:=HXY.out.1 h;simp at hyx;exact this hyx
        have HBAD:=Lib.hid hbad
        clear hbad hHeld2 hyx
        gi_wp2_with fail
        refine ⟨HK6.out.xl,.inl ⟨rfl,HIN.out,((HS6.out.drewN 1).drewN m').trans' (only_put _) (.inr (by omega)) (.inr (by omega)),(KC.mk HK6.out.x2 HK6.out.xc HK6.out.xm HK6.out.xd HK6.out.xl:KC ((w6.drewN 1).drewN m') B wx.heap.size L.sb (L.m (c + 1)) c (r.at .busy none)).put (by omega:B < wx.heap.size) _,((HO6.out.drewN 1).drewN m').trans' (only_put _) (.inr (by omega)) (.inr (by omega)),m3,(World.putObj_heap_other (by omega)).trans HM6.out,s.least_on HLE.out HAI.out HSET.out.2 HBAD.out⟩⟩
     ·rintro e W2 ⟨hv,h1,h2,⟨m3,h3,h4⟩,h5⟩
      refine ⟨hv,?_⟩
      have hws:w.heap.size=B:=hB
      have hwx:=HX2.out
      have hfin:∀ o,KC (W2.putObj (wx.heap.size + 1 + 1 + 1) o) B wx.heap.size L.sb (L.m (c + 1)) c o:=fun o => by
       rcases h5 with h5 | h5
       ·exact h5.put (by omega) o
       ·exact h5.put (by omega) o
      have hgo:∀ o,Hid (KC (W2.putObj (wx.heap.size + 1 + 1 + 1) o) B wx.heap.size L.sb (L.m (c + 1)) c o ∧ Still w (W2.putObj (wx.heap.size + 1 + 1 + 1) o) ∧ Only (B + 1) (B + 2) wx (W2.putObj (wx.heap.size + 1 + 1 + 1) o) ∧ (W2.putObj (wx.heap.size + 1 + 1 + 1) o).heap[B + 1]?=some (.cells #[.int .i64 (m3:Int)] 3 (0,0))):=fun o =>
       Lib.hid ⟨hfin o,h1.trans' (only_put _) (.inr (by omega)) (.inr (by omega)),h2.trans' (only_put _) (.inr (by omega)) (.inr (by omega)),(World.putObj_heap_other (by omega)).trans h3⟩
      have HLE:=Lib.hid h4
      clear hfin h1 h2 h3 h4
      rcases h5 with h5 | h5
      ·refine .inl ⟨h5.xl,?_⟩
       have HG:=hgo (r.at .exhausted none)
       clear hgo h5
       generalize W2.putObj (wx.heap.size + 1 + 1 + 1) (r.at .exhausted none)=w7 at *
       go_wp2_with fail
       refine ⟨⟨(wx.heap.size + 1 + 1) :: ds,c + 1,⟨hlt,HG.out.2.1,?_,?_,HG.out.1.x2,m3,HG.out.2.2.2,HLE.out⟩,by omega,rfl⟩,?_⟩
       ·refine List.nodup_cons.2 ⟨fun hm => ?_,H2.out⟩
        have:=(H3.out _ hm).2.1
        omega
       ·intro D hD
        rcases List.mem_cons.1 hD with rfl | hD
        ·exact ⟨by omega,(Array.getElem?_eq_some_iff.1 HG.out.1.xd).1,HG.out.1.xd⟩
        ·obtain ⟨d1,d2,d3⟩:=H3.out D hD
         have d4:D ≠ B + 1:=fun e => by rw [e,H5.out] at d3;cases d3
         exact ⟨d1,Nat.lt_of_lt_of_le d2 HG.out.2.2.1.size,(HG.out.2.2.1.block D d2 (by omega)).trans d3⟩
       ·simp [intOf];omega
      ·refine .inr ⟨.exit 4,h5.xl,?_⟩
       have HG:=hgo (r.at .exhausted (some (.exit 4)))
       clear hgo h5
       generalize W2.putObj (wx.heap.size + 1 + 1 + 1) (r.at .exhausted (some (.exit 4)))=w7 at *
       refine wpIn_wide.2 ?_
       go_wp2_with fail
       refine ⟨⟨(wx.heap.size + 1 + 1) :: ds,c + 1,⟨hlt,HG.out.2.1,?_,?_,HG.out.1.x2,m3,HG.out.2.2.2,HLE.out⟩,by omega,rfl⟩,?_⟩
       ·refine List.nodup_cons.2 ⟨fun hm => ?_,H2.out⟩
        have:=(H3.out _ hm).2.1
        omega
       ·intro D hD
        rcases List.mem_cons.1 hD with rfl | hD
        ·exact ⟨by omega,(Array.getElem?_eq_some_iff.1 HG.out.1.xd).1,HG.out.1.xd⟩
        ·obtain ⟨d1,d2,d3⟩:=H3.out D hD
         have d4:D ≠ B + 1:=fun e => by rw [e,H5.out] at d3;cases d3
         exact ⟨d1,Nat.lt_of_lt_of_le d2 HG.out.2.2.1.size,(HG.out.2.2.1.block D d2 (by omega)).trans d3⟩
       ·simp [intOf];omega
    ·obtain rfl:c=8:=by omega
     have c0:=(HS.out.still H1.out).c0N HN.out
     have xm:=cell_of (v:=.int .i64 (m2:Int)) H5.out 0 rfl
     have hls:=(HS.out.still H1.out).sblt
     have hmI:(if m2=N then (-1:Int) else (m2:Int))=if m2=N then (-1:Int) else (m2:Int):=rfl
     clear hmI
     have hx1:=hlx1
     by_cases hmN:m2=N
     ·have g1:((m2:Int) == (N:Int))=true:=by rw [hmN];simp
      have HMN:=Lib.hid hmN
      clear hmN
      go_wp2_with fail
      refine wpIn_wide.2 ?_
      go_wp2_with fail
      go_quiet (fail)
      go_wp2_with fail
      refine leaves_marks B wx.heap.size ds _ H2.out H3.out (fun w' ho => ?_)
      refine ⟨.int .i64 (-1),by simp [results,Tryz.results34,go_sem],?_⟩
      refine ⟨⟨m2,H6.out,?_⟩,(H1.out.drewN _).trans' ho (.inr (by omega)) (.inr (by omega))⟩
      rw [if_pos HMN.out]
     ·have g1:((m2:Int) == (N:Int))=false:=by simp;omega
      have HMN:=Lib.hid hmN
      clear hmN
      go_wp2_with fail
      refine wpIn_wide.2 ?_
      go_wp2_with fail
      go_quiet (fail)
      go_wp2_with fail
      refine leaves_marks B wx.heap.size ds _ H2.out H3.out (fun w' ho => ?_)
      refine ⟨.int .i64 (m2:Int),by simp [results,Tryz.results34,go_sem],?_⟩
      refine ⟨⟨m2,H6.out,?_⟩,(H1.out.drewN _).trans' ho (.inr (by omega)) (.inr (by omega))⟩
      rw [if_neg HMN.out]
  ·refine .inr ⟨.exit 0,hk2.xl,?_⟩
   have HK3:=Lib.hid (hfin (r.at .exhausted (some (.exit 0))))
   have HS3:=Lib.hid (hs3 (r.at .exhausted (some (.exit 0))))
   generalize W2.putObj (B + 1 + 1 + 1 + 1) (r.at .exhausted (some (.exit 0)))=w3 at *
   clear hfin hs3 hk2 hs2 hm
   have x0:=cell_of (v:=.pointer (some ⟨L.sb,0,none⟩)) HK3.out.x2 0 rfl
   have xl:=(Array.getElem?_eq_some_iff.1 HK3.out.x2).1
   have q0:=HPR.out w3 HS3.out 0 (by omega)
   have q1:=HPR.out w3 HS3.out 1 (by omega)
   have q2:=HPR.out w3 HS3.out 2 (by omega)
   have q3:=HPR.out w3 HS3.out 3 (by omega)
   have q4:=HPR.out w3 HS3.out 4 (by omega)
   have q5:=HPR.out w3 HS3.out 5 (by omega)
   have q6:=HPR.out w3 HS3.out 6 (by omega)
   have q7:=HPR.out w3 HS3.out 7 (by omega)
   have hlt:=HSL.out w3 HS3.out
   gi_wp2_with fail
   clear q0 q1 q2 q3 q4 q5 q6 q7 hlt x0 xl
   refine wpIn_wide.2 ?_
   refine wp_loop (fun a wx => ∃ (ds:List Nat) (c:Nat) (u5 u6 u7 u30 u31 u32 u33 u34 u35 u36 u37 u38 u39 u40 u41 u42 u43 u44 u45 u46 u47 u48 u49 u50 u51 u52:Value),(c ≤ 8 ∧ Still w wx ∧ ds.Nodup ∧ (∀ D ∈ ds,B ≤ D ∧ D < wx.heap.size ∧ wx.heap[D]?=some (.deferred (some []))) ∧ wx.heap[B]?=some (.cells #[.pointer (some ⟨L.sb,0,none⟩)] 34 (0,0)) ∧ ∃ m:Nat,wx.heap[B + 1]?=some (.cells #[.int .i64 (m:Int)] 3 (0,0)) ∧ Least (s.badTo c) N m) ∧ a=⟨#[Value.pointer (some ⟨L.sb,0,none⟩),Value.pointer (some ⟨B,0,none⟩),Value.int IntKind.i64 0,Value.pointer (some ⟨B + 1,0,none⟩),undef,u5,u6,u7,Value.pointer (some ⟨L.sb,0,none⟩),Value.pointer (some ⟨L.sb,0,none⟩),Value.pointer (some ⟨L.sb,0,none⟩),Value.slice (some ⟨L.wb,0,none⟩) N N,Value.int IntKind.i64 ↑N,Value.pointer (some ⟨L.sb,0,none⟩),Value.pointer (some ⟨L.sb,0,none⟩),Value.pointer (some ⟨L.sb,2,none⟩),Value.pointer (some (L.m 0)),Value.func (Fn.func 124) #[] #[Value.pointer (some ⟨B + 1 + 1,0,none⟩)],undef,undef,undef,undef,undef,undef,undef,Value.pointer (some ⟨L.sb,0,none⟩),Value.pointer (some ⟨L.sb,0,none⟩),Value.pointer (some ⟨L.sb,3,none⟩),Value.agg #[Value.pointer (some (L.m 1)),Value.pointer (some (L.m 2)),Value.pointer (some (L.m 3)),Value.pointer (some (L.m 4)),Value.pointer (some (L.m 5)),Value.pointer (some (L.m 6)),Value.pointer (some (L.m 7)),Value.pointer (some (L.m 8))],Value.int IntKind.i64 (c:Int),u30,u31,u32,u33,u34,u35,u36,u37,u38,u39,u40,u41,u42,u43,u44,u45,u46,u47,u48,u49,u50,u51,u52,undef,undef,undef,undef,undef,undef,undef,undef],ds.map markOf⟩) (fun a _ => 9 - (intOf (a.tmps.getD 29 undef)).toNat) ?_ ?_
   ·refine ⟨[B + 1 + 1 + 1],0,_,_,_,_,_,_,_,_,_,_,_,_,_,_,_,_,_,_,_,_,_,_,_,_,_,_,⟨by omega,HS3.out,by simp,?_,HK3.out.x2,m,HK3.out.xf,HM.out.congr fun i _ => (s.badTo_zero i).symm⟩,rfl⟩
    intro D hD
    have hD:D=B + 1 + 1 + 1:=by simpa using hD
    subst hD
    exact ⟨by omega,(Array.getElem?_eq_some_iff.1 HK3.out.xd).1,HK3.out.xd⟩
   ·rintro a wx ⟨ds,c,u5,u6,u7,u30,u31,u32,u33,u34,u35,u36,u37,u38,u39,u40,u41,u42,u43,u44,u45,u46,u47,u48,u49,u50,u51,u52,⟨hc,h1,h2,h3,h4,m2,h5,h6⟩,rfl⟩
    have H1:=Lib.hid h1
    have H2:=Lib.hid h2
    have H3:=Lib.hid h3
    have H4:=Lib.hid h4
    have H5:=Lib.hid h5
    have H6:=Lib.hid h6
    have hc0:(0:Int) ≤ (c:Int):=by omega
    have hx2:=cell_of (v:=.pointer (some ⟨L.sb,0,none⟩)) h4 0 rfl
    have hlx2:=(Array.getElem?_eq_some_iff.1 h4).1
    have hlx1:=(Array.getElem?_eq_some_iff.1 h5).1
    clear h1 h2 h3 h4 h5 h6 HK3 HS3 HM
    by_cases hlt:c < 8
    ·have hc8:(c:Int) < 8:=by omega
     have hix:=fun w => index_maps L.m c hlt w
     go_wp2_with fail
     have hB0:=heap_alloc_new wx (.cells #[.int .i64 (c:Int)] 3)
     refine (all_any _ _).mono ?_
     rintro e w7 ⟨rfl,rfl⟩
     go_wp2_with fail
     have hW5:Still wx ((wx.alloc (.cells #[.int .i64 (c:Int)] 3)).alloc (.cells #[.pointer (some (L.m (c + 1)))] 81)):=((Only.refl _ _ wx).alloc _).alloc _
     have hsz5:((wx.alloc (.cells #[.int .i64 (c:Int)] 3)).alloc (.cells #[.pointer (some (L.m (c + 1)))] 81)).heap.size=wx.heap.size + 1 + 1:=by simp
     have hbA5:((wx.alloc (.cells #[.int .i64 (c:Int)] 3)).alloc (.cells #[.pointer (some (L.m (c + 1)))] 81)).heap[wx.heap.size]?=some (.cells #[.int .i64 (c:Int)] 3):=by rw [Below.heap_alloc _ _ _ (by simp)];exact hB0
     have hbB5:((wx.alloc (.cells #[.int .i64 (c:Int)] 3)).alloc (.cells #[.pointer (some (L.m (c + 1)))] 81)).heap[wx.heap.size + 1]?=some (.cells #[.pointer (some (L.m (c + 1)))] 81):=by
      have:=heap_alloc_new (wx.alloc (.cells #[.int .i64 (c:Int)] 3)) (.cells #[.pointer (some (L.m (c + 1)))] 81)
      rwa [World.size_alloc] at this
     generalize (wx.alloc (.cells #[.int .i64 (c:Int)] 3)).alloc (.cells #[.pointer (some (L.m (c + 1)))] 81)=w5 at *
     have HX2:=Lib.hid hlx2
     have HX1:=Lib.hid hlx1
     clear hB0 hx2 hlx2 hlx1 hix
     have HSZ:=Lib.hid hsz5
     refine (wpIn_wide (n:=9)).1 ?_
     refine wpIn_range (gf:=124) (lb:=#[.pointer (some ⟨wx.heap.size + 1,0,none⟩)]) rfl (enters_of Tryz.func124 (by kernel_rfl) rfl) ?_
     clear HRT HRP HRA HRB
     intro r ht hps has hbd W1 hW1
     have HRT:=Lib.hid ht;have HRP:=Lib.hid hps;have HRA:=Lib.hid has;have HRB:=Lib.hid hbd
     clear ht hps has hbd
     rw [HSZ.out]
     have hO1:Still w5 W1:=by rw [hW1];exact ((Only.refl _ _ w5).alloc _).alloc _
     have hOX:Still wx W1:=Still.trans hW5 hO1
     have hkc:KC W1 B wx.heap.size L.sb (L.m (c + 1)) c (r.at .ready none):=by
      refine ⟨at_only hOX H4.out (.inl HX2.out),at_only hO1 hbA5 (.inl (by omega)),at_only hO1 hbB5 (.inl (by omega)),?_,?_⟩
      ·rw [hW1,Below.heap_alloc _ _ _ (by simp [hsz5]),← hsz5]
       exact World.alloc_heap_new w5 _
      ·rw [hW1]
       have:=World.alloc_heap_new (w5.alloc (.deferred (some []))) (r.at .ready none)
       rw [World.size_alloc,hsz5] at this
       exact this
     have hm1:=at_only hOX H5.out (.inl HX1.out)
     have hBx:B + 2 ≤ wx.heap.size:=HX1.out
     clear hO1 hW1 hbA5 hbB5 hsz5 hW5
     refine (iter_in (9 - 1) (wx.heap.size + 1 + 1 + 1)
      (fun a S wy => a ≤ N ∧ S=s.B (c + 1) ∧ Still w wy ∧ KC wy B wx.heap.size L.sb (L.m (c + 1)) c (r.at .ready none) ∧ Only (B + 1) (B + 2) wx wy ∧ ∃ m:Nat,wy.heap[B + 1]?=some (.cells #[.int .i64 (m:Int)] 3 (0,0)) ∧ Least (s.badAt c a) N m)
      (fun wy => Still w wy ∧ Only (B + 1) (B + 2) wx wy ∧ (∃ m:Nat,wy.heap[B + 1]?=some (.cells #[.int .i64 (m:Int)] 3 (0,0)) ∧ Least (s.badTo (c + 1)) N m) ∧ (KC wy B wx.heap.size L.sb (L.m (c + 1)) c (r.at .ready none) ∨ KC wy B wx.heap.size L.sb (L.m (c + 1)) c (r.at .done (some (.exit 4)))))
      (L.ma (c + 1)) (L.mb (c + 1)) N (wx.heap.size + 1) (L.m (c + 1)) ?hmap ?hyield ?hdrew ?hend (s.B (c + 1)) W1 ⟨Nat.zero_le _,rfl,Still.trans H1.out hOX,hkc,hOX.any _ _,m2,hm1,H6.out.congr fun i _ => (s.badAt_zero c i).symm⟩).mono ?_
     case hmap =>
      rintro a S wy ⟨ha,rfl,h1,h2,h3⟩
      have h4:=HS.out.still h1
      have:=h4.maps (c + 1) (by omega)
      rw [HN.out] at this
      exact ⟨this,h4.tab,cell_of h2.xm 0 rfl⟩
     case hdrew =>
      rintro a S wy m ⟨ha,rfl,h1,h2,h3,h4⟩
      exact ⟨ha,rfl,h1.drewN m,⟨h2.x2,h2.xc,h2.xm,h2.xd,h2.xl⟩,h3.drewN m,h4⟩
     case hend =>
      rintro a S wy ⟨ha,rfl,h1,h2,h3,m3,h4,h5⟩ he
      refine ⟨h1,h3,⟨m3,h4,s.least_end h5 fun j hj hjN => ?_⟩,.inl h2⟩
      rcases Bm.next_spec (s.B (c + 1)) N (a:Int) with ⟨_,hf⟩ | ⟨i,hi,_⟩
      ·exact hf j (by omega) hjN
      ·rw [he] at hi;omega
     case hyield =>
      rintro a S wy i ⟨ha,rfl,h1,h2,h3,m3,h4,h5⟩ hn hai hiN
      have hset:s.B (c + 1) i=true ∧ ∀ j,a ≤ j → j < i → s.B (c + 1) j=false:=by
       rcases Bm.next_spec (s.B (c + 1)) N (a:Int) with ⟨e,_⟩ | ⟨i',e,_,_,hi',hg'⟩
       ·rw [hn] at e;omega
       ·rw [hn] at e
        obtain rfl:i=i':=by omega
        exact ⟨hi',fun j hj hj2 => hg' j (by omega) hj2⟩
      refine yield_at r h2.xl (by rw [HRP.out];rfl) ?_
      rw [HRA.out,HRT.out,HRP.out]
      have h3l:=h2.xl
      gi_wp2
      rw [HRB.out]
      have ho5:Only (wx.heap.size + 1 + 1 + 1) (wx.heap.size + 1 + 1 + 1 + 1) wy (wy.putObj (wx.heap.size + 1 + 1 + 1) (r.at .busy none)):=only_put _
      have hwx:=HX2.out
      have hws:w.heap.size=B:=hB
      have HS6:Hid (Still w (wy.putObj (wx.heap.size + 1 + 1 + 1) (r.at .busy none))):=Lib.hid (h1.trans' ho5 (.inr (by omega)) (.inr (by omega)))
      have HO6:Hid (Only (B + 1) (B + 2) wx (wy.putObj (wx.heap.size + 1 + 1 + 1) (r.at .busy none))):=Lib.hid (h3.trans' ho5 (.inr (by omega)) (.inr (by omega)))
      have HK6:=Lib.hid (h2.put (by omega:B < wx.heap.size) (r.at .busy none))
      have hm6:=at_only ho5 h4 (.inl (by omega))
      have HM6:=Lib.hid hm6
      have HLE:=Lib.hid h5
      have HSET:=Lib.hid hset
      have HIN:=Lib.hid hiN
      have HAI:=Lib.hid hai
      clear ho5 h3l h1 h2 h3 h4 h5 hset hiN hai hn
      generalize wy.putObj (wx.heap.size + 1 + 1 + 1) (r.at .busy none)=w6 at *
      have x0:=cell_of (v:=.pointer (some ⟨L.sb,0,none⟩)) HK6.out.x2 0 rfl
      have xc:=cell_of (v:=.int .i64 (c:Int)) HK6.out.xc 0 rfl
      have xl:=(Array.getElem?_eq_some_iff.1 HK6.out.x2).1
      have xcl:=(Array.getElem?_eq_some_iff.1 HK6.out.xc).1
      have xm:=cell_of (v:=.int .i64 (m3:Int)) hm6 0 rfl
      have xml:=(Array.getElem?_eq_some_iff.1 hm6).1
      have xmf:=frozen_of hm6 0
      have hi0:(0:Int) ≤ (i:Int):=by omega
      clear hm6
      by_cases hmi:m3 ≤ i
      ·have g1:decide ((m3:Int) ≤ (i:Int))=true:=decide_eq_true (by omega)
       have HMI:=Lib.hid hmi
       clear hmi
       gi_wp2_with fail
       have hzz:=HSET.out.2
       exact ⟨HK6.out.xl,.inr ⟨rfl,HS6.out.trans' (only_put _) (.inr (by omega)) (.inr (by omega)),HO6.out.trans' (only_put _) (.inr (by omega)) (.inr (by omega)),⟨m3,(World.putObj_heap_other (by omega)).trans HM6.out,s.least_far HLE.out hzz HMI.out⟩,.inr (HK6.out.put (by omega:B < wx.heap.size) _)⟩⟩
      ·have g1:decide ((m3:Int) ≤ (i:Int))=false:=decide_eq_false (by omega)
       have HMI:=Lib.hid hmi
       clear hmi
       have h6s:=HS.out.still HS6.out
       have hiN2:(i:Int) < (N:Int):=by have:=HIN.out;omega
       have hmx:Tryz.prog.follows .mixedOrders=true:=by kernel_rfl
       have hc0':w6.cell? ⟨L.sb,0,none⟩=some (.slice (some ⟨L.wb,0,none⟩) N N):=h6s.c0N HN.out
       have hcw:=h6s.words.cell i (by rw [HN.out];exact HIN.out)
       have hls:=h6s.sblt
       have HTM:Hid ((i:Int) ≤ 262144):=Lib.hid (by have:=HIN.out;have:=HN.out;have:=h6s.n2;omega)
       have HLNK:=Lib.hid (fun m => slink_any (w6.drewN m) L s (h6s.drewN m) c hlt (i:Int) (by omega) HTM.out)
       obtain ⟨x,hx⟩:∃ x,s.link c i=x:=⟨_,rfl⟩
       rw [hx] at HLNK
       obtain ⟨y,hy⟩:∃ y,s.W i=y:=⟨_,rfl⟩
       rw [hy] at hcw
       have HXY:Hid (s.badc c i ↔ y ≠ x):=Lib.hid (by unfold St.badc;rw [hy,hx];exact ⟨fun h => h.2,fun h => ⟨HSET.out.1,h⟩⟩)
       clear hx hy h6s
       gi_wp2_with fail
       refine wpIn_region_round (fun w' => w'.cell? ⟨L.sb,0,none⟩=some (.slice (some ⟨L.wb,0,none⟩) N N) ∧ w'.cell? ⟨B,0,none⟩=some (.pointer (some ⟨L.sb,0,none⟩)) ∧ w'.cell? ⟨wx.heap.size,0,none⟩=some (.int .i64 (c:Int)) ∧ w'.cell? ⟨L.wb,i,none⟩=some (.int .i64 y) ∧ L.sb < w'.heap.size) hmx (no_defer (by kernel_rfl)) ⟨hc0',x0,xc,hcw,hls⟩ (fun hHeld => ?_)
       refine wpAnyH_take (i:=0) (v:=.pointer (some ⟨L.sb,0,none⟩)) rfl (by kernel_rfl) (by kernel_rfl) (by kernel_rfl) onlyN_panic (Or.inl ⟨by rfl,(by intro w hSw;obtain ⟨hs0,hs2,hsc,hsw,hsl⟩:=hSw;go_simp)⟩) (by assumption) ?_
       simp only [Act.put,List.setIfInBounds_toArray]
       refine wpAnyH_take (i:=1) (v:=.pointer (some ⟨L.sb,0,none⟩)) rfl (by kernel_rfl) (by kernel_rfl) (by kernel_rfl) onlyN_panic (Or.inl ⟨by rfl,(by intro w hSw;obtain ⟨hs0,hs2,hsc,hsw,hsl⟩:=hSw;go_simp)⟩) (by assumption) ?_
       simp only [Act.put]
       refine wpAnyH_take (i:=2) (v:=.pointer (some ⟨L.sb,0,none⟩)) rfl (by kernel_rfl) (by kernel_rfl) (by kernel_rfl) onlyN_panic (Or.inl ⟨by rfl,(by intro w hSw;obtain ⟨hs0,hs2,hsc,hsw,hsl⟩:=hSw;go_simp)⟩) (by assumption) ?_
       simp only [Act.put]
       refine wpAnyH_take (i:=3) (v:=.slice (some ⟨L.wb,0,none⟩) N N) rfl (by kernel_rfl) (by kernel_rfl) (by kernel_rfl) onlyN_panic (Or.inl ⟨by rfl,(by intro w hSw;obtain ⟨hs0,hs2,hsc,hsw,hsl⟩:=hSw;go_simp)⟩) (by assumption) ?_
       simp only [Act.put]
       refine wpAnyH_take (i:=4) (v:=.int .i64 (i:Int)) rfl (by kernel_rfl) (by kernel_rfl) (by kernel_rfl) onlyN_panic (Or.inl ⟨by rfl,(by intro w hSw;obtain ⟨hs0,hs2,hsc,hsw,hsl⟩:=hSw;go_simp)⟩) (by assumption) ?_
       simp only [Act.put]
       refine wpAnyH_take (i:=5) (v:=.pointer (some ⟨L.wb,i,none⟩)) rfl (by kernel_rfl) (by kernel_rfl) (by kernel_rfl) onlyN_panic (Or.inl ⟨by rfl,(by intro w hSw;obtain ⟨hs0,hs2,hsc,hsw,hsl⟩:=hSw;go_simp)⟩) (by assumption) ?_
       simp only [Act.put]
       refine wpAnyH_take (i:=6) (v:=.int .i64 y) rfl (by kernel_rfl) (by kernel_rfl) (by kernel_rfl) onlyN_panic (Or.inl ⟨by rfl,(by intro w hSw;obtain ⟨hs0,hs2,hsc,hsw,hsl⟩:=hSw;go_simp)⟩) (by assumption) ?_
       simp only [Act.put]
       refine wpAnyH_take (i:=7) (v:=.pointer (some ⟨L.sb,0,none⟩)) rfl (by kernel_rfl) (by kernel_rfl) (by kernel_rfl) onlyN_panic (Or.inl ⟨by rfl,(by intro w hSw;obtain ⟨hs0,hs2,hsc,hsw,hsl⟩:=hSw;go_simp)⟩) (by assumption) ?_
       simp only [Act.put]
       refine wpAnyH_take (i:=8) (v:=.int .i64 (c:Int)) rfl (by kernel_rfl) (by kernel_rfl) (by kernel_rfl) onlyN_panic (Or.inl ⟨by rfl,(by intro w hSw;obtain ⟨hs0,hs2,hsc,hsw,hsl⟩:=hSw;go_simp)⟩) (by assumption) ?_
       simp only [Act.put]
       refine wpAnyH_take (i:=9) (v:=.int .i64 (i:Int)) rfl (by kernel_rfl) (by kernel_rfl) (by kernel_rfl) onlyN_panic (Or.inl ⟨by rfl,(by intro w hSw;obtain ⟨hs0,hs2,hsc,hsw,hsl⟩:=hSw;go_simp)⟩) (by assumption) ?_
       simp only [Act.put]
       refine wpAnyH_ready (rs:=[10]) (by kernel_rfl) (by simp) ?_
       refine AllReadyH.cons rfl (fun K hK => ?_) AllReadyH.nil
       go_simp
       refine (HLNK.out 1).mono ?_
       rintro e w7 ⟨rfl,m',rfl⟩
       refine hK.out _ _ hHeld (fun hHeld2 => ?_)
       clear hK K hHeld
       try simp only [Act.put,List.setIfInBounds_toArray,List.set_cons_zero,List.set_cons_succ]
       cases hyx:(y != x) with
       | true =>
        refine wpAnyH_take (i:=11) (v:=.bool true) rfl (by kernel_rfl) (by kernel_rfl) (by kernel_rfl) onlyN_panic (Or.inl ⟨by rfl,(by intro w hSw;obtain ⟨hs0,hs2,hsc,hsw,hsl⟩:=hSw;go_simp)⟩) (by assumption) ?_
        simp only [Act.put,List.setIfInBounds_toArray]
        refine wpAnyH_done (by kernel_rfl) ⟨rfl,?_⟩ _
        have hbad:=HXY.out.2 (by simpa using hyx)
        have HBAD:=Lib.hid hbad
        clear hbad hHeld2 hyx
        gi_wp2_with fail
        have hm7:((w6.drewN (1 + m')).setCell ⟨B + 1,0,none⟩ (.int .i64 (i:Int))).heap[B + 1]?=some (.cells #[.int .i64 (i:Int)] 3 (0,0)):=box1 (by exact HM6.out) _
        have ho7:Only (B + 1) (B + 2) w6 ((w6.drewN (1 + m')).setCell ⟨B + 1,0,none⟩ (.int .i64 (i:Int))):=((Only.refl _ _ w6).drewN _).setCell (p:=⟨B + 1,0,none⟩) (.inl ⟨Nat.le_refl _,Nat.lt_succ_self _⟩) _
        have hs7:Still w ((w6.drewN (1 + m')).setCell ⟨B + 1,0,none⟩ (.int .i64 (i:Int))):=(HS6.out.drewN _).setCell (p:=⟨B + 1,0,none⟩) (.inr (by show w.heap.size ≤ B + 1;omega)) _
        have hk7:KC ((w6.drewN (1 + m')).setCell ⟨B + 1,0,none⟩ (.int .i64 (i:Int))) B wx.heap.size L.sb (L.m (c + 1)) c (r.at .busy none) :=
         ⟨(box1_ne (by omega) _ _).trans HK6.out.x2,(box1_ne (by omega) _ _).trans HK6.out.xc,(box1_ne (by omega) _ _).trans HK6.out.xm,(box1_ne (by omega) _ _).trans HK6.out.xd,(box1_ne (by omega) _ _).trans HK6.out.xl⟩
        refine ⟨hk7.xl,.inl ⟨rfl,HIN.out,hs7.trans' (only_put _) (.inr (by omega)) (.inr (by omega)),hk7.put (by omega:B < wx.heap.size) _,(HO6.out.trans ho7).trans' (only_put _) (.inr (by omega)) (.inr (by omega)),i,(World.putObj_heap_other (by omega)).trans hm7,s.least_new HLE.out HSET.out.2 (Nat.lt_of_not_le HMI.out) HBAD.out⟩⟩
       | false =>
        refine wpAnyH_take (i:=11) (v:=.bool false) rfl (by kernel_rfl) (by kernel_rfl) (by kernel_rfl) onlyN_panic (Or.inl ⟨by rfl,(by intro w hSw;obtain ⟨hs0,hs2,hsc,hsw,hsl⟩:=hSw;go_simp)⟩) (by assumption) ?_
        simp only [Act.put,List.setIfInBounds_toArray]
        refine wpAnyH_done (by kernel_rfl) ⟨rfl,?_⟩ _
        have hbad:¬s.badc c i:=fun h => by have:=HXY.out.1 h;simp at hyx;exact this hyx
        have HBAD:=Lib.hid hbad
        clear hbad hHeld2 hyx
        gi_wp2_with fail
        refine ⟨HK6.out.xl,.inl ⟨rfl,HIN.out,((HS6.out.drewN 1).drewN m').trans' (only_put _) (.inr (by omega)) (.inr (by omega)),(KC.mk HK6.out.x2 HK6.out.xc HK6.out.xm HK6.out.xd HK6.out.xl:KC ((w6.drewN 1).drewN m') B wx.heap.size L.sb (L.m (c + 1)) c (r.at .busy none)).put (by omega:B < wx.heap.size) _,((HO6.out.drewN 1).drewN m').trans' (only_put _) (.inr (by omega)) (.inr (by omega)),m3,(World.putObj_heap_other (by omega)).trans HM6.out,s.least_on HLE.out HAI.out HSET.out.2 HBAD.out⟩⟩
     ·rintro e W2 ⟨hv,h1,h2,⟨m3,h3,h4⟩,h5⟩
      refine ⟨hv,?_⟩
      have hws:w.heap.size=B:=hB
      have hwx:=HX2.out
      have hfin:∀ o,KC (W2.putObj (wx.heap.size + 1 + 1 + 1) o) B wx.heap.size L.sb (L.m (c + 1)) c o:=fun o => by
       rcases h5 with h5 | h5
       ·exact h5.put (by omega) o
       ·exact h5.put (by omega) o
      have hgo:∀ o,Hid (KC (W2.putObj (wx.heap.size + 1 + 1 + 1) o) B wx.heap.size L.sb (L.m (c + 1)) c o ∧ Still w (W2.putObj (wx.heap.size + 1 + 1 + 1) o) ∧ Only (B + 1) (B + 2) wx (W2.putObj (wx.heap.size + 1 + 1 + 1) o) ∧ (W2.putObj (wx.heap.size + 1 + 1 + 1) o).heap[B + 1]?=some (.cells #[.int .i64 (m3:Int)] 3 (0,0))):=fun o =>
       Lib.hid ⟨hfin o,h1.trans' (only_put _) (.inr (by omega)) (.inr (by omega)),h2.trans' (only_put _) (.inr (by omega)) (.inr (by omega)),(World.putObj_heap_other (by omega)).trans h3⟩
      have HLE:=Lib.hid h4
      clear hfin h1 h2 h3 h4
      rcases h5 with h5 | h5
      ·refine .inl ⟨h5.xl,?_⟩
       have HG:=hgo (r.at .exhausted none)
       clear hgo h5
       generalize W2.putObj (wx.heap.size + 1 + 1 + 1) (r.at .exhausted none)=w7 at *
       go_wp2_with fail
       refine ⟨⟨(wx.heap.size + 1 + 1) :: ds,c + 1,⟨hlt,HG.out.2.1,?_,?_,HG.out.1.x2,m3,HG.out.2.2.2,HLE.out⟩,by omega,rfl⟩,?_⟩
       ·refine List.nodup_cons.2 ⟨fun hm => ?_,H2.out⟩
        have:=(H3.out _ hm).2.1
        omega
       ·intro D hD
        rcases List.mem_cons.1 hD with rfl | hD
        ·exact ⟨by omega,(Array.getElem?_eq_some_iff.1 HG.out.1.xd).1,HG.out.1.xd⟩
        ·obtain ⟨d1,d2,d3⟩:=H3.out D hD
         have d4:D ≠ B + 1:=fun e => by rw [e,H5.out] at d3;cases d3
         exact ⟨d1,Nat.lt_of_lt_of_le d2 HG.out.2.2.1.size,(HG.out.2.2.1.block D d2 (by omega)).trans d3⟩
       ·simp [intOf];omega
      ·refine .inr ⟨.exit 4,h5.xl,?_⟩
       have HG:=hgo (r.at .exhausted (some (.exit 4)))
       clear hgo h5
       generalize W2.putObj (wx.heap.size + 1 + 1 + 1) (r.at .exhausted (some (.exit 4)))=w7 at *
       refine wpIn_wide.2 ?_
       go_wp2_with fail
       refine ⟨⟨(wx.heap.size + 1 + 1) :: ds,c + 1,⟨hlt,HG.out.2.1,?_,?_,HG.out.1.x2,m3,HG.out.2.2.2,HLE.out⟩,by omega,rfl⟩,?_⟩
       ·refine List.nodup_cons.2 ⟨fun hm => ?_,H2.out⟩
        have:=(H3.out _ hm).2.1
        omega
       ·intro D hD
        rcases List.mem_cons.1 hD with rfl | hD
        ·exact ⟨by omega,(Array.getElem?_eq_some_iff.1 HG.out.1.xd).1,HG.out.1.xd⟩
        ·obtain ⟨d1,d2,d3⟩:=H3.out D hD
         have d4:D ≠ B + 1:=fun e => by rw [e,H5.out] at d3;cases d3
         exact ⟨d1,Nat.lt_of_lt_of_le d2 HG.out.2.2.1.size,(HG.out.2.2.1.block D d2 (by omega)).trans d3⟩
       ·simp [intOf];omega
    ·obtain rfl:c=8:=by omega
     have c0:=(HS.out.still H1.out).c0N HN.out
     have xm:=cell_of (v:=.int .i64 (m2:Int)) H5.out 0 rfl
     have hls:=(HS.out.still H1.out).sblt
     have hmI:(if m2=N then (-1:Int) else (m2:Int))=if m2=N then (-1:Int) else (m2:Int):=rfl
     clear hmI
     have hx1:=hlx1
     by_cases hmN:m2=N
     ·have g1:((m2:Int) == (N:Int))=true:=by rw [hmN];simp
      have HMN:=Lib.hid hmN
      clear hmN
      go_wp2_with fail
      refine wpIn_wide.2 ?_
      go_wp2_with fail
      go_quiet (fail)
      go_wp2_with fail
      refine leaves_marks B wx.heap.size ds _ H2.out H3.out (fun w' ho => ?_)
      refine ⟨.int .i64 (-1),by simp [results,Tryz.results34,go_sem],?_⟩
      refine ⟨⟨m2,H6.out,?_⟩,(H1.out.drewN _).trans' ho (.inr (by omega)) (.inr (by omega))⟩
      rw [if_pos HMN.out]
     ·have g1:((m2:Int) == (N:Int))=false:=by simp;omega
      have HMN:=Lib.hid hmN
      clear hmN
      go_wp2_with fail
      refine wpIn_wide.2 ?_
      go_wp2_with fail
      go_quiet (fail)
      go_wp2_with fail
      refine leaves_marks B wx.heap.size ds _ H2.out H3.out (fun w' ho => ?_)
      refine ⟨.int .i64 (m2:Int),by simp [results,Tryz.results34,go_sem],?_⟩
      refine ⟨⟨m2,H6.out,?_⟩,(H1.out.drewN _).trans' ho (.inr (by omega)) (.inr (by omega))⟩
      rw [if_neg HMN.out]
end Go.Proofs.YtfbcdmhmpfijjaaGreatDoor
