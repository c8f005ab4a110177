/-
  What the walk over all objects of a pair keeps.
-/
import Derived.Laws.Rows
import Derived.Test.YtfbcdmhmpfijjaaGreatDoorQ48
import Derived.Test.YtfbcdmhmpfijjaaGreatDoorQ45
import Derived.Test.YtfbcdmhmpfijjaaGreatDoorQ21
set_option linter.unusedVariables false
set_option linter.unusedSimpArgs false
set_option linter.unusedSectionVars false
namespace Go.Proofs.YtfbcdmhmpfijjaaGreatDoor
open Go Go.RowKit
theorem IsRowI.only {w w':World} {lo hi:Nat} {a:Option Addr} {len cap:Nat} {zs:Nat → Int} (h:IsRowI w a len cap zs) (ho:Only lo hi w w') (hd:∀ x,a=some x → 0 < len → x.block < lo ∨ hi ≤ x.block):IsRowI w' a len cap zs:=by
 refine ⟨h.1,fun i hi => ?_⟩
 obtain ⟨x,e,hc,hw⟩:=h.2 i hi
 exact ⟨x,e,(ho.cell (p:=x.add i) (World.block_lt_of_cell? w _ hc) (by rw [add_block];exact hd x e (by omega))).trans hc,hw⟩
theorem IsRowI.still {w w':World} {a:Option Addr} {len cap:Nat} {zs:Nat → Int} (h:IsRowI w a len cap zs) (ho:Still w w'):IsRowI w' a len cap zs:=by
 refine ⟨h.1,fun i hi => ?_⟩
 obtain ⟨x,e,hc,hw⟩:=h.2 i hi
 have hl:=World.block_lt_of_cell? w _ hc
 exact ⟨x,e,(ho.cell (p:=x.add i) hl (.inl hl)).trans hc,hw⟩
theorem IsRowI.lt {w:World} {a:Option Addr} {len cap:Nat} {zs:Nat → Int} (h:IsRowI w a len cap zs):∀ x,a=some x → 0 < len → x.block < w.heap.size:=fun x e hl => by
 obtain ⟨y,e2,hc,_⟩:=h.2 0 hl
 rw [e] at e2
 injection e2 with e2
 subst e2
 have:=World.block_lt_of_cell? w _ hc
 rwa [add_block] at this
theorem lent_row {W:World} {g cap ll:Nat} {zs:Nat → Int} (hz:∀ j,j < ll → (Lit.int .i64 (zs j)).wf=true) (hl:ll ≤ 400) (h:RowB W g 3 (ll + 20) 1 (fun j _ => lentF ((List.range ll).map zs) j)):IsRowI W (some ⟨g,0,none⟩) ll cap zs:=by
 refine ⟨by omega,fun j hj => ⟨_,rfl,?_,hz j hj⟩⟩
 have hc:=h.cell (i:=j) (d:=0) (by omega) (by omega)
 rw [Nat.mul_one,Nat.add_zero] at hc
 have e:(⟨g,0,none⟩:Addr).add j=⟨g,j,none⟩:=by rw [add_at]
 rw [e,hc]
 unfold lentF
 rw [if_pos (by simpa using hj),List.getD_eq_getElem?_getD,List.getElem?_map,List.getElem?_range hj]
 rfl
set_option maxRecDepth 100000 in
set_option maxHeartbeats 6400000 in
theorem looked14 (w:World) (pb:Nat) (L:Lay) (R:RLay) (s:St) (own:Nat → Lb) (qf:Nat → Nat) (C:Nat) (h:PairAt w pb L R s own qf C) (wh a b c:Int) (la:Option Addr) (ll lc:Nat) (zs:Nat → Int) (hz:IsRowI w la ll lc zs) (hl:ll ≤ 400) (hac:s.acts + 2000 ≤ 1000000000000) :
 Calls Tryz.prog 13 #[.pointer (some ⟨pb,0,none⟩),opVal wh 14 a b c la ll lc] w fun e w' => e=.returned (.bool true) ∧ Still w w':=by
 have HP:=Lib.hid h
 have HZ:=Lib.hid hz
 obtain ⟨hzl,hzw⟩:=hz.ints (by omega)
 have hln:((List.range ll).map zs).length=ll:=by simp
 have HZW:Hid (∀ j,j < ll → (Lit.int .i64 (zs j)).wf=true):=Lib.hid fun j hj => (hz.2 j hj).elim fun _ h => h.2.2
 have HZL:=Lib.hid hzl
 obtain ⟨q,hq⟩:∃ q,(s.simTo zs ll).isSome=q:=⟨_,rfl⟩
 have HLE:Hid (∀ W,Still w W → Calls Tryz.prog 24 #[.slice la ll lc] W fun e w' => (∃ g cap,e=.returned (.slice (some ⟨g,0,none⟩) (ll + 20) cap) ∧ W.heap.size ≤ g ∧ ll + 20 ≤ cap ∧ RowB w' g 3 (ll + 20) 1 (fun j _ => lentF ((List.range ll).map zs) j)) ∧ Still W w'):=Lib.hid fun W hW => by
  have:=lent_any W _ _ (hzl.still hW) (by omega)
  rwa [hln] at this
 have HF1:Hid (∀ W g cap,Still w W → RowB W g 3 (ll + 20) 1 (fun j _ => lentF ((List.range ll).map zs) j) → Calls Tryz.prog 25 #[.pointer (some ⟨L.sb,0,none⟩),.slice (some ⟨g,0,none⟩) ll cap] W fun e w' => e=.returned (.bool q) ∧ Still W w'):=Lib.hid fun W g cap hW hr => by
  have:=sfits_any W L s (h.sp.still hW) _ ll cap zs (lent_row HZW.out hl hr) (by omega)
  rwa [hq] at this
 have HKP:Hid (∀ W g cap,IntsIn W (.slice la ll lc) ((List.range ll).map zs) → RowB W g 3 (ll + 20) 1 (fun j _ => lentF ((List.range ll).map zs) j) → Calls Tryz.prog 26 #[.slice (some ⟨g,0,none⟩) (ll + 20) cap,.slice la ll lc] W fun e w' => e=.returned (.bool true) ∧ Only g (g + 1) W w'):=Lib.hid fun W g cap hi hr => by
  have:=kept_all W g cap _ _ hi (by omega) (by rw [hln];exact hr)
  rwa [hln] at this
 have HF2:Hid (∀ W,RefAt W R s → IsRowI W la ll lc zs → Calls Tryz.prog 27 #[.pointer (some ⟨R.rb,0,none⟩),.slice la ll lc] W fun e w' => e=.returned (.bool q) ∧ Still W w'):=Lib.hid fun W hr hzz => by
  have:=rsfits_any W R s hr h.iv h.sp.lowle la ll lc zs hzz hl hac
  rwa [← rf_same h.iv h.sp.lowle,hq] at this
 have hqq:(q == q)=true:=by simp
 have hlI:(ll:Int) ≤ 400:=by omega
 clear h hz hzl hzw hln hq
 go_enter Tryz.func13,Tryz.ntmps13
 go_upto_region 13 with fail
 have hbo:=heap_alloc_new w (opObj wh 14 a b c la ll lc)
 have hsb:Still w (w.alloc (opObj wh 14 a b c la ll lc)):=(Only.refl _ _ w).alloc _
 generalize w.alloc (opObj wh 14 a b c la ll lc)=w0 at *
 generalize hob:w.heap.size=ob at *
 have hob1:=(Array.getElem?_eq_some_iff.1 hbo).1
 have HSB:=Lib.hid hsb
 have HOB:=Lib.hid hob
 have HBO:=Lib.hid hbo
 have x5:=cell_of (v:=.slice la ll lc) hbo 5 rfl
 have HL0:=Lib.hid (HLE.out _ hsb)
 clear hsb hbo hob HLE
 go_wp2_with fail
 refine HL0.out.mono ?_
 rintro e1 w1 ⟨⟨g,cap,rfl,hg,hcap,hrow⟩,hs1⟩
 have HG:=Lib.hid hg
 have HROW:=Lib.hid hrow
 have HS1:=Lib.hid (Still.trans HSB.out hs1)
 have hbo:=(hs1.block _ hob1 (.inl hob1)).trans HBO.out
 have hob1:=(Array.getElem?_eq_some_iff.1 hbo).1
 have HBO1:=Lib.hid hbo
 have hpl:=(HP.out.still HS1.out).lt
 have hgl:=hrow.lt
 have hcapn:ll ≤ cap:=by omega
 have hcapI:(ll:Int) ≤ (cap:Int):=by omega
 have hgo:ob < g:=by
  have:=(Array.getElem?_eq_some_iff.1 HBO.out).1
  omega
 have HC:Hid (∀ W,Only g (g + 1) w1 W → W.cell? ⟨pb,0,none⟩=some (.pointer (some ⟨L.sb,0,none⟩)) ∧ W.cell? ⟨pb,1,none⟩=some (.pointer (some ⟨R.rb,0,none⟩)) ∧ W.cell? ⟨ob,5,none⟩=some (.slice la ll lc)):=Lib.hid fun W hW => by
  have hp:=HP.out.still HS1.out
  have hpg:pb < g:=by
   have:=HP.out.lt
   have:=HOB.out
   omega
  exact ⟨(hW.cell (p:=⟨pb,0,none⟩) hp.lt (.inl hpg)).trans hp.c0,(hW.cell (p:=⟨pb,1,none⟩) hp.lt (.inl hpg)).trans hp.c1,cell_of (v:=.slice la ll lc) ((hW.block _ hob1 (.inl hgo)).trans HBO1.out) 5 rfl⟩
 clear hg hrow hs1 hbo x5 HL0 hcap
 have hsC:Still w1 w1:=Only.refl _ _ _
 obtain ⟨k0,k1,k5⟩:=HC.out _ (hsC.any _ _)
 go_upto_region 14 with fail
 go_cut [10] from 76 to 85 (fun s10 wx => s10=.bool q ∧ Still w1 wx)
 case first =>
  go_region_held3 (fun w' => w'.cell? ⟨pb,0,none⟩=some (.pointer (some ⟨L.sb,0,none⟩)) ∧ w'.cell? ⟨pb,1,none⟩=some (.pointer (some ⟨R.rb,0,none⟩)) ∧ w'.cell? ⟨ob,5,none⟩=some (.slice la ll lc))
   ((refine HC.out _ (Still.any ?_ _ _);(repeat first | with_reducible exact hsC | with_reducible exact Only.refl _ _ _ | with_reducible apply Only.drew | with_reducible apply Only.drewN | with_reducible apply Only.alloc)))
   (first | (go_at_call 25;refine (HF1.out _ g cap (Still.trans HS1.out (by (repeat first | with_reducible exact hsC | with_reducible exact Only.refl _ _ _ | with_reducible apply Only.drew | with_reducible apply Only.drewN | with_reducible apply Only.alloc))) (HROW.out.still (by (repeat first | with_reducible exact hsC | with_reducible exact Only.refl _ _ _ | with_reducible apply Only.drew | with_reducible apply Only.drewN | with_reducible apply Only.alloc)))).mono ?_;rintro e wp ⟨rfl,hcall⟩;have hsC:Still w1 wp:=Still.trans (by (repeat first | with_reducible exact hsC | with_reducible exact Only.refl _ _ _ | with_reducible apply Only.drew | with_reducible apply Only.drewN | with_reducible apply Only.alloc)) hcall))
  all_goals
   go_wp2_with fail
   go_meet
   exact ⟨rfl,(by (repeat first | with_reducible exact hsC | with_reducible exact Only.refl _ _ _ | with_reducible apply Only.drew | with_reducible apply Only.drewN | with_reducible apply Only.alloc))⟩
 case rest =>
  obtain ⟨rfl,hs2⟩:=hcut
  generalize wc=w2 at *
  have HW12:=Lib.hid hs2
  have HS2:=Lib.hid (Still.trans HS1.out hs2)
  clear hsC k0 k1 k5
  have hsC:Only g (g + 1) w2 w2:=Only.refl _ _ _
  have HC2:Hid (∀ W,Only g (g + 1) w2 W → W.cell? ⟨pb,0,none⟩=some (.pointer (some ⟨L.sb,0,none⟩)) ∧ W.cell? ⟨pb,1,none⟩=some (.pointer (some ⟨R.rb,0,none⟩)) ∧ W.cell? ⟨ob,5,none⟩=some (.slice la ll lc)):=Lib.hid fun W hW => HC.out W ((HW12.out.any _ _).trans hW)
  obtain ⟨k0,k1,k5⟩:=HC2.out _ hsC
  have hpl:=(HP.out.still HS2.out).lt
  have hgl:=Nat.lt_of_lt_of_le hgl hs2.size
  have hob1:=Nat.lt_of_lt_of_le hob1 hs2.size
  clear hs2
  have HK2:Hid (∀ W,Still w2 W → Calls Tryz.prog 26 #[.slice (some ⟨g,0,none⟩) (ll + 20) cap,.slice la ll lc] W fun e w' => e=.returned (.bool true) ∧ Only g (g + 1) W w'):=Lib.hid fun W hW => HKP.out W g cap (HZL.out.still (Still.trans HS2.out hW)) (HROW.out.still (Still.trans HW12.out hW))
  have HR2:Hid (∀ W,Only g (g + 1) w2 W → Calls Tryz.prog 27 #[.pointer (some ⟨R.rb,0,none⟩),.slice la ll lc] W fun e w' => e=.returned (.bool q) ∧ Still W w'):=Lib.hid fun W hW => HF2.out W ((HP.out.rf.still HS2.out).kept hW (.inl (by have:=HP.out.rf.top;have:=HOB.out;omega))) ((HZ.out.still HS2.out).only hW fun x e hl => .inl (by have:=HZ.out.lt x e hl;have:=HOB.out;omega))
  go_wp2_with fail
  go_cut [4] from 86 to 100 (fun s4 wx => s4=.bool true ∧ Only g (g + 1) w2 wx)
  case first =>
   have hsP:Still w2 w2:=Only.refl _ _ _
   go_region_held3 (fun w' => w'.cell? ⟨pb,0,none⟩=some (.pointer (some ⟨L.sb,0,none⟩)) ∧ w'.cell? ⟨pb,1,none⟩=some (.pointer (some ⟨R.rb,0,none⟩)) ∧ w'.cell? ⟨ob,5,none⟩=some (.slice la ll lc))
    ((refine HC2.out _ ?_;(repeat first | with_reducible exact hsC | with_reducible exact Only.refl _ _ _ | with_reducible apply Only.drew | with_reducible apply Only.drewN | with_reducible apply Only.alloc)))
    (first
      | (go_at_call 26;refine (HK2.out _ (by (repeat first | with_reducible exact hsP | with_reducible exact Only.refl _ _ _ | with_reducible apply Only.drew | with_reducible apply Only.drewN | with_reducible apply Only.alloc))).mono ?_;rintro e wp ⟨rfl,hcall⟩;have hsC:Only g (g + 1) w2 wp:=Only.trans (by (repeat first | with_reducible exact hsC | with_reducible exact Only.refl _ _ _ | with_reducible apply Only.drew | with_reducible apply Only.drewN | with_reducible apply Only.alloc)) hcall)
      | (go_at_call 27;refine (HR2.out _ (by (repeat first | with_reducible exact hsC | with_reducible exact Only.refl _ _ _ | with_reducible apply Only.drew | with_reducible apply Only.drewN | with_reducible apply Only.alloc))).mono ?_;rintro e wq ⟨rfl,hcall⟩;have hsC:Only g (g + 1) w2 wq:=Only.andStill (by (repeat first | with_reducible exact hsC | with_reducible exact Only.refl _ _ _ | with_reducible apply Only.drew | with_reducible apply Only.drewN | with_reducible apply Only.alloc)) hcall))
   all_goals
    go_wp2_with fail
    go_meet
    exact ⟨rfl,(by (repeat first | with_reducible exact hsC | with_reducible exact Only.refl _ _ _ | with_reducible apply Only.drew | with_reducible apply Only.drewN | with_reducible apply Only.alloc))⟩
  case rest =>
   obtain ⟨rfl,hs3⟩:=hcut
   have HE:Hid (Still w wc):=Lib.hid (HS2.out.trans' hs3 (.inr (by have:=HG.out;have:=(HSB.out).size;omega)) (.inr (by have:=HG.out;have:=(HSB.out).size;omega)))
   clear hs3 hsC k0 k1 k5
   go_wp2_with fail
   go_ret
   exact ⟨rfl,HE.out⟩
end Go.Proofs.YtfbcdmhmpfijjaaGreatDoor
namespace Go.Proofs.YtfbcdmhmpfijjaaGreatDoor
open Go Go.RowKit
def St.nxt (s:St) (a:Nat):Option Ob:=if Bm.next (s.B 0) (64 * s.n) (a:Int) < 0 then none else some ⟨(Bm.next (s.B 0) (64 * s.n) (a:Int)).toNat,s.sh (Bm.next (s.B 0) (64 * s.n) (a:Int)).toNat⟩
theorem St.nxt_some {s:St} {a i:Nat} (h:Bm.next (s.B 0) (64 * s.n) (a:Int)=((i:Nat):Int)):s.nxt a=some ⟨i,s.sh i⟩:=by
 unfold St.nxt
 rw [h,if_neg (by omega),Int.toNat_natCast]
theorem St.nxt_none {s:St} {a:Nat} (h:Bm.next (s.B 0) (64 * s.n) (a:Int)=-1):s.nxt a=none:=by
 unfold St.nxt
 rw [h,if_pos (by decide)]
theorem St.nxt_at {s:St} {a i:Nat} (hai:a ≤ i) (hi:i < 64 * s.n) (hb:s.B 0 i=true) (hno:∀ j,a ≤ j → j < i → s.B 0 j=false):s.nxt a=some ⟨i,s.sh i⟩:=by
 refine St.nxt_some ?_
 rcases Bm.next_spec (s.B 0) (64 * s.n) (a:Int) with ⟨_,e⟩ | ⟨i',e,h2,h3,h4,h5⟩
 ·have:=e i (by omega) hi
  rw [hb] at this;cases this
 ·rw [e]
  by_cases h1:i' < i
  ·have:=hno i' (by omega) h1
   rw [h4] at this;cases this
  ·by_cases h6:i < i'
   ·have:=h5 i (by omega) h6
    rw [hb] at this;cases this
   ·have:i'=i:=by omega
    rw [this]
theorem St.nxt_no {s:St} {a:Nat} (hno:∀ j,a ≤ j → j < 64 * s.n → s.B 0 j=false):s.nxt a=none:=by
 refine St.nxt_none ?_
 rcases Bm.next_spec (s.B 0) (64 * s.n) (a:Int) with ⟨e,_⟩ | ⟨i',e,h2,h3,h4,h5⟩
 ·exact e
 ·have:=hno i' (by omega) h3
  rw [h4] at this;cases this
abbrev nxV (o:Option Ob):Value:=.tuple #[(o.getD ob0).val,.bool o.isSome]
set_option maxRecDepth 100000 in
set_option maxHeartbeats 6400000 in
theorem after_any (w:World) (R:RLay) (s:St) (h:RefAt w R s) (hs:s.RefOk) (pb:Nat) (c1:w.cell? ⟨pb,1,none⟩=some (.pointer (some ⟨R.rb,0,none⟩))) (a:Nat) (x:Int) (hx:x=(a:Int) - 1) (ha:a ≤ 64 * s.n) :
 Calls Tryz.prog 76 #[.pointer (some ⟨pb,0,none⟩),.int .i64 x] w fun e w' => e=.returned (nxV (s.nxt a)) ∧ Still w w':=by
 have HS:=Lib.hid hs
 have hpl:pb < w.heap.size:=World.block_lt_of_cell? w _ c1
 have hn2:=h.n2
 have hb0:=heap_alloc_new w (.cells #[.int .i64 0,.int .i64 0,.int .i64 0,.int .i64 0,.int .i64 0] 95)
 have hst:Still w (w.alloc (.cells #[.int .i64 0,.int .i64 0,.int .i64 0,.int .i64 0,.int .i64 0] 95)):=(Only.refl _ _ w).alloc _
 have hr:=h.still hst
 have c1':(w.alloc (.cells #[.int .i64 0,.int .i64 0,.int .i64 0,.int .i64 0,.int .i64 0] 95)).cell? ⟨pb,1,none⟩=some (.pointer (some ⟨R.rb,0,none⟩)):=Lib.cell?_alloc_some _ c1
 obtain ⟨N,hN⟩:∃ N,64 * s.n=N:=⟨_,rfl⟩
 have HN:=Lib.hid hN
 have hNM:(N:Int) ≤ 262144:=by omega
 rw [hN] at ha
 have haI:(a:Int) ≤ (N:Int):=by omega
 have ha0:(0:Int) ≤ (a:Int):=by omega
 have hx1:x + 1=(a:Int):=by omega
 have hx2:IntKind.i64.wrap (x + 1)=(a:Int):=by rw [IntKind.wrap_i64];omega
 have hx3:wrap64 (x + 1)=(a:Int):=by unfold wrap64;omega
 have hxr:-1 ≤ x ∧ x ≤ 262144:=by omega
 clear h hs hN hn2 c1 hx
 go_enter Tryz.func76,Tryz.ntmps76
 go_wp2_with fail
 generalize w.alloc (.cells #[.int .i64 0,.int .i64 0,.int .i64 0,.int .i64 0,.int .i64 0] 95)=w1 at *
 have HST:=Lib.hid hst
 have HR:=Lib.hid hr
 have hbl:=(Array.getElem?_eq_some_iff.1 hb0).1
 have hpl1:pb < w1.heap.size:=World.block_lt_of_cell? w1 _ c1'
 have z0:=cell_of (v:=.int .i64 0) hb0 0 rfl
 have z1:=cell_of (v:=.int .i64 0) hb0 1 rfl
 have z2:=cell_of (v:=.int .i64 0) hb0 2 rfl
 have z3:=cell_of (v:=.int .i64 0) hb0 3 rfl
 have z4:=cell_of (v:=.int .i64 0) hb0 4 rfl
 have f0:=frozen_of hb0 0
 have f1:=frozen_of hb0 1
 have f2:=frozen_of hb0 2
 have f3:=frozen_of hb0 3
 have f4:=frozen_of hb0 4
 have c2:=hr.c2
 obtain ⟨l1,l2,l3,l4,l5⟩:=hr.lts
 rw [HN.out] at c2
 clear hst hr hb0
 go_loopw [1] (fun y W => ∃ i:Nat,y=.int .i64 (i:Int) ∧ a ≤ i ∧ i ≤ N ∧ W=w1 ∧ Hid (∀ j,a ≤ j → j < i → s.B 0 j=false)) (fun y _ => N + 1 - (intOf y).toNat)
 case atStart => exact ⟨a,by first | rfl | rw [hx1],Nat.le_refl _,ha,rfl,Lib.hid fun j h1 h2 => by omega⟩
 case round =>
  obtain ⟨i,rfl,hai,hi,rfl,HNO⟩:=hrel
  have hi0:(0:Int) ≤ (i:Int):=by omega
  by_cases hin:i < N
  ·have hiI:(i:Int) < (N:Int):=by omega
   have hiN:i < 64 * s.n:=by rw [HN.out];exact hin
   have o1:=HR.out.objs.cell hiN (d:=1) (by omega)
   cases hb0:s.B 0 i with
   | false =>
    have e:s.ro i 1=0:=by unfold St.ro;rw [hb0];rfl
    rw [e] at o1
    have HN2:Hid (∀ j,a ≤ j → j < i + 1 → s.B 0 j=false):=Lib.hid fun j h1 h2 => by
     by_cases e:j=i
     ·rw [e];exact hb0
     ·exact HNO.out j h1 (by omega)
    clear e hb0
    go_wp2_with fail
    exact ⟨⟨i + 1,by go_num,by omega,hin,(by first | trivial | rfl),HN2⟩,by first | (simp [intOf];done) | (simp [intOf];omega)⟩
   | true =>
    have HQ:=Lib.hid (s.nxt_at hai hiN hb0 HNO.out)
    have hk:=(HS.out.fine i hb0).1.2.2.1
    have o0:=HR.out.objs.cell hiN (d:=0) (by omega)
    have o2:=HR.out.objs.cell hiN (d:=2) (by omega)
    have o3:=HR.out.objs.cell hiN (d:=3) (by omega)
    have o4:=HR.out.objs.cell hiN (d:=4) (by omega)
    have e:∀ d,s.ro i d=if d=0 then (i:Int) else if d=1 then (s.sh i).k else if d=2 then (s.sh i).z else if d=3 then (s.sh i).s else (s.sh i).t:=fun d => by unfold St.ro;rw [if_pos hb0]
    rw [e,Nat.add_zero] at o0
    rw [e] at o1 o2 o3 o4
    change _=some (Value.int IntKind.i64 (i:Int)) at o0
    change _=some (Value.int IntKind.i64 (s.sh i).k) at o1
    change _=some (Value.int IntKind.i64 (s.sh i).z) at o2
    change _=some (Value.int IntKind.i64 (s.sh i).s) at o3
    change _=some (Value.int IntKind.i64 (s.sh i).t) at o4
    obtain ⟨⟨k,z,r,t⟩,hx⟩:∃ x,s.sh i=x:=⟨_,rfl⟩
    rw [hx] at hk o1 o2 o3 o4 HQ
    dsimp only at hk o1 o2 o3 o4
    have hkn:(k != 0)=true:=by simp;omega
    clear e hb0 hx hk
    go_wp2_with fail
    exact bodyPost_ret (v:=.tuple #[blockV (i:Int) ⟨k,z,r,t⟩,.bool true]) (by simp [results,Tryz.results76,go_sem, *]) rfl ⟨by rw [HQ.out];rfl,by
     repeat first | exact HST.out | (refine Only.setCell ?_ (.inr (Nat.le_refl _)) _) | apply Only.alloc⟩
  ·obtain rfl:i=N:=by omega
   have HQ:=Lib.hid (s.nxt_no (a:=a) (fun j h1 h2 => HNO.out j h1 (by rw [HN.out] at h2;exact h2)))
   go_wp2_with fail
   exact bodyPost_ret (v:=.tuple #[block0,.bool false]) (by simp [results,Tryz.results76,go_sem, *]) rfl ⟨by rw [HQ.out];rfl,by
    repeat first | exact HST.out | (refine Only.setCell ?_ (.inr (Nat.le_refl _)) _) | apply Only.alloc⟩
end Go.Proofs.YtfbcdmhmpfijjaaGreatDoor
namespace Go.Proofs.YtfbcdmhmpfijjaaGreatDoor
open Go Go.RowKit
theorem PairAt.beyond {w w':World} {pb:Nat} {L:Lay} {R:RLay} {s:St} {own:Nat → Lb} {qf:Nat → Nat} {C lo hi:Nat} (h:PairAt w pb L R s own qf C) (ho:Only lo hi w w') (hR:R.hi ≤ lo) (hg:∀ g,own g ≠ Lno → g < lo):PairAt w' pb L R s own qf C:=by
 have hlo:=h.rlo
 have hlr:=h.lr
 have h0:=h.rf.ok.rb1
 exact ⟨h.k.kf (kf_only ho) fun g hg' hb => by have:=hg g hg';omega,h.sp.kept ho (.inl (by omega)) (by omega),h.rf.kept ho (.inl hR),h.iv,h.lr,h.ow,h.n24⟩
theorem PFr.beyond {L:Lay} {R:RLay} {w w1 w2:World} {own own1:Nat → Lb} {lo hi:Nat} (h:PFr L R w own w1 own1) (ho:Only lo hi w1 w2) (hl:w.heap.size ≤ lo):PFr L R w own w2 own1 :=
 ⟨h.kf.trans (kf_only ho) fun g hg hb => by omega,h.lb⟩
abbrev obObj (o:Ob):Obj:=.cells #[.int .i64 (o.at':Int),.int .i64 o.sh.k,.int .i64 o.sh.z,.int .i64 o.sh.s,.int .i64 o.sh.t] 95 (0,0)
structure GoneJ (w0:World) (pb:Nat) (L:Lay) (R:RLay) (own:Nat → Lb) (qf:Nat → Nat) (C x y:Nat) (A B D:Int) (s:St) (o:Option Ob) (t:Int) (W:World):Prop where
 pr:PairAt W pb L R s own qf C
 fr:PFr L R w0 own W own
 x0:w0.heap.size ≤ x
 xy:x + 1 < y
 rx:R.hi ≤ x
 ox:∀ g,own g ≠ Lno → g < x
 px:W.heap[x]?=some (.cells #[.pointer (some ⟨pb,0,none⟩)] 22 (0,0))
 bx:∃ wh la ll lc,W.heap[x + 1]?=some (opObj wh 17 A B D la ll lc)
 wt:W.heap[y]?=some (obObj (o.getD ob0))
 mr:W.heap[y + 1]?=some (.cells #[.bool o.isSome] 4 (0,0))
 tl:W.heap[y + 2]?=some (.cells #[.int .i64 t] 3 (0,0))
 gd:W.heap[y + 3]?=some (.cells #[.bool true] 4 (0,0))
section
variable {w0:World} {pb:Nat} {L:Lay} {R:RLay} {own:Nat → Lb} {qf:Nat → Nat} {C x y:Nat} {A B D:Int} {s s':St} {o o':Option Ob} {t t':Int} {W W':World} (h:GoneJ w0 pb L R own qf C x y A B D s o t W)
include h
theorem GoneJ.lt:y + 3 < W.heap.size:=(Array.getElem?_eq_some_iff.1 h.gd).1
theorem GoneJ.beyond {lo hi:Nat} (ho:Only lo hi W W') (hl:y + 4 ≤ lo):GoneJ w0 pb L R own qf C x y A B D s o t W':=by
 have h1:=h.x0
 have h2:=h.xy
 have h3:=h.rx
 obtain ⟨wh,la,ll,lc,hb⟩:=h.bx
 exact ⟨h.pr.beyond ho (by omega) fun g hg => by have:=h.ox g hg;omega,h.fr.beyond ho (by omega),h1,h2,h3,h.ox,at_only ho h.px (.inl (by omega)),⟨wh,la,ll,lc,at_only ho hb (.inl (by omega))⟩,at_only ho h.wt (.inl (by omega)),at_only ho h.mr (.inl (by omega)),at_only ho h.tl (.inl (by omega)),at_only ho h.gd (.inl (by omega))⟩
theorem GoneJ.still (hs:Still W W'):GoneJ w0 pb L R own qf C x y A B D s o t W':=h.beyond hs h.lt
theorem GoneJ.boxes (ho:Only y (y + 4) W W') (h1:W'.heap[y]?=some (obObj (o'.getD ob0))) (h2:W'.heap[y + 1]?=some (.cells #[.bool o'.isSome] 4 (0,0))) (h3:W'.heap[y + 2]?=some (.cells #[.int .i64 t'] 3 (0,0))) (h4:W'.heap[y + 3]?=some (.cells #[.bool true] 4 (0,0))):GoneJ w0 pb L R own qf C x y A B D s o' t' W':=by
 have e1:=h.x0
 have e2:=h.xy
 have e3:=h.rx
 obtain ⟨wh,la,ll,lc,hb⟩:=h.bx
 exact ⟨h.pr.beyond ho (by omega) fun g hg => by have:=h.ox g hg;omega,h.fr.beyond ho (by omega),e1,e2,e3,h.ox,at_only ho h.px (.inl (by omega)),⟨wh,la,ll,lc,at_only ho hb (.inl (by omega))⟩,h1,h2,h3,h4⟩
theorem GoneJ.turn (hp:PairAt W' pb L R s' own qf C) (hf:PFr L R W own W' own):GoneJ w0 pb L R own qf C x y A B D s' o t W':=by
 have e1:=h.x0
 have e2:=h.xy
 have e3:=h.rx
 have hk:∀ g,x ≤ g → ∀ v,W.heap[g]?=some v → W'.heap[g]?=some v:=fun g hg v hv => (hf.kf.block g (Array.getElem?_eq_some_iff.1 hv).1 fun hq => hq.elim (fun e => by have:=h.ox g e;omega) fun e => by omega).trans hv
 obtain ⟨wh,la,ll,lc,hb⟩:=h.bx
 exact ⟨hp,h.fr.trans hf,e1,e2,e3,h.ox,hk _ (by omega) _ h.px,⟨wh,la,ll,lc,hk _ (by omega) _ hb⟩,hk _ (by omega) _ h.wt,hk _ (by omega) _ h.mr,hk _ (by omega) _ h.tl,hk _ (by omega) _ h.gd⟩
theorem GoneJ.kept (hf:PFr L R W own W' own):∀ k,x ≤ k → k < W.heap.size → W'.heap[k]?=W.heap[k]?:=fun k hk hl => hf.kf.block k hl fun hq => hq.elim (fun e => by have:=h.ox k e;omega) fun e => by have:=h.rx;omega
end
theorem box5 {w:World} {b:Nat} (o p:Ob) (h:w.heap[b]?=some (obObj o)):(((((w.setCell ⟨b,0,none⟩ (.int .i64 (p.at':Int))).setCell ⟨b,1,none⟩ (.int .i64 p.sh.k)).setCell ⟨b,2,none⟩ (.int .i64 p.sh.z)).setCell ⟨b,3,none⟩ (.int .i64 p.sh.s)).setCell ⟨b,4,none⟩ (.int .i64 p.sh.t)).heap[b]?=some (obObj p):=by
 simp only [World.setCell,Array.getElem?_modify,h]
 simp
theorem and_one_i64 (E:Int):bits BinOp.and IntKind.i64 E 1=E % 2:=by
 have h1:(BitVec.ofInt 64 E).toNat=(E % 18446744073709551616).toNat:=by rw [BitVec.toNat_ofInt];rfl
 have h2:(BitVec.ofInt 64 (1:Int)).toNat=1:=by decide
 show IntKind.i64.wrap ((BitVec.ofInt 64 E &&& BitVec.ofInt 64 1).toNat:Int)=_
 rw [BitVec.toNat_and,h1,h2,Nat.and_one_is_mod,IntKind.wrap_i64]
 omega
end Go.Proofs.YtfbcdmhmpfijjaaGreatDoor
