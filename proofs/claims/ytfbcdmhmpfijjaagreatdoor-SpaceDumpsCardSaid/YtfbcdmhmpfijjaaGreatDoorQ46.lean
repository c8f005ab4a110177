/-
  The walks of seen, and of looked: places.
-/
import Derived.Laws.Rows
import Derived.Test.YtfbcdmhmpfijjaaGreatDoorQ45
set_option linter.unusedVariables false
set_option linter.unusedSimpArgs false
set_option linter.unusedSectionVars false
namespace Go.Proofs.YtfbcdmhmpfijjaaGreatDoor
open Go Go.RowKit
def Both (s:St) (f g:Nat) (xs:List Value) (v:Value):Prop :=
 (∀ w L,SpaceAt w L s → Calls Tryz.prog f (#[.pointer (some ⟨L.sb,0,none⟩)] ++ xs.toArray) w fun e w' => e=.returned v ∧ Still w w') ∧
 ∀ w R,RefAt w R s → Calls Tryz.prog g (#[.pointer (some ⟨R.rb,0,none⟩)] ++ xs.toArray) w fun e w' => e=.returned v ∧ Still w w'
theorem peek_both (s:St) (a:Int):∃ x b,Both s 20 21 [.int .i64 a] (.tuple #[.int .i64 x,.bool b]):=by
 by_cases h:a < 0 ∨ ((64 * s.n:Nat):Int) ≤ a
 ·exact ⟨0,false,fun w L hs => (peek_out w L s hs a h).mono fun e w' ⟨h1,h2⟩ => ⟨h1,by rw [← h2];exact Only.refl _ _ _⟩,fun w R hs => rpeek_out w R s hs a h⟩
 ·obtain ⟨n,rfl⟩:=Int.eq_ofNat_of_zero_le (show 0 ≤ a by omega)
  exact ⟨s.W n,true,fun w L hs => (peek_in w L s hs n (by omega)).mono fun e w' ⟨h1,h2⟩ => ⟨h1,by rw [← h2];exact Only.refl _ _ _⟩,fun w R hs => rpeek_in w R s hs n (by omega)⟩
theorem block_both {s:St} (hs:s.RefOk) (a:Int) (ha:(Lit.int .i64 a).wf=true):∃ x0 x1 x2 x3 x4 b,Both s 53 54 [.int .i64 a] (.tuple #[.agg #[.int .i64 x0,.int .i64 x1,.int .i64 x2,.int .i64 x3,.int .i64 x4],.bool b]):=by
 cases h:s.has a with
 | false => exact ⟨0,0,0,0,0,false,fun w L hw => block_no w L s hw a h,fun w R hw => rblock_no w R s hw a h⟩
 | true =>
  have h2:=h
  unfold St.has at h2
  rw [Bool.and_eq_true,decide_eq_true_eq] at h2
  obtain ⟨n,rfl⟩:=Int.eq_ofNat_of_zero_le h2.1
  exact ⟨_,_,_,_,_,true,fun w L hw => block_yes w L s hw n ha h,fun w R hw => rblock_yes w R s hw hs n (by rw [← h2.2,Int.toNat_natCast])⟩
theorem check_both {s:St} (hf:s.Fine) (hs:s.RefOk) (a:Int):∃ e f,Both s 58 59 [.int .i64 a] (faultV e f) :=
 ⟨_,_,fun w L hw => check_any w L s hw a hf,fun w R hw => rcheck_any w R s hw hs a⟩
theorem read_both {s:St} (hf:s.Fine) (hs:s.RefOk) (a i:Int) (ha:(Lit.int .i64 a).wf=true):∃ x e f,Both s 55 56 [.int .i64 a,.int .i64 i] (.tuple #[.int .i64 x,faultV e f]):=by
 by_cases h:(s.wrd a i).1=0
 ·obtain ⟨n,j,rfl,rfl,h1,h2,_⟩:=wrd_zero hs h
  exact ⟨_,_,_,fun w L hw => read_ok w L s hw n j hf h1 h2,fun w R hw => rread_ok w R s hw n j hs h1 h2⟩
 ·exact ⟨_,_,_,fun w L hw => read_bad w L s hw a i ha hf h,fun w R hw => rread_bad w R s hw a i hs h⟩
end Go.Proofs.YtfbcdmhmpfijjaaGreatDoor
namespace Go.Proofs.YtfbcdmhmpfijjaaGreatDoor
open Go Go.RowKit
theorem St.Idx.none {s:St} (h:s.Idx) {x:Int} {N:Nat} (hlt:∀ a,s.B 0 a=true → a < N) (hno:∀ j,j < N → ¬(s.B 0 j=true ∧ (s.sh j).s=x ∧ 1 ≤ x)):s.Q x=none:=by
 cases e:s.Q x with
 | none => rfl
 | some a =>
  obtain ⟨n,_,h1,h2,h3⟩:=(h x a).1 e
  exact absurd ⟨h1,h2,h3⟩ (hno n (hlt n h1))
set_option maxRecDepth 100000 in
set_option maxHeartbeats 3200000 in
theorem rfind_any (w:World) (R:RLay) (s:St) (h:RefAt w R s) (hs:s.RefOk) (hx:s.Idx) (x:Int) :
 Calls Tryz.prog 29 #[.pointer (some ⟨R.rb,0,none⟩),.int .i64 x] w fun e w' => e=.returned (.tuple #[.int .i64 ((s.Q x).getD 0),.bool (s.Q x).isSome]) ∧ Still w w':=by
 have HR:=Lib.hid (fun W (hw:Still w W) => h.still hw)
 have HS:=Lib.hid hs
 have HX:=Lib.hid hx
 have hn1:=h.n1
 have hn2:=h.n2
 obtain ⟨N,hN⟩:∃ N,64 * s.n=N:=⟨_,rfl⟩
 have HN:=Lib.hid hN
 have hNM:(N:Int) ≤ 262144:=by omega
 clear h hs hx hn1 hn2 hN
 go_enter Tryz.func29,Tryz.ntmps29
 go_wp2_with fail
 go_loopw [6] (fun y W => ∃ i:Nat,y=.int .i64 (i:Int) ∧ i ≤ N ∧ Still w W ∧ Hid (∀ j,j < i → ¬(s.B 0 j=true ∧ (s.sh j).s=x ∧ 1 ≤ x))) (fun y _ => N + 1 - (intOf y).toNat)
 case atStart => exact ⟨0,rfl,Nat.zero_le _,Only.refl _ _ _,Lib.hid fun j hj => absurd hj (Nat.not_lt_zero _)⟩
 case round =>
  obtain ⟨i,rfl,hi,hst,HNO⟩:=hrel
  have hi0:(0:Int) ≤ (i:Int):=by omega
  have HST:=Lib.hid hst
  have hr:=HR.out _ hst
  have c2:=hr.c2
  obtain ⟨l1,l2,l3,l4,l5⟩:=hr.lts
  rw [HN.out] at c2
  by_cases hin:i < N
  ·have hiI:(i:Int) < (N:Int):=by omega
   have hiN:i < 64 * s.n:=by rw [HN.out];exact hin
   have o1:=hr.objs.cell hiN (d:=1) (by omega)
   have o3:=hr.objs.cell hiN (d:=3) (by omega)
   cases hb0:s.B 0 i with
   | false =>
    have e:s.ro i 1=0:=by unfold St.ro;rw [hb0];rfl
    rw [e] at o1
    have HN2:Hid (∀ j,j < i + 1 → ¬(s.B 0 j=true ∧ (s.sh j).s=x ∧ 1 ≤ x)):=Lib.hid fun j hj => by
     by_cases e:j=i
     ·rw [e,hb0];simp
     ·exact HNO.out j (by omega)
    clear e hb0 hr hst o3
    go_wp2_with fail
    exact ⟨⟨i + 1,by go_num,hin,HST.out,HN2⟩,by first | (simp [intOf];done) | (simp [intOf];omega)⟩
   | true =>
    obtain ⟨_,_,hk,_,_,_⟩:=(HS.out.fine i hb0).1
    have e:∀ d,s.ro i d=if d=0 then (i:Int) else if d=1 then (s.sh i).k else if d=2 then (s.sh i).z else if d=3 then (s.sh i).s else (s.sh i).t:=fun d => by unfold St.ro;rw [if_pos hb0]
    rw [e] at o1 o3
    change _=some (Value.int IntKind.i64 (s.sh i).k) at o1
    change _=some (Value.int IntKind.i64 (s.sh i).s) at o3
    have hkn:((s.sh i).k != 0)=true:=by simp;omega
    have HB0:=Lib.hid hb0
    by_cases hq:(s.sh i).s=x
    ·have hqq:((s.sh i).s == x)=true:=by simp [hq]
     by_cases h1:1 ≤ x
     ·have h1d:decide (1 ≤ x)=true:=decide_eq_true h1
      have HQ:Hid (s.Q x=some (i:Int)):=Lib.hid ((HX.out x i).2 ⟨i,rfl,hb0,hq,h1⟩)
      generalize (s.sh i).k=kd at *
      generalize (s.sh i).s=sd at *
      clear e hb0 hr hst hk hq h1
      go_wp2_with fail
      go_ret2
      exact ⟨by rw [HQ.out];rfl,HST.out⟩
     ·have h1d:decide (1 ≤ x)=false:=decide_eq_false h1
      have HN2:Hid (∀ j,j < i + 1 → ¬(s.B 0 j=true ∧ (s.sh j).s=x ∧ 1 ≤ x)):=Lib.hid fun j hj => fun h => h1 h.2.2
      generalize (s.sh i).k=kd at *
      generalize (s.sh i).s=sd at *
      clear e hb0 hr hst hk hq h1
      go_wp2_with fail
      exact ⟨⟨i + 1,by go_num,hin,HST.out,HN2⟩,by first | (simp [intOf];done) | (simp [intOf];omega)⟩
    ·have hqq:((s.sh i).s == x)=false:=by simp [hq]
     have HN2:Hid (∀ j,j < i + 1 → ¬(s.B 0 j=true ∧ (s.sh j).s=x ∧ 1 ≤ x)):=Lib.hid fun j hj => by
      by_cases e:j=i
      ·rw [e];exact fun h => hq h.2.1
      ·exact HNO.out j (by omega)
     generalize (s.sh i).k=kd at *
     generalize (s.sh i).s=sd at *
     clear e hb0 hr hst hk hq
     go_wp2_with fail
     exact ⟨⟨i + 1,by go_num,hin,HST.out,HN2⟩,by first | (simp [intOf];done) | (simp [intOf];omega)⟩
  ·obtain rfl:i=N:=by omega
   have HQ:Hid (s.Q x=none):=Lib.hid (HX.out.none (fun a ha => by have:=HS.out.lt ha;rw [HN.out] at this;exact this) HNO.out)
   clear hr hst
   go_wp2_with fail
   go_ret2
   exact ⟨by rw [HQ.out];rfl,HST.out⟩
theorem find_both {s:St} (hs:s.RefOk) (hx:s.Idx) (x:Int) (hw:(Lit.int .i64 x).wf=true):∃ y b,Both s 28 29 [.int .i64 x] (.tuple #[.int .i64 y,.bool b]) :=
 ⟨_,_,fun w L h => (find_any w L s h x hw).mono fun e w' ⟨h1,h2⟩ => ⟨h1,by rw [← h2];exact Only.refl _ _ _⟩,fun w R h => rfind_any w R s h hs hx x⟩
end Go.Proofs.YtfbcdmhmpfijjaaGreatDoor
namespace Go.Proofs.YtfbcdmhmpfijjaaGreatDoor
open Go Go.RowKit
set_option maxRecDepth 100000 in
set_option maxHeartbeats 6400000 in
theorem looked10 (w:World) (pb:Nat) (L:Lay) (R:RLay) (s:St) (own:Nat → Lb) (qf:Nat → Nat) (C:Nat) (h:PairAt w pb L R s own qf C) (wh a b c:Int) (la:Option Addr) (ll lc:Nat) (ha:(Lit.int .i64 a).wf=true) :
 Calls Tryz.prog 13 #[.pointer (some ⟨pb,0,none⟩),opVal wh 10 a b c la ll lc] w fun e w' => e=.returned (.bool true) ∧ Still w w':=by
 have HP:=Lib.hid h
 obtain ⟨x,y,hbt⟩:=peek_both s a
 have HW1:Hid (∀ w',Still w w' → Calls Tryz.prog 20 #[.pointer (some ⟨L.sb,0,none⟩),.int .i64 a] w' fun e w2 => e=.returned (.tuple #[.int .i64 x,.bool y]) ∧ Still w' w2):=Lib.hid fun w' hs => hbt.1 w' L (h.sp.still hs)
 have HW2:Hid (∀ w',Still w w' → Calls Tryz.prog 21 #[.pointer (some ⟨R.rb,0,none⟩),.int .i64 a] w' fun e w2 => e=.returned (.tuple #[.int .i64 x,.bool y]) ∧ Still w' w2):=Lib.hid fun w' hs => hbt.2 w' R (h.rf.still hs)
 have hxx:(x == x)=true:=by simp
 have hyy:(y == y)=true:=by simp
 clear h hbt ha
 go_enter Tryz.func13,Tryz.ntmps13
 go_upto_region 3 with fail
 have hbo:=heap_alloc_new w (opObj wh 10 a b c la ll lc)
 have hsb:Still w (w.alloc (opObj wh 10 a b c la ll lc)):=(Only.refl _ _ w).alloc _
 generalize w.alloc (opObj wh 10 a b c la ll lc)=w1 at *
 generalize hob:w.heap.size=ob at *
 have hob1:=(Array.getElem?_eq_some_iff.1 hbo).1
 have HC:Hid (∀ W,Still w1 W → W.cell? ⟨pb,0,none⟩=some (.pointer (some ⟨L.sb,0,none⟩)) ∧ W.cell? ⟨pb,1,none⟩=some (.pointer (some ⟨R.rb,0,none⟩)) ∧ W.cell? ⟨ob,2,none⟩=some (.int .i64 a)):=Lib.hid fun W hW => ⟨(HP.out.still (Still.trans hsb hW)).c0,(HP.out.still (Still.trans hsb hW)).c1,cell_of (v:=.int .i64 a) ((hW.block _ hob1 (.inl hob1)).trans hbo) 2 rfl⟩
 have HSB:=Lib.hid hsb
 have hpl:=(HP.out.still hsb).lt
 clear hsb hbo hob
 have hsC:Still w1 w1:=Only.refl _ _ _
 obtain ⟨k0,k1,k2⟩:=HC.out _ hsC
 go_cut [5,6] from 19 to 28 (fun s5 s6 wx => s5=.int .i64 x ∧ s6=.bool y ∧ Still w1 wx)
 case first =>
  go_region_held3 (fun w' => w'.cell? ⟨pb,0,none⟩=some (.pointer (some ⟨L.sb,0,none⟩)) ∧ w'.cell? ⟨pb,1,none⟩=some (.pointer (some ⟨R.rb,0,none⟩)) ∧ w'.cell? ⟨ob,2,none⟩=some (.int .i64 a))
   ((refine HC.out _ ?_;(repeat first | with_reducible exact hsC | with_reducible exact Only.refl _ _ _ | with_reducible apply Only.drew | with_reducible apply Only.drewN | with_reducible apply Only.alloc)))
   (first | (go_at_call 20;refine (HW1.out _ (Still.trans HSB.out (by (repeat first | with_reducible exact hsC | with_reducible exact Only.refl _ _ _ | with_reducible apply Only.drew | with_reducible apply Only.drewN | with_reducible apply Only.alloc)))).mono ?_;rintro e wp ⟨rfl,hcall⟩;have hsC:Still w1 wp:=Still.trans (by (repeat first | with_reducible exact hsC | with_reducible exact Only.refl _ _ _ | with_reducible apply Only.drew | with_reducible apply Only.drewN | with_reducible apply Only.alloc)) hcall))
  all_goals
   go_wp2_with fail
   go_meet
   exact ⟨rfl,rfl,(by (repeat first | with_reducible exact hsC | with_reducible exact Only.refl _ _ _ | with_reducible apply Only.drew | with_reducible apply Only.drewN | with_reducible apply Only.alloc))⟩
 case rest =>
  obtain ⟨rfl,rfl,hs2⟩:=hcut
  clear hsC k0 k1 k2
  have hsC:=hs2
  obtain ⟨k0,k1,k2⟩:=HC.out _ hsC
  have hpl:=Nat.lt_of_lt_of_le hpl hs2.size
  have hob1:=Nat.lt_of_lt_of_le hob1 hs2.size
  clear hs2
  generalize wc=w2 at *
  go_wp2_with fail
  go_cut [7,8] from 29 to 38 (fun s7 s8 wx => s7=.int .i64 x ∧ s8=.bool y ∧ Still w1 wx)
  case first =>
   go_region_held3 (fun w' => w'.cell? ⟨pb,0,none⟩=some (.pointer (some ⟨L.sb,0,none⟩)) ∧ w'.cell? ⟨pb,1,none⟩=some (.pointer (some ⟨R.rb,0,none⟩)) ∧ w'.cell? ⟨ob,2,none⟩=some (.int .i64 a))
    ((refine HC.out _ ?_;(repeat first | with_reducible exact hsC | with_reducible exact Only.refl _ _ _ | with_reducible apply Only.drew | with_reducible apply Only.drewN | with_reducible apply Only.alloc)))
    (first | (go_at_call 21;refine (HW2.out _ (Still.trans HSB.out (by (repeat first | with_reducible exact hsC | with_reducible exact Only.refl _ _ _ | with_reducible apply Only.drew | with_reducible apply Only.drewN | with_reducible apply Only.alloc)))).mono ?_;rintro e wp ⟨rfl,hcall⟩;have hsC:Still w1 wp:=Still.trans (by (repeat first | with_reducible exact hsC | with_reducible exact Only.refl _ _ _ | with_reducible apply Only.drew | with_reducible apply Only.drewN | with_reducible apply Only.alloc)) hcall))
   all_goals
    go_wp2_with fail
    go_meet
    exact ⟨rfl,rfl,(by (repeat first | with_reducible exact hsC | with_reducible exact Only.refl _ _ _ | with_reducible apply Only.drew | with_reducible apply Only.drewN | with_reducible apply Only.alloc))⟩
  case rest =>
   obtain ⟨rfl,rfl,hs3⟩:=hcut
   have HE:=Lib.hid (Still.trans HSB.out hs3)
   clear hs3 hsC k0 k1 k2
   go_wp2_with fail
   go_ret
   exact ⟨by simp,HE.out⟩
set_option maxRecDepth 100000 in
set_option maxHeartbeats 6400000 in
theorem looked15 (w:World) (pb:Nat) (L:Lay) (R:RLay) (s:St) (own:Nat → Lb) (qf:Nat → Nat) (C:Nat) (h:PairAt w pb L R s own qf C) (wh a b c:Int) (la:Option Addr) (ll lc:Nat) (ha:(Lit.int .i64 a).wf=true) :
 Calls Tryz.prog 13 #[.pointer (some ⟨pb,0,none⟩),opVal wh 15 a b c la ll lc] w fun e w' => e=.returned (.bool true) ∧ Still w w':=by
 have HP:=Lib.hid h
 obtain ⟨x,y,hbt⟩:=find_both h.iv.refOk h.iv.mid.idx a ha
 have HW1:Hid (∀ w',Still w w' → Calls Tryz.prog 28 #[.pointer (some ⟨L.sb,0,none⟩),.int .i64 a] w' fun e w2 => e=.returned (.tuple #[.int .i64 x,.bool y]) ∧ Still w' w2):=Lib.hid fun w' hs => hbt.1 w' L (h.sp.still hs)
 have HW2:Hid (∀ w',Still w w' → Calls Tryz.prog 29 #[.pointer (some ⟨R.rb,0,none⟩),.int .i64 a] w' fun e w2 => e=.returned (.tuple #[.int .i64 x,.bool y]) ∧ Still w' w2):=Lib.hid fun w' hs => hbt.2 w' R (h.rf.still hs)
 have hxx:(x == x)=true:=by simp
 have hyy:(y == y)=true:=by simp
 clear h hbt ha
 go_enter Tryz.func13,Tryz.ntmps13
 go_upto_region 17 with fail
 have hbo:=heap_alloc_new w (opObj wh 15 a b c la ll lc)
 have hsb:Still w (w.alloc (opObj wh 15 a b c la ll lc)):=(Only.refl _ _ w).alloc _
 generalize w.alloc (opObj wh 15 a b c la ll lc)=w1 at *
 generalize hob:w.heap.size=ob at *
 have hob1:=(Array.getElem?_eq_some_iff.1 hbo).1
 have HC:Hid (∀ W,Still w1 W → W.cell? ⟨pb,0,none⟩=some (.pointer (some ⟨L.sb,0,none⟩)) ∧ W.cell? ⟨pb,1,none⟩=some (.pointer (some ⟨R.rb,0,none⟩)) ∧ W.cell? ⟨ob,2,none⟩=some (.int .i64 a)):=Lib.hid fun W hW => ⟨(HP.out.still (Still.trans hsb hW)).c0,(HP.out.still (Still.trans hsb hW)).c1,cell_of (v:=.int .i64 a) ((hW.block _ hob1 (.inl hob1)).trans hbo) 2 rfl⟩
 have HSB:=Lib.hid hsb
 have hpl:=(HP.out.still hsb).lt
 clear hsb hbo hob
 have hsC:Still w1 w1:=Only.refl _ _ _
 obtain ⟨k0,k1,k2⟩:=HC.out _ hsC
 go_cut [11,12] from 103 to 112 (fun s11 s12 wx => s11=.int .i64 x ∧ s12=.bool y ∧ Still w1 wx)
 case first =>
  go_region_held3 (fun w' => w'.cell? ⟨pb,0,none⟩=some (.pointer (some ⟨L.sb,0,none⟩)) ∧ w'.cell? ⟨pb,1,none⟩=some (.pointer (some ⟨R.rb,0,none⟩)) ∧ w'.cell? ⟨ob,2,none⟩=some (.int .i64 a))
   ((refine HC.out _ ?_;(repeat first | with_reducible exact hsC | with_reducible exact Only.refl _ _ _ | with_reducible apply Only.drew | with_reducible apply Only.drewN | with_reducible apply Only.alloc)))
   (first | (go_at_call 28;refine (HW1.out _ (Still.trans HSB.out (by (repeat first | with_reducible exact hsC | with_reducible exact Only.refl _ _ _ | with_reducible apply Only.drew | with_reducible apply Only.drewN | with_reducible apply Only.alloc)))).mono ?_;rintro e wp ⟨rfl,hcall⟩;have hsC:Still w1 wp:=Still.trans (by (repeat first | with_reducible exact hsC | with_reducible exact Only.refl _ _ _ | with_reducible apply Only.drew | with_reducible apply Only.drewN | with_reducible apply Only.alloc)) hcall))
  all_goals
   go_wp2_with fail
   go_meet
   exact ⟨rfl,rfl,(by (repeat first | with_reducible exact hsC | with_reducible exact Only.refl _ _ _ | with_reducible apply Only.drew | with_reducible apply Only.drewN | with_reducible apply Only.alloc))⟩
 case rest =>
  obtain ⟨rfl,rfl,hs2⟩:=hcut
  clear hsC k0 k1 k2
  have hsC:=hs2
  obtain ⟨k0,k1,k2⟩:=HC.out _ hsC
  have hpl:=Nat.lt_of_lt_of_le hpl hs2.size
  have hob1:=Nat.lt_of_lt_of_le hob1 hs2.size
  clear hs2
  generalize wc=w2 at *
  go_wp2_with fail
  go_cut [13,14] from 113 to 122 (fun s13 s14 wx => s13=.int .i64 x ∧ s14=.bool y ∧ Still w1 wx)
  case first =>
   go_region_held3 (fun w' => w'.cell? ⟨pb,0,none⟩=some (.pointer (some ⟨L.sb,0,none⟩)) ∧ w'.cell? ⟨pb,1,none⟩=some (.pointer (some ⟨R.rb,0,none⟩)) ∧ w'.cell? ⟨ob,2,none⟩=some (.int .i64 a))
    ((refine HC.out _ ?_;(repeat first | with_reducible exact hsC | with_reducible exact Only.refl _ _ _ | with_reducible apply Only.drew | with_reducible apply Only.drewN | with_reducible apply Only.alloc)))
    (first | (go_at_call 29;refine (HW2.out _ (Still.trans HSB.out (by (repeat first | with_reducible exact hsC | with_reducible exact Only.refl _ _ _ | with_reducible apply Only.drew | with_reducible apply Only.drewN | with_reducible apply Only.alloc)))).mono ?_;rintro e wp ⟨rfl,hcall⟩;have hsC:Still w1 wp:=Still.trans (by (repeat first | with_reducible exact hsC | with_reducible exact Only.refl _ _ _ | with_reducible apply Only.drew | with_reducible apply Only.drewN | with_reducible apply Only.alloc)) hcall))
   all_goals
    go_wp2_with fail
    go_meet
    exact ⟨rfl,rfl,(by (repeat first | with_reducible exact hsC | with_reducible exact Only.refl _ _ _ | with_reducible apply Only.drew | with_reducible apply Only.drewN | with_reducible apply Only.alloc))⟩
  case rest =>
   obtain ⟨rfl,rfl,hs3⟩:=hcut
   have HE:=Lib.hid (Still.trans HSB.out hs3)
   clear hs3 hsC k0 k1 k2
   go_wp2_with fail
   go_ret
   exact ⟨by simp,HE.out⟩
end Go.Proofs.YtfbcdmhmpfijjaaGreatDoor
namespace Go.Proofs.YtfbcdmhmpfijjaaGreatDoor
open Go Go.RowKit
set_option maxRecDepth 100000 in
set_option maxHeartbeats 12800000 in
theorem seen_any (w:World) (pb:Nat) (L:Lay) (R:RLay) (s:St) (own:Nat → Lb) (qf:Nat → Nat) (C:Nat) (h:PairAt w pb L R s own qf C) (a i:Int) (ha:(Lit.int .i64 a).wf=true) :
 Calls Tryz.prog 22 #[.pointer (some ⟨pb,0,none⟩),.int .i64 a,.int .i64 i] w fun e w' => e=.returned (.bool true) ∧ Still w w':=by
 have HP:=Lib.hid h
 obtain ⟨x0,x1,x2,x3,x4,bl,hB⟩:=block_both h.iv.refOk a ha
 obtain ⟨x,e1,f1,hR⟩:=read_both h.iv.fine h.iv.refOk a i ha
 obtain ⟨e2,f2,hK⟩:=check_both h.iv.fine h.iv.refOk a
 have HB1:Hid (∀ w',Still w w' → Calls Tryz.prog 53 #[.pointer (some ⟨L.sb,0,none⟩),.int .i64 a] w' fun e w2 => e=.returned (.tuple #[.agg #[.int .i64 x0,.int .i64 x1,.int .i64 x2,.int .i64 x3,.int .i64 x4],.bool bl]) ∧ Still w' w2):=Lib.hid fun w' hs => hB.1 w' L (h.sp.still hs)
 have HB2:Hid (∀ w',Still w w' → Calls Tryz.prog 54 #[.pointer (some ⟨R.rb,0,none⟩),.int .i64 a] w' fun e w2 => e=.returned (.tuple #[.agg #[.int .i64 x0,.int .i64 x1,.int .i64 x2,.int .i64 x3,.int .i64 x4],.bool bl]) ∧ Still w' w2):=Lib.hid fun w' hs => hB.2 w' R (h.rf.still hs)
 have HR1:Hid (∀ w',Still w w' → Calls Tryz.prog 55 #[.pointer (some ⟨L.sb,0,none⟩),.int .i64 a,.int .i64 i] w' fun e w2 => e=.returned (.tuple #[.int .i64 x,faultV e1 f1]) ∧ Still w' w2):=Lib.hid fun w' hs => hR.1 w' L (h.sp.still hs)
 have HR2:Hid (∀ w',Still w w' → Calls Tryz.prog 56 #[.pointer (some ⟨R.rb,0,none⟩),.int .i64 a,.int .i64 i] w' fun e w2 => e=.returned (.tuple #[.int .i64 x,faultV e1 f1]) ∧ Still w' w2):=Lib.hid fun w' hs => hR.2 w' R (h.rf.still hs)
 have HK1:Hid (∀ w',Still w w' → Calls Tryz.prog 58 #[.pointer (some ⟨L.sb,0,none⟩),.int .i64 a] w' fun e w2 => e=.returned (faultV e2 f2) ∧ Still w' w2):=Lib.hid fun w' hs => hK.1 w' L (h.sp.still hs)
 have HK2:Hid (∀ w',Still w w' → Calls Tryz.prog 59 #[.pointer (some ⟨R.rb,0,none⟩),.int .i64 a] w' fun e w2 => e=.returned (faultV e2 f2) ∧ Still w' w2):=Lib.hid fun w' hs => hK.2 w' R (h.rf.still hs)
 have HAL:=Lib.hid (fun x y w => alike_same x y w)
 have hxx:(x == x)=true:=by simp
 have hbb:(bl == bl)=true:=by simp
 have k0:=h.c0
 have hpl:=h.lt
 clear h hB hR hK ha
 go_enter Tryz.func22,Tryz.ntmps22
 go_wp2_with fail
 refine (HB1.out _ (Only.refl _ _ _)).mono ?_
 rintro e w1 ⟨rfl,hs1⟩
 have k1:=(HP.out.still hs1).c1
 have hpl1:=(HP.out.still hs1).lt
 have HS1:=Lib.hid hs1
 clear hs1 k0 hpl HB1
 go_wp2_with fail
 refine (HB2.out _ (HS1.out.alloc _)).mono ?_
 rintro e w2 ⟨rfl,hs2⟩
 have hb1:=still_new hs2
 have hs2:=Still.trans (HS1.out.alloc _) hs2
 generalize w1.heap.size=b1 at *
 have k0:=(HP.out.still hs2).c0
 have hpl2:=(HP.out.still hs2).lt
 have HS2:=Lib.hid hs2
 clear hs2 k1 hpl1 HB2 HS1
 go_wp2_with fail
 refine (HR1.out _ (HS2.out.alloc _)).mono ?_
 rintro e w3 ⟨rfl,hs3⟩
 have hb2:=still_new hs3
 have hl2:=(Array.getElem?_eq_some_iff.1 hb1).1
 have hs23:Still w2 w3:=Still.trans ((Only.refl _ _ w2).alloc _) hs3
 have hb1:=(hs23.block b1 hl2 (.inl hl2)).trans hb1
 have hs3:=Still.trans HS2.out hs23
 generalize w2.heap.size=b2 at *
 have k1:=(HP.out.still hs3).c1
 have hpl3:=(HP.out.still hs3).lt
 have HS3:=Lib.hid hs3
 clear hs3 hs23 hl2 k0 hpl2 HR1 HS2
 go_wp2_with fail
 refine (HR2.out _ (HS3.out.alloc _)).mono ?_
 rintro e w4 ⟨rfl,hs4⟩
 have hb3:=still_new hs4
 have hl1:=(Array.getElem?_eq_some_iff.1 hb1).1
 have hl2:=(Array.getElem?_eq_some_iff.1 hb2).1
 have hs34:Still w3 w4:=Still.trans ((Only.refl _ _ w3).alloc _) hs4
 have hb1:=(hs34.block b1 hl1 (.inl hl1)).trans hb1
 have hb2:=(hs34.block b2 hl2 (.inl hl2)).trans hb2
 have hs4:=Still.trans HS3.out hs34
 generalize w3.heap.size=b3 at *
 have HS4:=Lib.hid hs4
 clear hs4 hs34 hl1 hl2 k1 hpl3 HR2 HS3
 go_upto_region 5 with fail
 have hb4:=heap_alloc_new w4 (.cells #[.int .i64 e1,.int .i64 f1] 100)
 have hs5:Still w4 (w4.alloc (.cells #[.int .i64 e1,.int .i64 f1] 100)):=(Only.refl _ _ w4).alloc _
 generalize w4.alloc (.cells #[.int .i64 e1,.int .i64 f1] 100)=w5 at *
 generalize w4.heap.size=b4 at *
 have hl1:=(Array.getElem?_eq_some_iff.1 hb1).1
 have hl2:=(Array.getElem?_eq_some_iff.1 hb2).1
 have hl3:=(Array.getElem?_eq_some_iff.1 hb3).1
 have hb1:=(hs5.block b1 hl1 (.inl hl1)).trans hb1
 have hb2:=(hs5.block b2 hl2 (.inl hl2)).trans hb2
 have hb3:=(hs5.block b3 hl3 (.inl hl3)).trans hb3
 have HS4:=Lib.hid (Still.trans HS4.out hs5)
 have hb1l:=(Array.getElem?_eq_some_iff.1 hb1).1
 have hb2l:=(Array.getElem?_eq_some_iff.1 hb2).1
 have hb3l:=(Array.getElem?_eq_some_iff.1 hb3).1
 have hb4l:=(Array.getElem?_eq_some_iff.1 hb4).1
 have HB1:=Lib.hid hb1
 have HB2:=Lib.hid hb2
 have HB3:=Lib.hid hb3
 have HB4:=Lib.hid hb4
 have hpl5:=(HP.out.still HS4.out).lt
 have HC:Hid (∀ w',Still w5 w' → w'.cell? ⟨pb,0,none⟩=some (.pointer (some ⟨L.sb,0,none⟩)) ∧ w'.cell? ⟨pb,1,none⟩=some (.pointer (some ⟨R.rb,0,none⟩)) ∧ w'.cell? ⟨b1,0,none⟩=some (.int .i64 x0) ∧ w'.cell? ⟨b1,1,none⟩=some (.int .i64 x1) ∧ w'.cell? ⟨b1,2,none⟩=some (.int .i64 x2) ∧ w'.cell? ⟨b1,3,none⟩=some (.int .i64 x3) ∧ w'.cell? ⟨b1,4,none⟩=some (.int .i64 x4) ∧ w'.cell? ⟨b2,0,none⟩=some (.int .i64 x0) ∧ w'.cell? ⟨b2,1,none⟩=some (.int .i64 x1) ∧ w'.cell? ⟨b2,2,none⟩=some (.int .i64 x2) ∧ w'.cell? ⟨b2,3,none⟩=some (.int .i64 x3) ∧ w'.cell? ⟨b2,4,none⟩=some (.int .i64 x4) ∧ w'.cell? ⟨b3,0,none⟩=some (.int .i64 e1) ∧ w'.cell? ⟨b3,1,none⟩=some (.int .i64 f1) ∧ w'.cell? ⟨b4,0,none⟩=some (.int .i64 e1) ∧ w'.cell? ⟨b4,1,none⟩=some (.int .i64 f1)):=Lib.hid fun w' hW => ⟨(HP.out.still (Still.trans HS4.out hW)).c0,(HP.out.still (Still.trans HS4.out hW)).c1,cell_of (v:=.int .i64 x0) ((hW.block b1 hb1l (.inl hb1l)).trans HB1.out) 0 rfl,cell_of (v:=.int .i64 x1) ((hW.block b1 hb1l (.inl hb1l)).trans HB1.out) 1 rfl,cell_of (v:=.int .i64 x2) ((hW.block b1 hb1l (.inl hb1l)).trans HB1.out) 2 rfl,cell_of (v:=.int .i64 x3) ((hW.block b1 hb1l (.inl hb1l)).trans HB1.out) 3 rfl,cell_of (v:=.int .i64 x4) ((hW.block b1 hb1l (.inl hb1l)).trans HB1.out) 4 rfl,cell_of (v:=.int .i64 x0) ((hW.block b2 hb2l (.inl hb2l)).trans HB2.out) 0 rfl,cell_of (v:=.int .i64 x1) ((hW.block b2 hb2l (.inl hb2l)).trans HB2.out) 1 rfl,cell_of (v:=.int .i64 x2) ((hW.block b2 hb2l (.inl hb2l)).trans HB2.out) 2 rfl,cell_of (v:=.int .i64 x3) ((hW.block b2 hb2l (.inl hb2l)).trans HB2.out) 3 rfl,cell_of (v:=.int .i64 x4) ((hW.block b2 hb2l (.inl hb2l)).trans HB2.out) 4 rfl,cell_of (v:=.int .i64 e1) ((hW.block b3 hb3l (.inl hb3l)).trans HB3.out) 0 rfl,cell_of (v:=.int .i64 f1) ((hW.block b3 hb3l (.inl hb3l)).trans HB3.out) 1 rfl,cell_of (v:=.int .i64 e1) ((hW.block b4 hb4l (.inl hb4l)).trans HB4.out) 0 rfl,cell_of (v:=.int .i64 f1) ((hW.block b4 hb4l (.inl hb4l)).trans HB4.out) 1 rfl⟩
 clear hs5 hb1 hb2 hb3 hb4 hl1 hl2 hl3
 have hsC:Still w5 w5:=Only.refl _ _ _
 obtain ⟨k0,k1,y0,y1,y2,y3,y4,z0,z1,z2,z3,z4,d0,d1,d2,d3⟩:=HC.out _ hsC
 go_cut [6] from 53 to 85 (fun s6 wx => s6=.bool true ∧ Still w5 wx)
 case first =>
  go_region_held3 (fun w' => w'.cell? ⟨pb,0,none⟩=some (.pointer (some ⟨L.sb,0,none⟩)) ∧ w'.cell? ⟨pb,1,none⟩=some (.pointer (some ⟨R.rb,0,none⟩)) ∧ w'.cell? ⟨b1,0,none⟩=some (.int .i64 x0) ∧ w'.cell? ⟨b1,1,none⟩=some (.int .i64 x1) ∧ w'.cell? ⟨b1,2,none⟩=some (.int .i64 x2) ∧ w'.cell? ⟨b1,3,none⟩=some (.int .i64 x3) ∧ w'.cell? ⟨b1,4,none⟩=some (.int .i64 x4) ∧ w'.cell? ⟨b2,0,none⟩=some (.int .i64 x0) ∧ w'.cell? ⟨b2,1,none⟩=some (.int .i64 x1) ∧ w'.cell? ⟨b2,2,none⟩=some (.int .i64 x2) ∧ w'.cell? ⟨b2,3,none⟩=some (.int .i64 x3) ∧ w'.cell? ⟨b2,4,none⟩=some (.int .i64 x4) ∧ w'.cell? ⟨b3,0,none⟩=some (.int .i64 e1) ∧ w'.cell? ⟨b3,1,none⟩=some (.int .i64 f1) ∧ w'.cell? ⟨b4,0,none⟩=some (.int .i64 e1) ∧ w'.cell? ⟨b4,1,none⟩=some (.int .i64 f1))
   ((refine HC.out _ ?_;(repeat first | with_reducible exact hsC | with_reducible exact Only.refl _ _ _ | with_reducible apply Only.drew | with_reducible apply Only.drewN | with_reducible apply Only.alloc)))
   (first
     | (go_at_call 58;refine (HK1.out _ (Still.trans HS4.out (by (repeat first | with_reducible exact hsC | with_reducible exact Only.refl _ _ _ | with_reducible apply Only.drew | with_reducible apply Only.drewN | with_reducible apply Only.alloc)))).mono ?_;rintro e wp ⟨rfl,hcall⟩;have hsC:Still w5 wp:=Still.trans (by (repeat first | with_reducible exact hsC | with_reducible exact Only.refl _ _ _ | with_reducible apply Only.drew | with_reducible apply Only.drewN | with_reducible apply Only.alloc)) hcall)
     | (go_at_call 59;refine (HK2.out _ (Still.trans HS4.out (by (repeat first | with_reducible exact hsC | with_reducible exact Only.refl _ _ _ | with_reducible apply Only.drew | with_reducible apply Only.drewN | with_reducible apply Only.alloc)))).mono ?_;rintro e wq ⟨rfl,hcall⟩;have hsC:Still w5 wq:=Still.trans (by (repeat first | with_reducible exact hsC | with_reducible exact Only.refl _ _ _ | with_reducible apply Only.drew | with_reducible apply Only.drewN | with_reducible apply Only.alloc)) hcall)
     | (go_at_call 57;refine (HAL.out _ _ _).mono ?_;rintro e wr ⟨rfl,hcall⟩;have hsC:Still w5 wr:=Still.trans (by (repeat first | with_reducible exact hsC | with_reducible exact Only.refl _ _ _ | with_reducible apply Only.drew | with_reducible apply Only.drewN | with_reducible apply Only.alloc)) hcall))
  all_goals
   go_wp2_with fail
   go_meet
   exact ⟨rfl,(by (repeat first | with_reducible exact hsC | with_reducible exact Only.refl _ _ _ | with_reducible apply Only.drew | with_reducible apply Only.drewN | with_reducible apply Only.alloc))⟩
 case rest =>
  obtain ⟨rfl,hs6⟩:=hcut
  have HE:=Lib.hid (Still.trans HS4.out hs6)
  clear hs6 hsC
  go_wp2_with fail
  go_ret
  exact ⟨rfl,HE.out⟩
set_option maxRecDepth 100000 in
set_option maxHeartbeats 3200000 in
theorem looked11 (w:World) (pb:Nat) (L:Lay) (R:RLay) (s:St) (own:Nat → Lb) (qf:Nat → Nat) (C:Nat) (h:PairAt w pb L R s own qf C) (wh a b c:Int) (la:Option Addr) (ll lc:Nat) (ha:(Lit.int .i64 a).wf=true) :
 Calls Tryz.prog 13 #[.pointer (some ⟨pb,0,none⟩),opVal wh 11 a b c la ll lc] w fun e w' => e=.returned (.bool true) ∧ Still w w':=by
 have hsb:Still w (w.alloc (opObj wh 11 a b c la ll lc)):=(Only.refl _ _ w).alloc _
 have HSN:=Lib.hid (seen_any _ pb L R s own qf C (h.still hsb) a 1 ha)
 have HSB:=Lib.hid hsb
 clear h ha hsb
 go_enter Tryz.func13,Tryz.ntmps13
 go_wp2_with fail
 refine HSN.out.mono ?_
 rintro e w1 ⟨rfl,hs⟩
 have HE:=Lib.hid (Still.trans HSB.out hs)
 clear hs HSN
 go_wp2_with fail
 go_ret
 exact ⟨rfl,HE.out⟩
set_option maxRecDepth 100000 in
set_option maxHeartbeats 3200000 in
theorem looked13 (w:World) (pb:Nat) (L:Lay) (R:RLay) (s:St) (own:Nat → Lb) (qf:Nat → Nat) (C:Nat) (h:PairAt w pb L R s own qf C) (wh a b c:Int) (la:Option Addr) (ll lc:Nat) (ha:(Lit.int .i64 a).wf=true) :
 Calls Tryz.prog 13 #[.pointer (some ⟨pb,0,none⟩),opVal wh 13 a b c la ll lc] w fun e w' => e=.returned (.bool true) ∧ Still w w':=by
 have hsb:Still w (w.alloc (opObj wh 13 a b c la ll lc)):=(Only.refl _ _ w).alloc _
 have HSN:=Lib.hid (seen_any _ pb L R s own qf C (h.still hsb) a b ha)
 have HSB:=Lib.hid hsb
 clear h ha hsb
 go_enter Tryz.func13,Tryz.ntmps13
 go_wp2_with fail
 refine HSN.out.mono ?_
 rintro e w1 ⟨rfl,hs⟩
 have HE:=Lib.hid (Still.trans HSB.out hs)
 clear hs HSN
 go_wp2_with fail
 go_ret
 exact ⟨rfl,HE.out⟩
set_option maxRecDepth 100000 in
set_option maxHeartbeats 6400000 in
theorem looked12 (w:World) (pb:Nat) (L:Lay) (R:RLay) (s:St) (own:Nat → Lb) (qf:Nat → Nat) (C:Nat) (h:PairAt w pb L R s own qf C) (wh a b c:Int) (la:Option Addr) (ll lc:Nat) (ha:(Lit.int .i64 a).wf=true) :
 Calls Tryz.prog 13 #[.pointer (some ⟨pb,0,none⟩),opVal wh 12 a b c la ll lc] w fun e w' => e=.returned (.bool true) ∧ Still w w':=by
 have hnr1:=(nth_range s a).1
 have hnr2:=(nth_range s a).2 h.n24 h.iv
 have HNT:Hid (∀ W,Still w W → Calls Tryz.prog 23 #[.pointer (some ⟨pb,0,none⟩),.int .i64 a] W fun e w' => e=.returned (.int .i64 (s.nth a)) ∧ Still W w'):=Lib.hid fun W hW => nth_any W pb L R s own qf C (h.still hW) a ha
 have HSN:Hid (∀ W,Still w W → Calls Tryz.prog 22 #[.pointer (some ⟨pb,0,none⟩),.int .i64 (s.nth a),.int .i64 b] W fun e w' => e=.returned (.bool true) ∧ Still W w'):=Lib.hid fun W hW => seen_any W pb L R s own qf C (h.still hW) (s.nth a) b (wf_of (by omega))
 generalize s.nth a=nn at *
 clear h ha hnr1 hnr2
 go_enter Tryz.func13,Tryz.ntmps13
 go_upto_region 9 with fail
 have hbo:=heap_alloc_new w (opObj wh 12 a b c la ll lc)
 have hsb:Still w (w.alloc (opObj wh 12 a b c la ll lc)):=(Only.refl _ _ w).alloc _
 generalize w.alloc (opObj wh 12 a b c la ll lc)=w1 at *
 generalize hob:w.heap.size=ob at *
 have hob1:=(Array.getElem?_eq_some_iff.1 hbo).1
 have HC:Hid (∀ W,Still w1 W → W.cell? ⟨ob,2,none⟩=some (.int .i64 a) ∧ W.cell? ⟨ob,3,none⟩=some (.int .i64 b)):=Lib.hid fun W hW => ⟨cell_of (v:=.int .i64 a) ((hW.block _ hob1 (.inl hob1)).trans hbo) 2 rfl,cell_of (v:=.int .i64 b) ((hW.block _ hob1 (.inl hob1)).trans hbo) 3 rfl⟩
 have HSB:=Lib.hid hsb
 clear hsb hbo hob
 have hsC:Still w1 w1:=Only.refl _ _ _
 obtain ⟨k2,k3⟩:=HC.out _ hsC
 go_cut [4] from 55 to 62 (fun s4 wx => s4=.bool true ∧ Still w1 wx)
 case first =>
  go_region_held3 (fun w' => w'.cell? ⟨ob,2,none⟩=some (.int .i64 a) ∧ w'.cell? ⟨ob,3,none⟩=some (.int .i64 b))
   ((refine HC.out _ ?_;(repeat first | with_reducible exact hsC | with_reducible exact Only.refl _ _ _ | with_reducible apply Only.drew | with_reducible apply Only.drewN | with_reducible apply Only.alloc)))
   (first
     | (go_at_call 23;refine (HNT.out _ (Still.trans HSB.out (by (repeat first | with_reducible exact hsC | with_reducible exact Only.refl _ _ _ | with_reducible apply Only.drew | with_reducible apply Only.drewN | with_reducible apply Only.alloc)))).mono ?_;rintro e wp ⟨rfl,hcall⟩;have hsC:Still w1 wp:=Still.trans (by (repeat first | with_reducible exact hsC | with_reducible exact Only.refl _ _ _ | with_reducible apply Only.drew | with_reducible apply Only.drewN | with_reducible apply Only.alloc)) hcall)
     | (go_at_call 22;refine (HSN.out _ (Still.trans HSB.out (by (repeat first | with_reducible exact hsC | with_reducible exact Only.refl _ _ _ | with_reducible apply Only.drew | with_reducible apply Only.drewN | with_reducible apply Only.alloc)))).mono ?_;rintro e wq ⟨rfl,hcall⟩;have hsC:Still w1 wq:=Still.trans (by (repeat first | with_reducible exact hsC | with_reducible exact Only.refl _ _ _ | with_reducible apply Only.drew | with_reducible apply Only.drewN | with_reducible apply Only.alloc)) hcall))
  all_goals
   go_wp2_with fail
   go_meet
   exact ⟨rfl,(by (repeat first | with_reducible exact hsC | with_reducible exact Only.refl _ _ _ | with_reducible apply Only.drew | with_reducible apply Only.drewN | with_reducible apply Only.alloc))⟩
 case rest =>
  obtain ⟨rfl,hs2⟩:=hcut
  have HE:=Lib.hid (Still.trans HSB.out hs2)
  clear hs2 hsC
  go_wp2_with fail
  go_ret
  exact ⟨rfl,HE.out⟩
end Go.Proofs.YtfbcdmhmpfijjaaGreatDoor
