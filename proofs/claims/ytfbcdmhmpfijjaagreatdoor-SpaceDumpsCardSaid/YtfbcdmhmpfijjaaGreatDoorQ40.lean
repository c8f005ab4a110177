/-
  space.Keep, where an object of the list is missing.
-/
import Derived.Laws.Rows
import Derived.Test.YtfbcdmhmpfijjaaGreatDoorQ39
import Derived.Test.YtfbcdmhmpfijjaaGreatDoorQ16
set_option linter.unusedVariables false
set_option linter.unusedSimpArgs false
set_option linter.unusedSectionVars false
namespace Go.Proofs.YtfbcdmhmpfijjaaGreatDoor
open Go Go.RowKit
theorem cell_blt {w:World} {b i:Nat} {v:Value} (h:w.cell? ⟨b,i,none⟩=some v):b < w.heap.size:=by
 by_cases e:b < w.heap.size
 ·exact e
 ·rw [World.cell?,Array.getElem?_eq_none (by show w.heap.size ≤ b;omega)] at h
  cases h
def IntsIn (w:World) (v:Value) (zs:List Int):Prop :=
 zs.length ≤ 140737488355328 ∧ ∃ ao cap,v=.slice ao zs.length cap ∧ ∀ j,j < zs.length → ∃ b o,ao=some ⟨b,o,none⟩ ∧ w.cell? ⟨b,o + j,none⟩=some (.int .i64 (zs.getD j 0))
theorem IntsAt.in' {w:World} {v:Value} {zs:List Int} (h:IntsAt w v zs):IntsIn w v zs:=by
 rcases h with ⟨rfl,rfl⟩ | ⟨b,o,cap,rfl,h1,h2⟩
 ·exact ⟨by simp,none,0,rfl,fun j hj => by simp at hj⟩
 ·exact ⟨h1,_,_,rfl,fun j hj => ⟨b,o,rfl,h2 j hj⟩⟩
theorem St.ro_kind {s:St} (hs:s.RefOk) (a:Nat):s.ro a 1=0 ∧ s.B 0 a=false ∨ s.ro a 1 ≠ 0 ∧ s.B 0 a=true:=by
 unfold St.ro
 cases hb:s.B 0 a with
 | false => exact .inl ⟨rfl,rfl⟩
 | true =>
  have:=(hs.fine a hb).1.2.2.1
  refine .inr ⟨?_,rfl⟩
  show (s.sh a).k ≠ 0
  omega
theorem dk_ro (s:St) (stay:Nat → Bool) (a x d:Nat):(s.dk stay a).ro x d=if (s.dk stay a).B 0 x then s.ro x d else 0:=by
 unfold St.ro
 rw [dk_B0]
 cases s.B 0 x <;> cases (decide (a ≤ x) || stay x) <;> rfl
theorem kcnt_step (f:Nat → Bool) (a:Nat):Bm.cnt f 0 (a + 1)=Bm.cnt f 0 a + (f a).toNat:=by
 have:Bm.cnt f 0 (a + 1)=Bm.cnt f 0 a + (f (0 + a)).toNat:=rfl
 rw [this,Nat.zero_add]
theorem kcnt_le (f:Nat → Bool):∀ a,Bm.cnt f 0 a ≤ a
 | 0 => Nat.le_refl _
 | a + 1 => by
  have:=kcnt_le f a
  rw [kcnt_step]
  cases f a <;> simp [Bool.toNat] <;> omega
theorem St.KeptU.dkB {s t:St} {stay:Nat → Bool} (hm:s.Mid) (k:s.KeptU t stay):t.B 0=(s.dk stay (64 * s.n)).B 0:=by
 funext x
 rw [dk_B0,k.b0]
 cases hb:s.B 0 x with
 | false => rfl
 | true =>
  have:=(hm.obj x hb).2.lt
  rw [decide_eq_false (by omega),Bool.false_or]
theorem St.KeptU.refOk {s t:St} {stay:Nat → Bool} (k:s.KeptU t stay) (W:Nat → Int):({ t with W:=W }:St).RefOk:=by
 refine ⟨k.free,fun p hp c h1 h2 => ?_,fun a ha => k.mid.obj a ha⟩
 have hp:p < t.n:=hp
 change (t.P p).k=1 at h1
 change (t.P p).c=(c:Int) at h2
 show t.P p=_
 rcases k.mid.pages p hp with e | ⟨c',_,e⟩ | ⟨q,r,⟨_,_,e,e2⟩,h3,h4⟩
 ·rw [e] at h1;cases h1
 ·rw [e] at h2 ⊢
  dsimp only at h2
  rw [h2]
 ·by_cases hq:p=q
  ·rw [hq,e] at h1;cases h1
  ·rw [e2 p (by omega) (by omega)] at h1;cases h1
theorem PgI.kinds {s t:St} {stay:Nat → Bool} {p:Nat} {P:Nat → Pg} (hm:s.Mid) (hk:s.KeptU t stay) (hp:p < s.n) (hi:PgI s t p P):(P p).k=0 ∨ (P p).k=1 ∨ (P p).k=2 ∨ (P p).k=3:=by
 rcases PgI.here hk hp hi with ⟨e,_⟩ | ⟨_,e | e,_⟩
 ·rw [e]
  rcases hm.pages p hp with e2 | ⟨c,_,e2⟩ | ⟨q,m,hr,h3,h4⟩
  ·rw [e2];exact .inl rfl
  ·rw [e2];exact .inr (.inl rfl)
  ·by_cases hq:p=q
   ·subst hq;rw [hr.2.2.1];exact .inr (.inr (.inl rfl))
   ·rw [hr.2.2.2 p (by omega) (by omega)];exact .inr (.inr (.inr rfl))
 ·rw [e];exact .inr (.inr (.inr rfl))
 ·rw [e];exact .inl rfl
set_option maxRecDepth 100000 in
set_option maxHeartbeats 6400000 in
theorem rkeep_any (w:World) (R:RLay) (s:St) (h:RefAt w R s) (hm:s.Mid) (hs:s.RefOk) (v:Value) (zs:List Int) (hz:IntsIn w v zs) (Q:Ending → World → Prop)
 (hno:∀ j,j < zs.length → s.has (zs.getD j 0)=false → ∀ w',Still w w' → Q (.returned (.tuple #[.int .i64 0,.int .i64 22])) w')
 (hyes:(∀ j,j < zs.length → s.has (zs.getD j 0)=true) → ∀ w',RefAt w' R (s.keep (stayTo zs zs.length)) → Only R.lo R.hi w w' → Q (.returned (.tuple #[.int .i64 (Bm.cnt (fun x => s.B 0 x && !stayTo zs zs.length x) 0 (64 * s.n):Nat),.int .i64 0])) w') :
 Calls Tryz.prog 123 #[.pointer (some ⟨R.rb,0,none⟩),v] w Q:=by
 have HNO:=Lib.hid hno
 have HYES:=Lib.hid hyes
 have HR:=Lib.hid h
 have HS:=Lib.hid hs
 have HM:=Lib.hid hm
 have hn2:=h.n2
 have c2:=h.c2
 have hrl:=h.lts.1
 obtain ⟨N,hN⟩:∃ N,64 * s.n=N:=⟨_,rfl⟩
 have HN:=Lib.hid hN
 have hNM:N ≤ 262144:=by omega
 have hNI:(N:Int) ≤ 262144:=by omega
 have hmk:=bools_make w N hNM
 rw [hN] at c2
 have hb0:=bb_made w N
 have hst0:Still w (w.alloc (.cells (madeCells #[.bool false] N) 4)):=(Only.refl _ _ w).alloc _
 have HB0:=Lib.hid hb0
 have HST0:=Lib.hid hst0
 obtain ⟨ib,hib⟩:∃ b,w.heap.size=b:=⟨_,rfl⟩
 have HIB:=Lib.hid hib
 have htop:R.hi ≤ ib:=by rw [← hib];exact h.top
 obtain ⟨hlen,ao,cap,hv,hc⟩:=hz
 subst hv
 have HEL:Hid (∀ j,j < zs.length → ∃ b o,ao=some ⟨b,o,none⟩ ∧ w.cell? ⟨b,o + j,none⟩=some (.int .i64 (zs.getD j 0)) ∧ b < w.heap.size):=Lib.hid fun j hlt => by
  obtain ⟨b,o,e1,hcj⟩:=hc j hlt
  exact ⟨b,o,e1,hcj,cell_blt hcj⟩
 obtain ⟨len,hll⟩:∃ len,zs.length=len:=⟨_,rfl⟩
 have hlz:len=zs.length:=hll.symm
 rw [hll]
 obtain ⟨M,hM⟩:∃ M,zs.length=M:=⟨_,rfl⟩
 have hlM:len=M:=by omega
 subst hlM
 have HLM:=Lib.hid hM
 have hlenI:(len:Int) ≤ 140737488355328:=by omega
 clear h hs hm hN hb0 hst0 hno hyes hc hlz hll hM hlen
 go_enter Tryz.func123,Tryz.ntmps123
 go_wp2_with fail
 generalize w.alloc (.cells (madeCells #[.bool false] N) 4)=w0 at *
 rw [hib] at HB0
 go_loopw [7] (fun y W => ∃ j:Nat,y=.int .i64 (j:Int) ∧ j ≤ len ∧ Still w W ∧ BB W ib N (stayTo zs j) ∧ ∀ i,i < j → s.has (zs.getD i 0)=true) (fun y _ => len + 1 - (intOf y).toNat)
 case atStart => exact ⟨0,rfl,Nat.zero_le _,HST0.out,HB0.out,fun i hi => absurd hi (Nat.not_lt_zero _)⟩
 case round =>
  obtain ⟨j,rfl,hj,hst,hb,hall⟩:=hrel
  have HST:=Lib.hid hst
  have HBB:=Lib.hid hb
  have HALL:=Lib.hid hall
  have hj0:(0:Int) ≤ (j:Int):=by omega
  clear hst hb hall
  by_cases hlt:j < len
  ·have hjI:(j:Int) < (len:Int):=by omega
   obtain ⟨b,o,hao,hcj,hbl⟩:=HEL.out j (by rw [HLM.out];exact hlt)
   subst hao
   have hcw:=(HST.out.cell (p:=⟨b,o + j,none⟩) hbl (.inl hbl)).trans hcj
   have hbw:b < wr.heap.size:=Nat.lt_of_lt_of_le hbl HST.out.size
   obtain ⟨z,hz⟩:∃ z,zs.getD j 0=z:=⟨_,rfl⟩
   rw [hz] at hcw
   have HZJ:=Lib.hid hz
   have hcz:=hcw
   clear hcj hz
   cases hh:s.has z with
   | false =>
    have HHH:=Lib.hid hh
    have HC:=Lib.hid (rblock_no wr R s (HR.out.still HST.out) z hh)
    clear hh
    go_wp2_with fail
    refine HC.out.mono ?_
    rintro e w1 ⟨rfl,hs1⟩
    have HS1:=Lib.hid (Still.trans HST.out hs1)
    clear hs1 hcw hcz hbw
    go_wp2_with fail
    refine HNO.out j (by rw [HLM.out];exact hlt) (by rw [HZJ.out];exact HHH.out) _ ?_
    repeat first | exact HS1.out | (refine Only.setCell ?_ (.inr (by have:=HIB.out;have:=HS1.out.size;dsimp only;omega)) _) | apply Only.alloc
   | true =>
    obtain ⟨m,rfl,hb⟩:∃ m:Nat,z=(m:Int) ∧ s.B 0 m=true:=by
     unfold St.has at hh
     simp only [Bool.and_eq_true,decide_eq_true_eq] at hh
     exact ⟨z.toNat,by omega,hh.2⟩
    have HHH:=Lib.hid hh
    have hmN:m < N:=by have:=HS.out.lt hb;rw [HN.out] at this;exact this
    have hmI:(m:Int) < (N:Int):=by omega
    have hm0:(0:Int) ≤ (m:Int):=by omega
    have HC:=Lib.hid (rblock_yes wr R s (HR.out.still HST.out) HS.out m hb)
    have HELW:Hid (∀ W,Still wr W → W.cell? ⟨b,o + j,none⟩=some (.int .i64 (m:Int)) ∧ b < W.heap.size):=Lib.hid fun W hW => ⟨(hW.cell (p:=⟨b,o + j,none⟩) hbw (.inl hbw)).trans hcw,Nat.lt_of_lt_of_le hbw hW.size⟩
    clear hh hb
    go_wp2_with fail
    refine HC.out.mono ?_
    rintro e w1 ⟨rfl,hs1⟩
    have HS1:=Lib.hid (Still.trans HST.out hs1)
    have HB1:=Lib.hid (HBB.out.still hs1)
    have HSW:=Lib.hid hs1
    obtain ⟨hcw1,hbw1⟩:=HELW.out _ hs1
    have x0:=HB1.out.cell hmN
    have f0:=HB1.out.frozen m
    have lb:=HB1.out.lt
    have HBS:Hid (∀ o,BB ((w1.setCell ⟨ib,m,none⟩ (.bool true)).alloc o) ib N (stayTo zs (j + 1)) ∧ Still w ((w1.setCell ⟨ib,m,none⟩ (.bool true)).alloc o)):=Lib.hid fun o => ⟨by
     have:=(HB1.out.set hmN true).still ((Only.refl _ _ _).alloc o)
     show BB _ ib N (setS (stayTo zs j) (zs.getD j 0).toNat true)
     rw [HZJ.out,Int.toNat_natCast]
     exact this,(HS1.out.setCell (p:=⟨ib,m,none⟩) (.inr (Nat.le_of_eq HIB.out)) _).alloc o⟩
    generalize stayTo zs j m=y0 at *
    clear hs1 hcw hcz hbw
    go_wp2_with fail
    refine ⟨⟨j + 1,by go_num,by omega,(HBS.out _).2,(HBS.out _).1,fun i hi => ?_⟩,by simp [intOf];omega⟩
    by_cases e:i=j
    ·rw [e,HZJ.out];exact HHH.out
    ·exact HALL.out i (by omega)
  ·obtain rfl:len=j:=by omega
   have HALL2:Hid (∀ i,i < zs.length → s.has (zs.getD i 0)=true):=Lib.hid fun i hi => HALL.out i (by rw [← HLM.out];exact hi)
   have HBB0:Hid (BB wr ib N (stayTo zs zs.length)):=Lib.hid (by rw [HLM.out];exact HBB.out)
   have HYES2:=Lib.hid (HYES.out HALL2.out)
   obtain ⟨stay,hstay⟩:∃ f,stayTo zs zs.length=f:=⟨_,rfl⟩
   rw [hstay] at HYES2 HBB0
   have HR1:=Lib.hid (HR.out.still HST.out)
   have HO1:Hid (Only R.lo R.hi w wr):=Lib.hid (HST.out.any _ _)
   clear HALL HBB HYES HALL2 HEL HLM hstay HB0 HST0 HNO HST hlt hj hj0 hlenI
   go_wp2_with fail
   go_loopw [10,11] (fun x y W => ∃ a:Nat,x=.int .i64 ((Bm.cnt (fun x => s.B 0 x && !stay x) 0 a:Nat):Int) ∧ y=.int .i64 (a:Int) ∧ a ≤ N ∧ BB W ib N stay ∧ Only R.lo R.hi w W ∧ RefAt W R (s.dk stay a)) (fun _ y _ => N + 1 - (intOf y).toNat)
   case atStart => exact ⟨0,rfl,rfl,Nat.zero_le _,HBB0.out,HO1.out,by rw [dk_zero];exact HR1.out⟩
   case round =>
    obtain ⟨a,hx,rfl,ha,hb,ho,hr⟩:=hrel
    have HB2:=Lib.hid hb
    have HO2:=Lib.hid ho
    have HR2:=Lib.hid hr
    have ha0:(0:Int) ≤ (a:Int):=by omega
    have hcl:=kcnt_le (fun x => s.B 0 x && !stay x) a
    have hcs:=kcnt_step (fun x => s.B 0 x && !stay x) a
    obtain ⟨k,hk⟩:∃ k,Bm.cnt (fun x => s.B 0 x && !stay x) 0 a=k:=⟨_,rfl⟩
    rw [hk] at hx hcl hcs
    have HK:=Lib.hid hk
    have HCS:=Lib.hid hcs
    subst hx
    have c2:=hr.c2
    rw [show 64 * (s.dk stay a).n=N from HN.out] at c2
    obtain ⟨l1,l2,l3,l4,l5⟩:=hr.lts
    by_cases hlt:a < N
    ·have hltI:(a:Int) < (N:Int):=by omega
     have haU:a < 64 * (s.dk stay a).n:=by rw [show 64 * (s.dk stay a).n=N from HN.out];exact hlt
     have x0:=hb.cell hlt
     have lb:=hb.lt
     have o1:=hr.objs.cell haU (d:=1) (by omega)
     rw [dk_ro,dk_B0,decide_eq_true (Nat.le_refl a),Bool.true_or,Bool.and_true] at o1
     have HSAME:Hid (s.B 0 a=false ∨ stay a=true → RefAt wr R (s.dk stay (a + 1))):=Lib.hid fun hh => hr.congr rfl (fun _ _ => rfl) (fun _ _ => rfl) (dk_same s stay hh) (fun _ _ => rfl) rfl
     rcases St.ro_kind HS.out a with ⟨_,hba⟩ | ⟨hkd,hba⟩
     ·have HBA:=Lib.hid hba
      rw [hba] at o1
      change wr.cell? ⟨R.ob,a * 5 + 1,none⟩=some (.int .i64 0) at o1
      generalize stay a=y0 at x0
      clear hr hb ho hba hk
      go_wp2_with fail
      exact ⟨⟨a + 1,by rw [HCS.out,HBA.out];rfl,by go_num,hlt,HB2.out,HO2.out,HSAME.out (.inl HBA.out)⟩,by simp [intOf];omega⟩
     ·have HBA:=Lib.hid hba
      rw [hba,if_pos rfl] at o1
      have hkn:(s.ro a 1 != 0)=true:=by simpa using hkd
      generalize s.ro a 1=kd at *
      cases hsa:stay a with
      | true =>
       have HSA:=Lib.hid hsa
       rw [hsa] at x0
       clear hr hb ho hba hk hsa hkd
       go_wp2_with fail
       exact ⟨⟨a + 1,by rw [HCS.out,HBA.out,HSA.out];rfl,by go_num,hlt,HB2.out,HO2.out,HSAME.out (.inr HSA.out)⟩,by simp [intOf];omega⟩
      | false =>
       have HSA:=Lib.hid hsa
       rw [hsa] at x0
       have HCL:=hr.clrObj haU
       have q0:=hr.objs.cell haU (d:=0) (by omega)
       have q2:=hr.objs.cell haU (d:=2) (by omega)
       have q3:=hr.objs.cell haU (d:=3) (by omega)
       have q4:=hr.objs.cell haU (d:=4) (by omega)
       rw [Nat.add_zero] at q0
       have f0:=hr.objs.frozen (a * 5)
       have f1:=hr.objs.frozen (a * 5 + 1)
       have f2:=hr.objs.frozen (a * 5 + 2)
       have f3:=hr.objs.frozen (a * 5 + 3)
       have f4:=hr.objs.frozen (a * 5 + 4)
       have ob1:=hr.ok.ob1
       have HOW:Hid (Only R.ob (R.ob + 1) wr (((((wr.setCell ⟨R.ob,a * 5,none⟩ (.int .i64 0)).setCell ⟨R.ob,a * 5 + 1,none⟩ (.int .i64 0)).setCell ⟨R.ob,a * 5 + 2,none⟩ (.int .i64 0)).setCell ⟨R.ob,a * 5 + 3,none⟩ (.int .i64 0)).setCell ⟨R.ob,a * 5 + 4,none⟩ (.int .i64 0))):=Lib.hid (((((only_cell wr R.ob _ _).trans (only_cell _ R.ob _ _)).trans (only_cell _ R.ob _ _)).trans (only_cell _ R.ob _ _)).trans (only_cell _ R.ob _ _))
       have HF:Hid (BB _ ib N stay ∧ Only R.lo R.hi w _ ∧ RefAt _ R (s.dk stay (a + 1))):=Lib.hid ⟨HB2.out.only HOW.out (by omega),HO2.out.trans (HOW.out.mono ob1.1 ob1.2),HCL.congr rfl (fun _ _ => rfl) (fun _ _ => rfl) (dk_drop s stay hsa) (fun _ _ => rfl) rfl⟩
       clear HCL HOW hr hb ho hba hk hsa hkd
       generalize (s.dk stay a).ro a 0=r0 at *
       generalize (s.dk stay a).ro a 2=r2 at *
       generalize (s.dk stay a).ro a 3=r3 at *
       generalize (s.dk stay a).ro a 4=r4 at *
       go_wp2_with fail
       exact ⟨⟨a + 1,by rw [HCS.out,HBA.out,HSA.out];go_num,by go_num,hlt,HF.out⟩,by simp [intOf];omega⟩
    ·obtain rfl:N=a:=by omega
     have HYES3:Hid (∀ w',RefAt w' R (s.keep stay) → Only R.lo R.hi w w' → Q (.returned (.tuple #[.int .i64 (k:Int),.int .i64 0])) w'):=Lib.hid fun w' h1 h2 => by
      have:=HYES2.out w' h1 h2
      rw [HN.out,HK.out] at this
      exact this
     obtain ⟨t,ht⟩:∃ t,s.keep stay=t:=⟨_,rfl⟩
     have hku:s.KeptU t stay:=by rw [← ht];exact HM.out.keep stay
     rw [ht] at HYES3
     have HKU:=Lib.hid hku
     have hB0:=hku.dkB HM.out
     rw [HN.out] at hB0
     have HTB:=Lib.hid hB0
     obtain ⟨n,hn⟩:∃ n,s.n=n:=⟨_,rfl⟩
     have HNN:=Lib.hid hn
     have hnI:(n:Int) ≤ 4096:=by omega
     have hn64:64 * n=N:=by have:=HN.out;omega
     clear hr hb ho HB2 HYES2 HBB0 HR1 HO1 ht hku hB0 hcl hcs HCS HK hk hn hmk
     go_wp2_with fail
     clear c2 l1 l2 l3 l4 l5
     go_loopw [12] (fun y W => ∃ p:Nat,y=.int .i64 (p:Int) ∧ p ≤ n ∧ Only R.lo R.hi w W ∧ ∃ P,RefAt W R { s.dk stay N with P:=P } ∧ PgI s t p P) (fun y _ => n + 1 - (intOf y).toNat)
     case atStart => exact ⟨0,rfl,Nat.zero_le _,HO2.out,s.P,HR2.out,PgI.start s t⟩
     case round =>
      obtain ⟨p,rfl,hp,ho,P,hr,hi⟩:=hrel
      have HO3:=Lib.hid ho
      have HR3:=Lib.hid hr
      have HI3:=Lib.hid hi
      have hp0:(0:Int) ≤ (p:Int):=by omega
      have c1:=hr.c1
      have t0:=hr.t0
      rw [show ({ s.dk stay N with P:=P }:St).n=n from HNN.out] at t0
      obtain ⟨l1,l2,l3,l4,l5⟩:=hr.lts
      by_cases hlt:p < n
      ·have hltI:(p:Int) < (n:Int):=by omega
       have hpn:p < s.n:=by rw [HNN.out];exact hlt
       have hpU:p < ({ s.dk stay N with P:=P }:St).n:=hpn
       have g0:=hr.pages.cell hpU (d:=0) (by omega)
       have g1:=hr.pages.cell hpU (d:=1) (by omega)
       have g2:=hr.pages.cell hpU (d:=2) (by omega)
       rw [Nat.add_zero] at g0
       change wr.cell? ⟨R.pb,p * 3,none⟩=some (.int .i64 (P p).k) at g0
       change wr.cell? ⟨R.pb,p * 3 + 1,none⟩=some (.int .i64 (P p).c) at g1
       change wr.cell? ⟨R.pb,p * 3 + 2,none⟩=some (.int .i64 (P p).r) at g2
       have HKI:=PgI.kinds HM.out HKU.out hpn hi
       have HOB:Hid (∀ W,Still wr W → ∀ x,x < N → ∃ kd,W.cell? ⟨R.ob,x * 5 + 1,none⟩=some (.int .i64 kd) ∧ (kd=0 ∧ t.B 0 x=false ∨ (kd != 0)=true ∧ t.B 0 x=true)):=Lib.hid fun W hW x hx => by
        have o1:=(HR3.out.still hW).objs.cell (i:=x) (d:=1) (by show x < 64 * s.n;rw [HN.out];exact hx) (by omega)
        change W.cell? ⟨R.ob,x * 5 + 1,none⟩=some (.int .i64 ((s.dk stay N).ro x 1)) at o1
        rw [dk_ro,← HTB.out] at o1
        refine ⟨_,o1,?_⟩
        cases hb:t.B 0 x with
        | false => exact .inl ⟨rfl,rfl⟩
        | true =>
         refine .inr ⟨?_,rfl⟩
         rw [if_pos rfl]
         have hsb:s.B 0 x=true:=by
          have:=HKU.out.b0 x
          rw [hb] at this
          cases e:s.B 0 x with
          | true => rfl
          | false => rw [e] at this;cases this
         rcases St.ro_kind HS.out x with ⟨_,e2⟩ | ⟨e1,_⟩
         ·rw [hsb] at e2;cases e2
         ·simpa using e1
       have HCW:Hid (∀ W,Still wr W → W.cell? ⟨R.rb,2,none⟩=some (.slice (some ⟨R.ob,0,none⟩) N R.co) ∧ R.rb < W.heap.size ∧ R.ob < W.heap.size ∧ W.cell? ⟨R.rb,1,none⟩=some (.pointer (some ⟨R.tb,0,none⟩))):=Lib.hid fun W hW => by
        have hr:=HR3.out.still hW
        have c2:=hr.c2
        rw [show 64 * ({ s.dk stay N with P:=P }:St).n=N from HN.out] at c2
        exact ⟨c2,hr.lts.1,hr.lts.2.2.2.2,hr.c1⟩
       generalize hkk:(P p).k=kk at *
       generalize (P p).c=cc at *
       generalize hrr:(P p).r=rr at *
       have hs0:Still wr (wr.alloc (.cells #[.int .i64 kk,.int .i64 cc,.int .i64 rr] 146)):=(Only.refl _ _ _).alloc _
       have hb0:=heap_alloc_new wr (.cells #[.int .i64 kk,.int .i64 cc,.int .i64 rr] 146)
       have HKK:=Lib.hid hkk
       have HS0:=Lib.hid hs0
       have pb1:=hr.ok.pb1
       have hp64:(p:Int) * 64 + 64 ≤ (N:Int):=by omega
       have HE0:Hid (∀ W,Still wr W → PgI s t (p + 1) P → ∃ q:Nat,(p:Int) + 1=(q:Int) ∧ q ≤ n ∧ Only R.lo R.hi w W ∧ ∃ P,RefAt W R { s.dk stay N with P:=P } ∧ PgI s t q P):=Lib.hid fun W hW hI => ⟨p + 1,by omega,hlt,HO3.out.andStill hW,P,HR3.out.still hW,hI⟩
       have HE1:Hid (∀ W W' P',Still wr W → Only R.pb (R.pb + 1) W W' → RTabAt W' R.tb R.pb R.cp s.n P' → PgI s t (p + 1) P' → ∃ q:Nat,(p:Int) + 1=(q:Int) ∧ q ≤ n ∧ Only R.lo R.hi w W' ∧ ∃ P,RefAt W' R { s.dk stay N with P:=P } ∧ PgI s t q P):=Lib.hid fun W W' P' hW h1 h2 hI => ⟨p + 1,by omega,hlt,(HO3.out.andStill hW).trans (h1.mono pb1.1 pb1.2),P',(HR3.out.still hW).updP h1 h2,hI⟩
       have hqq:(kk=0 ∨ kk=3) ∨ kk=1 ∨ kk=2:=by rcases HKI with e | e | e | e <;> omega
       clear hkk hs0 hr ho hi HKI hpU
       rcases hqq with hq | hq | hq
       ·have hq1:(kk == 1)=false:=by simp;omega
        have hq2:(kk == 2)=false:=by simp;omega
        have HQ3:=Lib.hid hq
        clear hq
        go_wp2_with fail
        clear g0 g1 g2 c1 t0 l1 l2 l3 l4 l5
        generalize wr.alloc (.cells #[.int .i64 kk,.int .i64 cc,.int .i64 rr] 146)=wb at *
        have x0:=cell_of (v:=.int .i64 kk) hb0 0 rfl
        have lx:=(Array.getElem?_eq_some_iff.1 hb0).1
        obtain ⟨c2,l1,l5,c1⟩:=HCW.out _ HS0.out
        go_loopw [14,15] (fun x y W => x=.bool false ∧ y=.int .i64 0 ∧ wb=W) (fun _ _ _ => 1)
        case atStart => exact ⟨rfl,rfl,rfl⟩
        case round =>
         obtain ⟨rfl,rfl,rfl⟩:=hrel
         go_wp2_with fail
         refine (rgive_no _ R.tb R.pb R.cp s.n p P (HR3.out.still HS0.out).tab hpn (by rw [HKK.out];exact HQ3.out)).mono ?_
         rintro e w2 ⟨rfl,hs2⟩
         have HS2:=Lib.hid (Still.trans HS0.out hs2)
         clear hs2 x0 lx c2 l1 l5 c1 hb0
         go_wp2_with fail
         obtain ⟨q,hq,hrest⟩:=HE0.out _ HS2.out (PgI.idle HM.out HKU.out hpn HI3.out (by rw [HKK.out];exact HQ3.out))
         exact ⟨⟨q,by rw [hq],hrest⟩,by simp [intOf];omega⟩
       ·subst hq
        obtain ⟨_,_,hy,hn⟩:=PgI.cls HM.out HKU.out hpn HI3.out HKK.out
        have HY:=Lib.hid hy
        have HN1:=Lib.hid hn
        clear hy hn
        go_wp2_with fail
        clear g0 g1 g2 c1 t0 l1 l2 l3 l4 l5
        generalize wr.alloc (.cells #[.int .i64 1,.int .i64 cc,.int .i64 rr] 146)=wb at *
        have x0:=cell_of (v:=.int .i64 1) hb0 0 rfl
        have lx:=(Array.getElem?_eq_some_iff.1 hb0).1
        obtain ⟨c2,l1,l5,c1⟩:=HCW.out _ HS0.out
        go_loopw [14,15] (fun x y W => ∃ (b:Bool) (i:Nat),x=.bool b ∧ y=.int .i64 (i:Int) ∧ i ≤ 64 ∧ (b=true ↔ ∃ j,j < i ∧ t.B 0 (p * 64 + j)=true) ∧ wb=W) (fun _ y _ => 65 - (intOf y).toNat)
        case atStart => exact ⟨false,0,rfl,rfl,by omega,⟨fun e => (by cases e),fun ⟨j,e,_⟩ => absurd e (Nat.not_lt_zero _)⟩,rfl⟩
        case round =>
         obtain ⟨b,i,rfl,rfl,hi,hb,rfl⟩:=hrel
         have HBI:=Lib.hid hb
         have hi0:(0:Int) ≤ (i:Int):=by omega
         clear hb
         by_cases hi64:i < 64
         ·have hiI:(i:Int) < 64:=by omega
          have hxN:p * 64 + i < N:=by omega
          obtain ⟨kd,o1,hkd⟩:=HOB.out _ HS0.out _ hxN
          have hxI:(p:Int) * 64 + (i:Int) < (N:Int):=by omega
          have htn:((p:Int) * 64 + (i:Int)).toNat=p * 64 + i:=by omega
          have hx0:(0:Int) ≤ (p:Int) * 64 + (i:Int):=by omega
          have HKD:=Lib.hid hkd
          cases b with
          | true =>
           clear hkd
           go_wp2_with fail
           refine ⟨⟨true,i + 1,rfl,by go_num,hi64,⟨fun _ => ?_,fun _ => rfl⟩,trivial⟩,by simp [intOf];omega⟩
           obtain ⟨j,h1,h2⟩:=HBI.out.1 rfl
           exact ⟨j,by omega,h2⟩
          | false =>
           have HNB:Hid (∀ j,j < i → t.B 0 (p * 64 + j)=false):=Lib.hid fun j hj => by
            cases e:t.B 0 (p * 64 + j) with
            | false => rfl
            | true => exact absurd (HBI.out.2 ⟨j,hj,e⟩) (by simp)
           rcases hkd with ⟨rfl,hbf⟩ | ⟨hkd,hbt⟩
           ·have HX:=Lib.hid hbf
            clear hbf
            go_wp2_with fail
            refine ⟨⟨false,i + 1,rfl,by go_num,hi64,⟨fun e => (by cases e),fun ⟨j,h1,h2⟩ => ?_⟩,trivial⟩,by simp [intOf];omega⟩
            by_cases e:j=i
            ·rw [e,HX.out] at h2;cases h2
            ·rw [HNB.out j (by omega)] at h2;cases h2
           ·have HX:=Lib.hid hbt
            clear hbt
            go_wp2_with fail
            exact ⟨⟨true,i + 1,rfl,by go_num,hi64,⟨fun _ => ⟨i,Nat.lt_succ_self i,HX.out⟩,fun _ => rfl⟩,trivial⟩,by simp [intOf];omega⟩
         ·obtain rfl:i=64:=by omega
          cases b with
          | true =>
           go_wp2_with fail
           obtain ⟨q,hq,hrest⟩:=HE0.out _ HS0.out (HY.out (HBI.out.1 rfl))
           exact ⟨⟨q,by rw [hq],hrest⟩,by simp [intOf];omega⟩
          | false =>
           go_wp2_with fail
           refine rgive_yes _ R.tb R.pb R.cp s.n p 1 P (HR3.out.still HS0.out).tab (Nat.le_refl _) hpn (.inl ⟨HKK.out,rfl⟩) _ ?_
           intro w2 ht2 ho2
           have HE:=Lib.hid (HE1.out _ _ _ HS0.out ho2 ht2 (HN1.out fun hh => absurd (HBI.out.2 hh) (by simp)))
           clear ht2 ho2 x0 lx c2 l1 l5 c1 hb0
           go_wp2_with fail
           obtain ⟨q,hq,hrest⟩:=HE.out
           exact ⟨⟨q,by rw [hq],hrest⟩,by simp [intOf];omega⟩
       ·subst hq
        obtain ⟨m,hrun,hPm,hy,hn⟩:=PgI.head HM.out HKU.out hpn HI3.out HKK.out
        have HY:=Lib.hid hy
        have HN1:=Lib.hid hn
        have HRUN:=Lib.hid hrun
        have HPM:=Lib.hid hPm
        have hxN:p * 64 < N:=by omega
        obtain ⟨kd,o1,hkd⟩:=HOB.out _ HS0.out _ hxN
        have hkd2:=hkd
        obtain ⟨kd',o1',hkd'⟩:=HOB.out _ (Only.refl _ _ wr) _ hxN
        obtain ⟨c2,_,_,_⟩:=HCW.out _ (Only.refl _ _ wr)
        have hxI:(p:Int) * 64 < (N:Int):=by omega
        have htn:((p:Int) * 64).toNat=p * 64:=by omega
        have hx0:(0:Int) ≤ (p:Int) * 64:=by omega
        clear hy hn hrun hPm hkd hkd2 o1
        rcases hkd' with ⟨rfl,hbf⟩ | ⟨hkd,hbt⟩
        ·have HX:=Lib.hid hbf
         clear hbf
         go_wp2_with fail
         clear g0 g1 g2 c1 t0 l1 l2 l3 l4 l5 c2 o1'
         generalize wr.alloc (.cells #[.int .i64 2,.int .i64 cc,.int .i64 rr] 146)=wb at *
         have x0:=cell_of (v:=.int .i64 2) hb0 0 rfl
         have lx:=(Array.getElem?_eq_some_iff.1 hb0).1
         obtain ⟨c2,l1,l5,c1⟩:=HCW.out _ HS0.out
         go_loopw [14,15] (fun x y W => x=.bool false ∧ y=.int .i64 0 ∧ wb=W) (fun _ _ _ => 1)
         case atStart => exact ⟨rfl,rfl,rfl⟩
         case round =>
          obtain ⟨rfl,rfl,rfl⟩:=hrel
          go_wp2_with fail
          refine rgive_yes _ R.tb R.pb R.cp s.n p m P (HR3.out.still HS0.out).tab HRUN.out.1 HRUN.out.2.1 (.inr ⟨HKK.out,by rw [HPM.out]⟩) _ ?_
          intro w2 ht2 ho2
          have HE:=Lib.hid (HE1.out _ _ _ HS0.out ho2 ht2 (HN1.out HX.out))
          clear ht2 ho2 x0 lx c2 l1 l5 c1 hb0
          go_wp2_with fail
          obtain ⟨q,hq,hrest⟩:=HE.out
          exact ⟨⟨q,by rw [hq],hrest⟩,by simp [intOf];omega⟩
        ·have HX:=Lib.hid hbt
         clear hbt
         go_wp2_with fail
         clear g0 g1 g2 c1 t0 l1 l2 l3 l4 l5 c2 o1'
         generalize wr.alloc (.cells #[.int .i64 2,.int .i64 cc,.int .i64 rr] 146)=wb at *
         have x0:=cell_of (v:=.int .i64 2) hb0 0 rfl
         have lx:=(Array.getElem?_eq_some_iff.1 hb0).1
         obtain ⟨c2,l1,l5,c1⟩:=HCW.out _ HS0.out
         go_loopw [14,15] (fun x y W => x=.bool true ∧ y=.int .i64 0 ∧ wb=W) (fun _ _ _ => 1)
         case atStart => exact ⟨rfl,rfl,rfl⟩
         case round =>
          obtain ⟨rfl,rfl,rfl⟩:=hrel
          go_wp2_with fail
          obtain ⟨q,hq,hrest⟩:=HE0.out _ HS0.out (HY.out HX.out)
          exact ⟨⟨q,by rw [hq],hrest⟩,by simp [intOf];omega⟩
      ·obtain rfl:n=p:=by omega
       have hs2:RefAt wr R { t with W:=s.W }:=hr.congr HKU.out.n (fun _ _ => rfl) (fun i hx => (hi.low i (by have:=HNN.out;change i < s.n at hx;omega)).symm) HTB.out (fun x hx => ?_) HKU.out.ser
       ·have HU:=Lib.hid (HKU.out.refOk s.W)
        have HR5:=Lib.hid hs2
        clear hr ho hi hs2
        go_wp2_with fail
        refine rtidy_any wr R _ HR5.out HU.out _ ?_
        intro w2 V hr2 ho2 hV
        have HE:Hid (Q (.returned (.tuple #[.int .i64 (k:Int),.int .i64 0])) w2):=Lib.hid (by
         refine HYES3.out w2 (hr2.congr rfl (fun x hx => ?_) (fun _ _ => rfl) rfl (fun _ _ => rfl) rfl) (HO3.out.trans ho2)
         have hx:x < 64 * t.n:=hx
         show t.W x=V x
         by_cases e:∃ c,c < 8 ∧ t.B (c + 1) x=true
         ·obtain ⟨c,hc,hb⟩:=e
          rw [(hV x hx).1 c hc hb]
          exact HKU.out.lnk c hc x hb
         ·have hno:∀ c,c < 8 → t.B (c + 1) x=false:=fun c hc => by
           cases hb:t.B (c + 1) x with
           | false => rfl
           | true => exact absurd ⟨c,hc,hb⟩ e
          obtain ⟨v1,v2⟩:=(hV x hx).2 hno
          by_cases hin:t.InRoom x
          ·rw [v1 hin];exact HKU.out.room x hin
          ·rw [v2 hin];exact HKU.out.zero x (by rw [← HKU.out.n];exact hx) hin hno)
        clear hr2 ho2 hV c1 t0 l1 l2 l3 l4 l5
        go_wp2_with fail
        exact HE.out
       ·unfold St.sh
        show (t.S x).getD _=(s.S x).getD _
        rw [HKU.out.S x]
        rw [HTB.out];exact hx
end Go.Proofs.YtfbcdmhmpfijjaaGreatDoor
namespace Go.Proofs.YtfbcdmhmpfijjaaGreatDoor
open Go Go.RowKit
attribute [local go_sem] Oper.semAt_some
set_option maxRecDepth 100000 in
set_option maxHeartbeats 6400000 in
theorem keep_bad (w:World) (L:Lay) (s:St) (h:SpaceAt w L s) (v:Value) (zs:List Int) (hz:IntsAt w v zs) (hf:s.Fine) (hbad:¬∀ j,j < zs.length → s.has (zs.getD j 0)=true) :
 Calls Tryz.prog 122 #[.pointer (some ⟨L.sb,0,none⟩),v] w fun e w' => e=.returned (.tuple #[.int .i64 0,.int .i64 22]) ∧ Still w w':=by
 have HH:=Lib.hid hbad
 have HF:=Lib.hid hf
 have HZ:=Lib.hid hz
 have hn2:=h.n2
 obtain ⟨N,hN⟩:∃ N,64 * s.n=N:=⟨_,rfl⟩
 have HN:=Lib.hid hN
 have HNW:=Lib.hid (fun w => new_yes N w (by omega))
 have H0:=Lib.hid h
 have hc0:=h.c0N hN
 have hlt:=h.sblt
 have hlen:Hid (zs.length ≤ 140737488355328):=by
  rcases hz with ⟨_,rfl⟩ | ⟨_,_,_,_,h1,_⟩
  ·exact Lib.hid (by simp)
  ·exact Lib.hid h1
 refine (callsIn_wide (n:=9)).1 ?_
 clear hbad hf hz h hN hn2
 refine callsIn_of_wp_marks Tryz.func122 rfl trivial ?_ rfl
 simp only [Tryz.ntmps122,List.size_toArray,List.length_cons,List.length_nil,Nat.reduceAdd,Nat.reduceSub,Array.replicate_succ,Array.replicate_zero,List.push_toArray,List.append_toArray,List.nil_append,List.cons_append]
 refine wpIn_wide.2 ?_
 go_wp2_with fail
 have hB0:=heap_alloc_new w (.cells #[.pointer (some ⟨L.sb,0,none⟩)] 34)
 have H1:=Lib.hid (H0.out.alloc (.cells #[.pointer (some ⟨L.sb,0,none⟩)] 34))
 have hs1:Still w (w.alloc (.cells #[.pointer (some ⟨L.sb,0,none⟩)] 34)):=(Only.refl _ _ w).alloc _
 generalize w.alloc (.cells #[.pointer (some ⟨L.sb,0,none⟩)] 34)=w1 at *
 refine (HNW.out w1).mono ?_
 rintro e w2 ⟨mp,rfl,hm,hs2⟩
 have hB2:w2.heap[w.heap.size]?=some (.cells #[.pointer (some ⟨L.sb,0,none⟩)] 34):=by rw [hs2.block _ (Array.getElem?_eq_some_iff.1 hB0).1 (.inl (Array.getElem?_eq_some_iff.1 hB0).1)];exact hB0
 have hl2:=(Array.getElem?_eq_some_iff.1 hB2).1
 have HM:=Lib.hid hm
 have HS2:=Lib.hid (Still.trans hs1 hs2)
 have H2:=Lib.hid (H1.out.still hs2)
 have hB0':=hB0
 clear hB0 hs1 hm hs2 H1
 obtain ⟨len,cap,ao,hv⟩:∃ len cap ao,v=.slice ao len cap:=by
  rcases HZ.out with ⟨rfl,_⟩ | ⟨b,o,cap,rfl,_⟩
  ·exact ⟨0,0,none,rfl⟩
  ·exact ⟨_,_,_,rfl⟩
 have hlz:len=zs.length:=by
  rcases HZ.out with ⟨e,rfl⟩ | ⟨b,o,cap',e,_⟩
  ·rw [hv] at e;injection e
  ·rw [hv] at e;injection e
 subst hv
 go_wp2_with fail
 have hB6:=heap_alloc_new w2 (.cells #[.pointer (some mp)] 81)
 have hB3:(w2.alloc (.cells #[.pointer (some mp)] 81)).heap[w.heap.size]?=some (.cells #[.pointer (some ⟨L.sb,0,none⟩)] 34):=by rw [Below.heap_alloc _ _ _ hl2];exact hB2
 have H3:=Lib.hid (H2.out.alloc (.cells #[.pointer (some mp)] 81))
 have HS3:=Lib.hid (HS2.out.alloc (.cells #[.pointer (some mp)] 81))
 have HM3:=Lib.hid (HM.out.still ((Only.refl _ _ w2).alloc (.cells #[.pointer (some mp)] 81)))
 have HLO:Hid (L.hi ≤ w.heap.size ∧ w.heap.size < w1.heap.size ∧ w1.heap.size < w2.heap.size):=Lib.hid ⟨H0.out.top,(Array.getElem?_eq_some_iff.1 hB0').1,HM.out.bounds.1⟩
 have HMH:Hid (w2.heap.size < (w2.alloc (.cells #[.pointer (some mp)] 81)).heap.size):=Lib.hid (by simp)
 generalize w2.alloc (.cells #[.pointer (some mp)] 81)=w3 at *
 clear hB2 hl2 H2 HS2 HM hB0'
 generalize w2.heap.size=b6 at *
 generalize w1.heap.size=mlo at *
 have HBX:=Lib.hid (And.intro hB3 hB6)
 have HLEN:=Lib.hid hlen.out
 have hlenI:(zs.length:Int) ≤ 140737488355328:=by have:=hlen.out;omega
 go_loopw [28] (fun y wr => ∃ j:Nat,y=.int .i64 (j:Int) ∧ j ≤ zs.length ∧ IsMap wr mlo b6 mp N (stayTo zs j) ∧ Only mlo b6 w3 wr ∧ ∀ i,i < j → s.has (zs.getD i 0)=true) (fun y _ => zs.length + 1 - (intOf y).toNat)
 case atStart => exact ⟨0,rfl,Nat.zero_le _,HM3.out,Only.refl _ _ _,fun i hi => absurd hi (Nat.not_lt_zero _)⟩
 case round =>
  obtain ⟨j,rfl,hj,hmj,hoj,hall⟩:=hrel
  have HALL:=Lib.hid hall
  clear hall
  have HMJ:=Lib.hid hmj;have HOJ:=Lib.hid hoj
  have hj0:(0:Int) ≤ (j:Int):=by omega
  obtain ⟨hl1,hl2,hl3⟩:=HLO.out
  have HSJ:=Lib.hid (H3.out.kept hoj (.inl (by omega)) (by omega))
  have hb2:wr.heap[w.heap.size]?=some (.cells #[.pointer (some ⟨L.sb,0,none⟩)] 34):=by rw [hoj.block _ (by have:=HMH.out;omega) (.inl hl2)];exact HBX.out.1
  have hb6:wr.heap[b6]?=some (.cells #[.pointer (some mp)] 81):=by rw [hoj.block _ HMH.out (.inr (Nat.le_refl _))];exact HBX.out.2
  have hx2:=cell_of (v:=.pointer (some ⟨L.sb,0,none⟩)) hb2 0 rfl
  have hx6:=cell_of (v:=.pointer (some mp)) hb6 0 rfl
  have hq2:=(Array.getElem?_eq_some_iff.1 hb2).1
  have hq6:=(Array.getElem?_eq_some_iff.1 hb6).1
  by_cases hlt:j < zs.length
  ·have hjI:(j:Int) < (zs.length:Int):=by omega
   have hel:∃ b o,ao=some ⟨b,o,none⟩ ∧ wr.cell? ⟨b,o + j,none⟩=some (.int .i64 (zs.getD j 0)):=by
    rcases HZ.out with ⟨_,rfl⟩ | ⟨b,o,cap',e,_,hc⟩
    ·simp at hlt
    ·injection e with e1 _ _
     have hcj:=hc j hlt
     have hbl:b < w.heap.size:=World.block_lt_of_cell? w _ hcj
     refine ⟨b,o,e1,?_⟩
     have c1:w3.cell? ⟨b,o + j,none⟩=w.cell? ⟨b,o + j,none⟩:=HS3.out.cell hbl (.inl hbl)
     have c2:wr.cell? ⟨b,o + j,none⟩=w3.cell? ⟨b,o + j,none⟩:=hoj.cell (p:=⟨b,o + j,none⟩) (Nat.lt_of_lt_of_le hbl HS3.out.size) (.inl (by show b < mlo;omega))
     exact c2.trans (c1.trans hcj)
   obtain ⟨b,o,rfl,hcj⟩:=hel
   obtain ⟨x,hx⟩:∃ x,zs.getD j 0=x:=⟨_,rfl⟩
   have HX:=Lib.hid hx
   rw [hx] at hcj
   have HSW:Hid (Still w wr):=Lib.hid (HS3.out.trans' hoj (.inr (by omega)) (.inr (by omega)))
   have hc2:=HSJ.out.c2
   have hls:=HSJ.out.sblt
   cases hhas:s.has x with
   | false =>
    have HHS:=Lib.hid hhas
    clear hmj hoj hb2 hb6 hx hhas hl1 hl2 hl3
    go_wp2_with fail
    refine (HSJ.out.get x HHS.out).mono ?_
    rintro e w4 ⟨rfl,rfl⟩
    go_wp2_with fail
    refine leaves_marks wr.heap.size wr.heap.size [] wr List.nodup_nil (fun D hD => absurd hD (List.not_mem_nil)) (fun w' ho => ?_)
    refine ⟨.tuple #[.int .i64 0,.int .i64 22],by simp [results,Tryz.results122,go_sem],rfl,?_⟩
    exact HSW.out.trans' ho (.inr HSW.out.size) (.inr HSW.out.size)
   | true =>
    have hfine:=HF.out _ hhas
    have HST:Hid (stayTo zs (j + 1)=setS (stayTo zs j) x.toNat true):=Lib.hid (by rw [← hx];rfl)
    obtain ⟨xn,rfl⟩:=Int.eq_ofNat_of_zero_le hfine.1
    rw [Int.toNat_natCast] at HST
    have hxN:xn < N:=by have:=hfine.2.1;have:=HN.out;omega
    have HXN:=Lib.hid hxN
    have HHS:=Lib.hid hhas
    clear hmj hoj hb2 hb6 hx hhas hfine hxN hl1 hl2 hl3
    go_wp2_with fail
    refine (HSJ.out.get (xn:Int) HHS.out).mono ?_
    rintro e w4 ⟨rfl,rfl⟩
    go_wp2_with fail
    refine (set_yes mlo b6 N mp (stayTo zs j) (xn:Int) _ HMJ.out (by omega) (by have:=HXN.out;omega)).mono ?_
    rintro e w4 ⟨rfl,hm4,ho4⟩
    rw [rangeS_one,← HST.out] at hm4
    have HM4:=Lib.hid hm4;have HO4:=Lib.hid (HOJ.out.trans ho4)
    clear hm4 ho4
    go_wp2
    go_roundw
    case rel =>
     refine ⟨j + 1,by go_num,hlt,HM4.out,HO4.out,fun i hi => ?_⟩
     by_cases e:i=j
     ·rw [e,HX.out];exact HHS.out
     ·exact HALL.out i (by omega)
    case measure => simp [intOf];omega
  ·obtain rfl:j=zs.length:=by omega
   exact absurd HALL.out HH.out
end Go.Proofs.YtfbcdmhmpfijjaaGreatDoor
