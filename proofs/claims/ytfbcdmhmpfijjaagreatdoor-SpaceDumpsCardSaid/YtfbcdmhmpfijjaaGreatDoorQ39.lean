/-
  The walk of the document's tidy.
-/
import Derived.Laws.Rows
import Derived.Test.YtfbcdmhmpfijjaaGreatDoorQ35
import Derived.Test.YtfbcdmhmpfijjaaGreatDoorQ38
set_option linter.unusedVariables false
set_option linter.unusedSimpArgs false
set_option linter.unusedSectionVars false
namespace Go.Proofs.YtfbcdmhmpfijjaaGreatDoor
open Go Go.RowKit
def St.inTo (u:St) (a x:Nat):Prop:=∃ b:Nat,b < a ∧ u.B 0 b=true ∧ b ≤ x ∧ x < b + (Sp.wide (u.sh b).z).toNat
def St.v1 (u:St) (f:Nat → Bool) (x:Nat):Int:=if f x then u.W x else 0
structure LkI (u:St) (f:Nat → Bool) (c a0:Nat) (V:Nat → Int):Prop where
 old:∀ x d,x < 64 * u.n → d < c → u.B (d + 1) x=true → V x=u.link d x
 cur:∀ x,x < 64 * u.n → x < a0 → u.B (c + 1) x=true → V x=u.link c x
 oth:∀ x,x < 64 * u.n → (∀ d,d < c → u.B (d + 1) x=false) → (u.B (c + 1) x=false ∨ a0 ≤ x) → V x=u.v1 f x
theorem LkI.next {u:St} {f:Nat → Bool} {c a0:Nat} {V:Nat → Int} (h:LkI u f c a0 V) (hn:∀ x,a0 ≤ x → x < 64 * u.n → u.B (c + 1) x=false):LkI u f (c + 1) 0 V:=by
 refine ⟨fun x d hx hd hb => ?_,fun x _ hx => absurd hx (Nat.not_lt_zero _),fun x hx hno _ => ?_⟩
 ·by_cases e:d=c
  ·subst e
   by_cases hxa:x < a0
   ·exact h.cur x hx hxa hb
   ·rw [hn x (by omega) hx] at hb;cases hb
  ·exact h.old x d hx (by omega) hb
 ·exact h.oth x hx (fun d hd => hno d (by omega)) (.inl (hno c (by omega)))
theorem LkI.step {u:St} (hs:u.RefOk) {f:Nat → Bool} {c a0 i:Nat} {V:Nat → Int} (hc:c < 8) (h:LkI u f c a0 V) (hai:a0 ≤ i) (hb:u.B (c + 1) i=true) (hno:∀ x,a0 ≤ x → x < i → u.B (c + 1) x=false):LkI u f c (i + 1) (setW V i (u.link c i)):=by
 have hex:∀ d,d < 8 → u.B (d + 1) i=true → d=c:=fun d hd hb2 => ((hs.free d hd i).1 hb2).1.same hd hc ((hs.free c hc i).1 hb).1
 refine ⟨fun x d hx hd hb2 => ?_,fun x hx hxi hb2 => ?_,fun x hx h1 h2 => ?_⟩
 ·unfold setW
  by_cases e:x=i
  ·subst e
   have:=hex d (by omega) hb2
   omega
  ·rw [if_neg e];exact h.old x d hx hd hb2
 ·unfold setW
  by_cases e:x=i
  ·rw [if_pos e,e]
  ·rw [if_neg e]
   by_cases e2:x < a0
   ·exact h.cur x hx e2 hb2
   ·rw [hno x (by omega) (by omega)] at hb2;cases hb2
 ·unfold setW
  by_cases e:x=i
  ·subst e
   rcases h2 with h2 | h2
   ·rw [hb] at h2;cases h2
   ·omega
  ·rw [if_neg e]
   exact h.oth x hx h1 (h2.imp id fun g => by omega)
theorem inTo_all {u:St} (hs:u.RefOk) (x:Nat):u.inTo (64 * u.n) x ↔ u.InRoom x :=
 ⟨fun ⟨b,_,h2,h3,h4⟩ => ⟨b,h2,h3,h4⟩,fun ⟨b,h2,h3,h4⟩ => ⟨b,hs.lt h2,h2,h3,h4⟩⟩
set_option maxRecDepth 100000 in
set_option maxHeartbeats 6400000 in
theorem rtidy_any (w:World) (R:RLay) (u:St) (h:RefAt w R u) (hs:u.RefOk) (Q:Ending → World → Prop)
 (hQ:∀ w' V,RefAt w' R { u with W:=V } → Only R.lo R.hi w w' → (∀ x,x < 64 * u.n → (∀ c,c < 8 → u.B (c + 1) x=true → V x=u.link c x) ∧ ((∀ c,c < 8 → u.B (c + 1) x=false) → (u.InRoom x → V x=u.W x) ∧ (¬u.InRoom x → V x=0))) → Q (.returned (.tuple #[])) w') :
 Calls Tryz.prog 142 #[.pointer (some ⟨R.rb,0,none⟩)] w Q:=by
 have HQ:=Lib.hid hQ
 have HR:=Lib.hid h
 have HS:=Lib.hid hs
 have hn2:=h.n2
 have c0:=h.c0
 have hrl:=h.lts.1
 obtain ⟨N,hN⟩:∃ N,64 * u.n=N:=⟨_,rfl⟩
 have HN:=Lib.hid hN
 have hNM:N ≤ 262144:=by omega
 have hNI:(N:Int) ≤ 262144:=by omega
 have hmk:=bools_make w N hNM
 rw [hN] at c0
 have hb0:=bb_made w N
 have hst0:Still w (w.alloc (.cells (madeCells #[.bool false] N) 4)):=(Only.refl _ _ w).alloc _
 have HB0:=Lib.hid hb0
 have HST0:=Lib.hid hst0
 obtain ⟨ib,hib⟩:∃ b,w.heap.size=b:=⟨_,rfl⟩
 have HIB:=Lib.hid hib
 have htop:R.hi ≤ ib:=by rw [← hib];exact h.top
 clear h hs hQ hN hb0 hst0
 go_enter Tryz.func142,Tryz.ntmps142
 go_wp2_with fail
 generalize w.alloc (.cells (madeCells #[.bool false] N) 4)=w0 at *
 rw [hib] at HB0
 go_loopw [3] (fun y W => ∃ a:Nat,y=.int .i64 (a:Int) ∧ a ≤ N ∧ Still w W ∧ ∃ f,BB W ib N f ∧ ∀ x,f x=true ↔ u.inTo a x) (fun y _ => N + 1 - (intOf y).toNat)
 case atStart => exact ⟨0,rfl,Nat.zero_le _,HST0.out,fun _ => false,HB0.out,fun x => ⟨fun e => (by cases e),fun ⟨b,e,_⟩ => absurd e (Nat.not_lt_zero _)⟩⟩
 case round =>
  obtain ⟨a,rfl,ha,hst,f,hb,hf⟩:=hrel
  have HST:=Lib.hid hst
  have HBB:=Lib.hid hb
  have HF:=Lib.hid hf
  have ha0:(0:Int) ≤ (a:Int):=by omega
  have hr:=HR.out.still hst
  have c2:=hr.c2
  rw [HN.out] at c2
  obtain ⟨l1,l2,l3,l4,l5⟩:=hr.lts
  by_cases hlt:a < N
  ·have hltI:(a:Int) < (N:Int):=by omega
   have haU:a < 64 * u.n:=by rw [HN.out];exact hlt
   clear hr hst hb hf
   go_wp2_with fail
   cases hba:u.B 0 a with
   | false =>
    have HBA:=Lib.hid hba
    have o1:=(HR.out.still HST.out).objs.cell haU (d:=1) (by omega)
    rw [show u.ro a 1=0 by unfold St.ro;rw [hba];rfl] at o1
    clear hba
    go_loopw [4] (fun y W => y=.int .i64 0 ∧ wr=W) (fun _ _ => 1)
    case atStart => exact ⟨rfl,rfl⟩
    case round =>
     obtain ⟨rfl,rfl⟩:=hrel
     go_wp2_with fail
     refine ⟨⟨a + 1,by go_num,hlt,HST.out,f,HBB.out,fun x => ?_⟩,by simp [intOf];omega⟩
     rw [HF.out]
     refine ⟨fun ⟨b,g1,g2⟩ => ⟨b,by omega,g2⟩,fun ⟨b,g1,g2,g3⟩ => ⟨b,?_,g2,g3⟩⟩
     by_cases e:b=a
     ·rw [e,HBA.out] at g2;cases g2
     ·omega
   | true =>
    obtain ⟨_,_,hk1,_,hz1,hz2⟩:=(HS.out.fine a hba).1
    have hfit:=(HS.out.fine a hba).2.lt.1
    have HBA:=Lib.hid hba
    have HO1:Hid (∀ W,Still w W → W.cell? ⟨R.ob,a * 5 + 1,none⟩=some (.int .i64 (u.sh a).k) ∧ W.cell? ⟨R.ob,a * 5 + 2,none⟩=some (.int .i64 (u.sh a).z) ∧ W.cell? ⟨R.rb,2,none⟩=some (.slice (some ⟨R.ob,0,none⟩) N R.co) ∧ R.rb < W.heap.size ∧ R.ob < W.heap.size):=Lib.hid fun W hW => by
     have hr:=HR.out.still hW
     have o1:=hr.objs.cell haU (d:=1) (by omega)
     have o2:=hr.objs.cell haU (d:=2) (by omega)
     rw [show u.ro a 1=(u.sh a).k by unfold St.ro;rw [HBA.out];rfl] at o1
     rw [show u.ro a 2=(u.sh a).z by unfold St.ro;rw [HBA.out];rfl] at o2
     have c2:=hr.c2
     rw [HN.out] at c2
     exact ⟨o1,o2,c2,hr.lts.1,hr.lts.2.2.2.2⟩
    have HRM:=Lib.hid (fun W => rroom_any (u.sh a).z hz1 hz2 W)
    have hwl:=(Sp.wide_le (u.sh a).z)
    obtain ⟨wd,hwd⟩:=Int.eq_ofNat_of_zero_le hwl.1
    have HWD:=Lib.hid hwd
    rw [hwd] at HRM
    rw [hwd,Int.toNat_natCast,HN.out] at hfit
    have hwdI:(wd:Int) ≤ 1024:=by omega
    obtain ⟨kd,hkd⟩:∃ x,(u.sh a).k=x:=⟨_,rfl⟩
    obtain ⟨zd,hzd⟩:∃ x,(u.sh a).z=x:=⟨_,rfl⟩
    rw [hkd,hzd] at HO1
    rw [hzd] at HRM
    rw [hkd] at hk1
    have hkn:(kd != 0)=true:=by simp;omega
    have HZD:=Lib.hid hzd
    have HIN:Hid (u.inTo (a + 1)=fun x => u.inTo a x ∨ (a ≤ x ∧ x < a + wd)):=Lib.hid (by
     funext x
     refine propext ⟨fun ⟨b,g1,g2,g3,g4⟩ => ?_,fun hh => ?_⟩
     ·by_cases e:b=a
      ·subst e
       rw [HWD.out,Int.toNat_natCast] at g4
       exact .inr ⟨g3,g4⟩
      ·exact .inl ⟨b,by omega,g2,g3,g4⟩
     ·rcases hh with ⟨b,g1,g2⟩ | ⟨g1,g2⟩
      ·exact ⟨b,by omega,g2⟩
      ·exact ⟨a,Nat.lt_succ_self a,HBA.out,g1,by rw [HWD.out,Int.toNat_natCast];exact g2⟩)
    clear hba hwl hwd hkd hzd c2 l1 l2 l3 l4 l5 hz1 hz2
    go_loopw [4] (fun y W => ∃ i:Nat,y=.int .i64 (i:Int) ∧ i ≤ wd ∧ Still w W ∧ ∃ f,BB W ib N f ∧ ∀ x,f x=true ↔ (u.inTo a x ∨ (a ≤ x ∧ x < a + i))) (fun y _ => wd + 1 - (intOf y).toNat)
    case atStart => exact ⟨0,rfl,Nat.zero_le _,HST.out,f,HBB.out,fun x => (HF.out x).trans ⟨.inl,fun hh => hh.elim id fun h2 => by omega⟩⟩
    case round =>
     obtain ⟨i,rfl,hi,hst,g,hb,hg⟩:=hrel
     have HST2:=Lib.hid hst
     have HB2:=Lib.hid hb
     have HG:=Lib.hid hg
     have hi0:(0:Int) ≤ (i:Int):=by omega
     obtain ⟨o1,o2,c2,l1,l5⟩:=HO1.out _ hst
     clear hst hb hg
     go_wp2_with fail
     refine (HRM.out _).mono ?_
     rintro e w3 ⟨rfl,hw3⟩
     subst hw3
     by_cases hiw:i < wd
     ·have hiwI:(i:Int) < (wd:Int):=by omega
      obtain ⟨p,hp⟩:∃ p,a + i=p:=⟨_,rfl⟩
      have hpN:p < N:=by omega
      have hpI:(p:Int) < (N:Int):=by omega
      have hp0:(0:Int) ≤ (p:Int):=by omega
      have hpe:(a:Int) + (i:Int)=(p:Int):=by omega
      have x0:=HB2.out.cell hpN
      have f0:=HB2.out.frozen p
      have lb:=HB2.out.lt
      have HBS:=Lib.hid (HB2.out.set hpN true)
      have HPP:=Lib.hid hp
      generalize g p=gp at *
      clear hp o1 o2 c2 l1 l5
      go_wp2_with fail
      refine ⟨⟨i + 1,by go_num,hiw,HST2.out.setCell (p:=⟨ib,p,none⟩) (.inr (Nat.le_of_eq HIB.out)) _,_,HBS.out,fun x => ?_⟩,by simp [intOf];omega⟩
      have hp:=HPP.out
      unfold setS
      by_cases e:x=p
      ·rw [if_pos e]
       exact ⟨fun _ => .inr (by omega),fun _ => rfl⟩
      ·rw [if_neg e,HG.out]
       exact ⟨fun hh => hh.imp id fun h2 => by omega,fun hh => hh.imp id fun h2 => by omega⟩
     ·obtain rfl:wd=i:=by omega
      clear o1 o2 c2 l1 l5
      go_wp2_with fail
      refine ⟨⟨a + 1,by go_num,hlt,HST2.out,g,HB2.out,fun x => ?_⟩,by simp [intOf];omega⟩
      rw [HIN.out]
      exact HG.out x
  ·obtain rfl:N=a:=by omega
   have HF2:Hid (∀ x,f x=true ↔ u.InRoom x):=Lib.hid fun x => by rw [HF.out,← HN.out];exact inTo_all HS.out x
   have HB2:=Lib.hid hb
   clear hr hst hb hf HB0 HST0 HF
   go_wp2_with fail
   have HF0:=Lib.hid (HR.out.still HST.out)
   have HO0:Hid (Only R.lo R.hi w wr):=Lib.hid (HST.out.any _ _)
   go_loopw [5] (fun y W => ∃ a:Nat,y=.int .i64 (a:Int) ∧ a ≤ N ∧ BB W ib N f ∧ Only R.lo R.hi w W ∧ ∃ V,RefAt W R { u with W:=V } ∧ ∀ x,V x=if x < a then u.v1 f x else u.W x) (fun y _ => N + 1 - (intOf y).toNat)
   case atStart => exact ⟨0,rfl,Nat.zero_le _,HB2.out,HO0.out,u.W,HF0.out,fun x => by rw [if_neg (Nat.not_lt_zero _)]⟩
   case round =>
    obtain ⟨a,rfl,ha,hb,ho,V,hr,hV⟩:=hrel
    have HB3:=Lib.hid hb
    have HO3:=Lib.hid ho
    have HR3:=Lib.hid hr
    have HV:=Lib.hid hV
    have ha0:(0:Int) ≤ (a:Int):=by omega
    have c0:=hr.c0
    rw [show 64 * ({ u with W:=V }:St).n=N from HN.out] at c0
    obtain ⟨l1,l2,l3,l4,l5⟩:=hr.lts
    by_cases hlt:a < N
    ·have hltI:(a:Int) < (N:Int):=by omega
     have haU:a < 64 * ({ u with W:=V }:St).n:=by rw [show 64 * ({ u with W:=V }:St).n=N from HN.out];exact hlt
     have x0:=hb.cell hlt
     have lb:=hb.lt
     cases hfa:f a with
     | true =>
      rw [hfa] at x0
      have HFA:=Lib.hid hfa
      clear hr hb ho hV hfa
      go_wp2_with fail
      refine ⟨⟨a + 1,by go_num,hlt,HB3.out,HO3.out,V,HR3.out,fun x => ?_⟩,by simp [intOf];omega⟩
      rw [HV.out]
      by_cases e:x=a
      ·rw [if_neg (by omega),if_pos (by omega)]
       unfold St.v1
       rw [e,HFA.out];rfl
      ·by_cases e2:x < a
       ·rw [if_pos e2,if_pos (by omega)]
       ·rw [if_neg e2,if_neg (by omega)]
     | false =>
      rw [hfa] at x0
      have HFA:=Lib.hid hfa
      have z0:=hr.word haU
      have f0:=hr.words.frozen a
      have HRS:=Lib.hid (hr.setW haU 0)
      have wb1:=hr.ok.wb1
      have HBS:Hid (BB (wr.setCell ⟨R.wb,a,none⟩ (.int .i64 0)) ib N f):=Lib.hid (hb.only (only_cell _ _ _ _) (by omega))
      change wr.cell? ⟨R.wb,a,none⟩=some (.int .i64 (V a)) at z0
      generalize V a=y at *
      clear hr hb ho hV hfa
      go_wp2_with fail
      refine ⟨⟨a + 1,by go_num,hlt,HBS.out,HO3.out.trans ((only_cell _ R.wb _ _).mono wb1.1 wb1.2),_,HRS.out,fun x => ?_⟩,by simp [intOf];omega⟩
      show setW V a 0 x=_
      unfold setW
      by_cases e:x=a
      ·rw [if_pos e,if_pos (by omega)]
       unfold St.v1
       rw [e,HFA.out];rfl
      ·rw [if_neg e,HV.out]
       by_cases e2:x < a
       ·rw [if_pos e2,if_pos (by omega)]
       ·rw [if_neg e2,if_neg (by omega)]
    ·obtain rfl:N=a:=by omega
     have HL0:Hid (LkI u f 0 0 V):=Lib.hid ⟨fun x d _ hd => absurd hd (Nat.not_lt_zero _),fun x _ hx => absurd hx (Nat.not_lt_zero _),fun x hx _ _ => by rw [HV.out,if_pos (by have:=HN.out;omega)]⟩
     clear hr hb ho hV HB2 HF0 HO0
     go_wp2_with fail
     go_loopw [6] (fun y W => ∃ c:Nat,y=.int .i64 (c:Int) ∧ c ≤ 8 ∧ Only R.lo R.hi w W ∧ ∃ V,RefAt W R { u with W:=V } ∧ LkI u f c 0 V) (fun y _ => 9 - (intOf y).toNat)
     case atStart => exact ⟨0,rfl,by omega,HO3.out,V,HR3.out,HL0.out⟩
     case round =>
      obtain ⟨c,rfl,hc,ho,V,hr,hL⟩:=hrel
      have HO4:=Lib.hid ho
      have HR4:=Lib.hid hr
      have HL:=Lib.hid hL
      have hc0:(0:Int) ≤ (c:Int):=by omega
      by_cases hc8:c < 8
      ·have hcI:(c:Int) < 8:=by omega
       have HOK:Hid (∀ V,({ u with W:=V }:St).RefOk):=Lib.hid fun V => ⟨HS.out.free,HS.out.page,HS.out.fine⟩
       have hnx:=rnext_any wr R _ hr (HOK.out V) c hc8 0 (Nat.zero_le _)
       have HNX:Hid (Calls Tryz.prog 81 #[.pointer (some ⟨R.rb,0,none⟩),.int .i64 (c:Int),.int .i64 0] wr fun e w' => e=.returned (.int .i64 (Bm.next (u.B (c + 1)) (64 * u.n) ((0:Nat):Int))) ∧ Still wr w'):=Lib.hid hnx
       clear hr ho hL hnx
       go_wp2_with fail
       refine HNX.out.mono ?_
       rintro e w5 ⟨rfl,hs5⟩
       have HR5:=Lib.hid (HR4.out.still hs5)
       have HO5:=Lib.hid (HO4.out.andStill hs5)
       clear hs5 HNX
       go_wp2_with fail
       go_loopw [7] (fun y W => ∃ a0:Nat,y=.int .i64 (Bm.next (u.B (c + 1)) (64 * u.n) (a0:Int)) ∧ a0 ≤ N ∧ Only R.lo R.hi w W ∧ ∃ V,RefAt W R { u with W:=V } ∧ LkI u f c a0 V) (fun y _ => msr N (intOf y))
       case atStart => exact ⟨0,rfl,Nat.zero_le _,HO5.out,V,HR5.out,HL.out⟩
       case round =>
        obtain ⟨a0,rfl,ha0N,ho,V,hr,hL⟩:=hrel
        have HO6:=Lib.hid ho
        have HR6:=Lib.hid hr
        have HL6:=Lib.hid hL
        rcases Bm.next_spec (u.B (c + 1)) (64 * u.n) (a0:Int) with ⟨e,hno⟩ | ⟨i,e,h1,h2,h3,h4⟩
        ·have HLN:=Lib.hid (hL.next fun x hx1 hx2 => hno x (by omega) hx2)
         rw [e]
         clear hr ho hL hno e
         go_wp2_with fail
         exact ⟨⟨c + 1,by go_num,by omega,HO6.out,V,HR6.out,HLN.out⟩,by simp [intOf];omega⟩
        ·rw [e]
         have hiN:i < N:=by rw [← HN.out];exact h2
         have hi0:(0:Int) ≤ (i:Int):=by omega
         have hiI:(i:Int) < (N:Int):=by omega
         have hnx:=rnext_any wr R _ hr (HOK.out V) c hc8 (i + 1) (by show i + 1 ≤ 64 * u.n;omega)
         obtain ⟨nx,hne⟩:∃ x,Bm.next (u.B (c + 1)) (64 * u.n) ((i + 1:Nat):Int)=x:=⟨_,rfl⟩
         have HNX:Hid (Calls Tryz.prog 81 #[.pointer (some ⟨R.rb,0,none⟩),.int .i64 (c:Int),.int .i64 ((i:Int) + 1)] wr fun e w' => e=.returned (.int .i64 nx) ∧ Still wr w'):=Lib.hid (by
          rw [show (i:Int) + 1=((i + 1:Nat):Int) by omega,← hne]
          exact hnx)
         have hnb:-1 ≤ nx ∧ nx < 262144 ∧ (nx < 0 ∨ (i:Int) < nx):=by
          rw [← hne]
          rcases Bm.next_spec (u.B (c + 1)) (64 * u.n) ((i + 1:Nat):Int) with ⟨e2,_⟩ | ⟨j,e2,g1,g2,_⟩ <;> rw [e2] <;> omega
         have hlk:Sp.lnk nx=u.link c i:=by
          unfold St.link
          rw [← hne]
          congr 2
         have HLK:Hid (∀ W,Calls Tryz.prog 82 #[.int .i64 nx] W fun e w' => e=.returned (.int .i64 (u.link c i)) ∧ Still W w'):=Lib.hid fun W => (rlink_any nx W hnb.1 hnb.2.1).mono fun e w' ⟨e1,e2⟩ => ⟨by rw [e1,hlk],by rw [← e2];exact Only.refl _ _ _⟩
         have HLS:=Lib.hid (hL.step HS.out hc8 (by omega) h3 fun x hx1 hx2 => h4 x (by omega) hx2)
         have HNE:=Lib.hid hne
         have HNB:=Lib.hid hnb
         have hw1:IntKind.i64.wrap ((i:Int) + 1)=(i:Int) + 1:=by rw [IntKind.wrap_i64];omega
         clear hr ho hL hnx hne hlk h1 h2 h3 h4 e
         go_wp2_with fail
         refine HNX.out.mono ?_
         rintro e w7 ⟨rfl,hs7⟩
         have HR7:=Lib.hid (HR6.out.still hs7)
         have HO7:=Lib.hid (HO6.out.andStill hs7)
         have hiU:i < 64 * ({ u with W:=V }:St).n:=by rw [show 64 * ({ u with W:=V }:St).n=N from HN.out];exact hiN
         have HIU:=Lib.hid hiU
         have HXF:Hid (∀ w',Still w7 w' → w'.cell? ⟨R.wb,i,none⟩=some (.int .i64 (V i)) ∧ w'.frozen? ⟨R.wb,i,none⟩=false ∧ R.rb < w'.heap.size ∧ R.wb < w'.heap.size):=Lib.hid fun w' hs => by
          have hr:=HR7.out.still hs
          exact ⟨hr.word HIU.out,hr.words.frozen i,hr.lts.1,hr.lts.2.2.1⟩
         have HC0:Hid (∀ w',Only R.wb (R.wb + 1) w7 w' → w'.cell? ⟨R.rb,0,none⟩=some (.slice (some ⟨R.wb,0,none⟩) N R.cw)):=Lib.hid fun w' ho => by
          have o:=HR7.out.ok
          have hc2:=(ho.cell (p:=⟨R.rb,0,none⟩) HR7.out.lts.1 (by show R.rb < R.wb ∨ R.wb + 1 ≤ R.rb;have:=o.rw';omega)).trans HR7.out.c0
          rw [show 64 * ({ u with W:=V }:St).n=N from HN.out] at hc2
          exact hc2
         have wb1:=HR7.out.ok.wb1
         have hsC:Still w7 w7:=Only.refl _ _ _
         obtain ⟨x0,f0,l1,l3⟩:=HXF.out _ hsC
         have k0:=HC0.out w7 (Only.refl _ _ _)
         generalize V i=y at *
         clear hs7 hiU
         go_upto_region 19 with fail
         go_cut [8] from 80 to 95 (fun s8 wx => s8=.int .i64 nx ∧ RefAt wx R { u with W:=setW V i (u.link c i) } ∧ Only R.lo R.hi w wx)
         case first =>
          go_region_held3 (fun w' => w'.cell? ⟨R.rb,0,none⟩=some (.slice (some ⟨R.wb,0,none⟩) N R.cw))
           ((refine HC0.out _ ?_;(repeat first | with_reducible exact Still.any hsC _ _ | with_reducible exact Only.refl _ _ _ | with_reducible apply Only.drew | with_reducible apply Only.drewN | with_reducible apply only_cellX)))
           (first
             | (go_at_call 82;refine (HLK.out _).mono ?_;rintro e wq ⟨rfl,hcall⟩;have hsC:Still w7 wq:=Still.trans (by (repeat first | with_reducible exact hsC | with_reducible exact Only.refl _ _ _ | with_reducible apply Only.drew | with_reducible apply Only.drewN | with_reducible apply Only.alloc)) hcall;obtain ⟨x0,f0,l1,l3⟩:=HXF.out _ hsC;have k0:=HC0.out wq (hsC.any _ _)))
          all_goals
           have HF:Hid (RefAt (wq.setCell ⟨R.wb,i,none⟩ (.int .i64 (u.link c i))) R { u with W:=setW V i (u.link c i) } ∧ Only R.lo R.hi w (wq.setCell ⟨R.wb,i,none⟩ (.int .i64 (u.link c i)))):=Lib.hid ⟨(HR7.out.still hsC).setW HIU.out _,(HO7.out.andStill hsC).trans ((only_cell wq R.wb i _).mono wb1.1 wb1.2)⟩
           clear x0 f0 l1 l3 k0
           go_wp2_with fail
           go_meet
           exact ⟨rfl,HF.out.1,HF.out.2⟩
         case rest =>
          obtain ⟨rfl,hr8,ho8⟩:=hcut
          have HE:=Lib.hid (And.intro hr8 ho8)
          clear hr8 ho8
          go_wp2_with fail
          refine ⟨⟨i + 1,by rw [HNE.out],hiN,HE.out.2,_,HE.out.1,HLS.out⟩,?_⟩
          exact msr_lt hiN HNB.out.2.2
      ·obtain rfl:c=8:=by omega
       clear hr ho hL
       go_wp2_with fail
       first | go_end0 | skip
       refine HQ.out _ V HR4.out HO4.out fun x hx => ⟨fun d hd hb => HL.out.old x d hx hd hb,fun hno => ?_⟩
       have hv:=HL.out.oth x hx hno (.inr (Nat.zero_le _))
       refine ⟨fun hin => ?_,fun hin => ?_⟩
       ·rw [hv]
        unfold St.v1
        rw [(HF2.out x).2 hin];rfl
       ·rw [hv]
        unfold St.v1
        rw [if_neg (fun e => hin ((HF2.out x).1 e))]
end Go.Proofs.YtfbcdmhmpfijjaaGreatDoor
