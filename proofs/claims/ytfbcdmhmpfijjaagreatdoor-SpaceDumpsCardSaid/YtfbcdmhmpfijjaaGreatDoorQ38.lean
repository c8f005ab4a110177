/-
  The walk of the document's take.
-/
import Derived.Laws.Rows
import Derived.Test.YtfbcdmhmpfijjaaGreatDoorQ34
import Derived.Test.YtfbcdmhmpfijjaaGreatDoorQ37
import Derived.Deep.Cut
import Derived.Deep.CutRange
import Derived.Deep.CutBlock
set_option linter.unusedVariables false
set_option linter.unusedSimpArgs false
set_option linter.unusedSectionVars false
namespace Go.Proofs.YtfbcdmhmpfijjaaGreatDoor
open Go Go.RowKit
def St.takeF (s:St) (z:Int):St :=
 if Sp.cls z=8 then (match s.runAt (Sp.pgs z).toNat with | none => s | some h => { s with P:=runPg s.P h (Sp.pgs z).toNat,low:=s.ff })
 else if 0 ≤ s.hd0 (Sp.cls z).toNat then s.setB ((Sp.cls z).toNat + 1) (setS (s.B ((Sp.cls z).toNat + 1)) (s.hd0 (Sp.cls z).toNat).toNat false)
 else (s.open (Sp.cls z).toNat).setB ((Sp.cls z).toNat + 1) (setS ((s.open (Sp.cls z).toNat).B ((Sp.cls z).toNat + 1)) (s.ff * 64) false)
def St.takeP (s:St) (z:Int):Nat → Pg :=
 if Sp.cls z=8 then (match s.runAt (Sp.pgs z).toNat with | none => s.P | some h => runPg s.P h (Sp.pgs z).toNat)
 else if 0 ≤ s.hd0 (Sp.cls z).toNat then s.P else setPg s.P s.ff ⟨1,((Sp.cls z).toNat:Int),0⟩
theorem hd0_none {s:St} {c:Nat} (h:¬0 ≤ s.hd0 c):∀ x,x < 64 * s.n → s.B (c + 1) x=false:=by
 rcases Bm.next_spec (s.B (c + 1)) (64 * s.n) 0 with ⟨_,e⟩ | ⟨i,e,_⟩
 ·exact fun x hx => e x (by omega) hx
 ·exact absurd (show 0 ≤ s.hd0 c by unfold St.hd0;rw [e];omega) h
def lkD (c f x:Nat):Int:=Sp.lnk (if x + Sp.cw c < f + Sp.bk c * Sp.cw c then ((x + Sp.cw c:Nat):Int) else -1)
theorem cut_next {S:Nat → Bool} {f w b N j:Nat} (hS:∀ x,x < N → S x=false) (hw:0 < w) (hf:f + b * w ≤ N) (hj:j < b) :
 Bm.next (cutB S f w b) N ((f + j * w:Nat) + 1)=if f + j * w + w < f + b * w then ((f + j * w + w:Nat):Int) else -1:=by
 have e1:(j + 1) * w=j * w + w:=by rw [Nat.add_mul,Nat.one_mul]
 have hup:∀ x,x < N → cutB S f w b x=true → ∃ i,i < b ∧ x=f + i * w:=fun x hx hb => by
  rcases (cutB_at S f w x b).1 hb with e | e
  ·rw [hS x hx] at e;cases e
  ·exact e
 have hin:∀ i,i < b → f + i * w < N:=fun i hi => by
  have:=Nat.mul_le_mul_right w (show i + 1 ≤ b by omega)
  rw [Nat.add_mul,Nat.one_mul] at this
  omega
 rcases Bm.next_spec (cutB S f w b) N ((f + j * w:Nat) + 1) with ⟨e,h⟩ | ⟨i,e,h1,h2,h3,h4⟩
 ·rw [e]
  by_cases hjb:j + 1 < b
  ·exfalso
   have:=h (f + (j + 1) * w) (by rw [e1];omega) (hin _ hjb)
   rw [(cutB_at S f w _ b).2 (.inr ⟨j + 1,hjb,rfl⟩)] at this
   cases this
  ·obtain rfl:b=j + 1:=by omega
   rw [if_neg (by rw [e1];omega)]
 ·obtain ⟨m,hm,rfl⟩:=hup i h2 h3
  have hmj:j < m:=by
   by_cases hh:j < m
   ·exact hh
   ·have:=Nat.mul_le_mul_right w (show m ≤ j by omega)
    omega
  have hle:=Nat.mul_le_mul_right w (show j + 1 ≤ m by omega)
  have hlt:=Nat.mul_le_mul_right w (show m + 1 ≤ b by omega)
  rw [Nat.add_mul,Nat.one_mul] at hlt
  rw [e1] at hle
  rw [e,if_pos (by omega)]
  by_cases hjm:m=j + 1
  ·rw [hjm,e1,Nat.add_assoc]
  ·exfalso
   have:=h4 (f + (j + 1) * w) (by rw [e1];omega) (by
    have:=Nat.mul_le_mul_right w (show j + 2 ≤ m by omega)
    rw [show (j + 2) * w=(j + 1) * w + w by rw [show j + 2=(j + 1) + 1 by rfl,Nat.add_mul (j + 1),Nat.one_mul]] at this
    omega)
   rw [(cutB_at S f w _ b).2 (.inr ⟨j + 1,by omega,rfl⟩)] at this
   cases this
theorem open_words {s:St} {c:Nat} (hc:c < 8) (hd:¬0 ≤ s.hd0 c) (hf:s.ff < s.n) (x:Nat) (hx:x ≠ s.ff * 64):(s.open c).W x=cutW (clrW s.W (s.ff * 64) 64) (lkD c (s.ff * 64)) (s.ff * 64) (Sp.cw c) (Sp.bk c) x:=by
 have hcw:=(Sp.cw_le c hc)
 have hbk:=Sp.bkcw c hc
 have e:(s.open c).W=cutW (clrW s.W (s.ff * 64) 64) (fun a => (({ s with P:=setPg s.P s.ff ⟨1,c,0⟩,low:=s.ff }:St).cut1 s.ff c (Sp.bk c)).link c a) (s.ff * 64) (Sp.cw c) (Sp.bk c):=rfl
 rw [e]
 by_cases hj:∃ j,j < Sp.bk c ∧ x=s.ff * 64 + j * Sp.cw c
 ·obtain ⟨j,hj,rfl⟩:=hj
  rw [cutW_in _ _ _ _ (by omega) j _ hj,cutW_in _ _ _ _ (by omega) j _ hj]
  show Sp.lnk (Bm.next (({ s with P:=setPg s.P s.ff ⟨1,c,0⟩,low:=s.ff }:St).cut1 s.ff c (Sp.bk c) |>.B (c + 1)) (64 * s.n) (((s.ff * 64 + j * Sp.cw c:Nat):Int) + 1))=_
  have eB:(({ s with P:=setPg s.P s.ff ⟨1,c,0⟩,low:=s.ff }:St).cut1 s.ff c (Sp.bk c)).B (c + 1)=cutB (s.B (c + 1)) (s.ff * 64) (Sp.cw c) (Sp.bk c):=St.setB_at _ _ _
  rw [eB,cut_next (hd0_none hd) (by omega) (by omega) hj]
  rfl
 ·rw [cutW_out _ _ _ _ _ _ fun i hi e => hj ⟨i,hi,e⟩,cutW_out _ _ _ _ _ _ fun i hi e => hj ⟨i,hi,e⟩]
theorem takeF_same (s:St) (z:Int):(s.takeF z).n=s.n ∧ (s.takeF z).P=s.takeP z ∧ (s.takeF z).B 0=s.B 0 ∧ (s.takeF z).S=s.S ∧ (s.takeF z).Q=s.Q ∧ (s.takeF z).ser=s.ser ∧ (s.takeF z).room=s.room ∧ (s.takeF z).acts=s.acts:=by
 unfold St.takeF St.takeP
 by_cases h8:Sp.cls z=8
 ·rw [if_pos h8,if_pos h8]
  cases s.runAt (Sp.pgs z).toNat <;> exact ⟨rfl,rfl,rfl,rfl,rfl,rfl,rfl,rfl⟩
 ·rw [if_neg h8,if_neg h8]
  by_cases hd:0 ≤ s.hd0 (Sp.cls z).toNat
  ·rw [if_pos hd,if_pos hd]
   exact ⟨rfl,rfl,setB_ne _ _ _ _ (by omega),rfl,rfl,rfl,rfl,rfl⟩
  ·rw [if_neg hd,if_neg hd]
   have e0:(s.open (Sp.cls z).toNat).B 0=s.B 0:=by
    show (if 0=(Sp.cls z).toNat + 1 then cutB (s.B ((Sp.cls z).toNat + 1)) (s.ff * 64) (Sp.cw (Sp.cls z).toNat) (Sp.bk (Sp.cls z).toNat) else s.B 0)=s.B 0
    rw [if_neg (show ¬(0=(Sp.cls z).toNat + 1) by omega)]
   exact ⟨rfl,rfl,(setB_ne _ _ _ _ (by omega)).trans e0,rfl,rfl,rfl,rfl,rfl⟩
theorem only_cellX {w w':World} {b o:Nat} {u:Value} (h:Only b (b + 1) w w'):Only b (b + 1) w (w'.setCell ⟨b,o,none⟩ u):=h.trans (only_cell _ _ _ _)
set_option maxRecDepth 100000 in
set_option maxHeartbeats 6400000 in
theorem rtake_any (w:World) (R:RLay) (s:St) (h:RefAt w R s) (hm:s.Mid) (hs:s.RefOk) (hl:s.low ≤ s.n) (k z t:Int) (a:Nat) (fr:Bool) (hk1:1 ≤ k) (hk2:k ≤ 31) (hz1:1 ≤ z) (hz2:z ≤ 1024) (hp:s.pl z=((a:Int),fr)) (hin:a + (Sp.wide z).toNat ≤ 64 * s.n) (hse:0 ≤ s.ser ∧ s.ser ≤ 1000000000000) (Q:Ending → World → Prop)
 (hQ:∀ w',RefAt w' R ((s.takeF z).put a k z t) → Only R.lo R.hi w w' → Q (.returned (.tuple #[])) w') :
 Calls Tryz.prog 71 #[.pointer (some ⟨R.rb,0,none⟩),.int .i64 (a:Int),.bool fr,.int .i64 k,.int .i64 z,.int .i64 t] w Q:=by
 have HR:=Lib.hid h
 have HQ:=Lib.hid hQ
 have HO:=Lib.hid (fun W => rof_yes z hz1 hz2 W)
 have HPG:=Lib.hid (fun W => rpages_any z hz1 hz2 W)
 have hcl:=Sp.cls_in hz1 hz2
 have HPO:=Lib.hid hm.pgOk
 have HFF:=Lib.hid (hm.ff0 hl)
 have HSK:=Lib.hid (fun m => hm.seek0 hl m)
 have hn2:=h.n2
 have hrl:=h.lts.1
 have HP:=Lib.hid hp
 obtain ⟨v,hv⟩:∃ v,Sp.cls z=v:=⟨_,rfl⟩
 have HV:=Lib.hid hv
 rw [hv] at HO
 have hv0:0 ≤ v:=by omega
 have hv8:v ≤ 8:=by omega
 have c1:=h.c1
 clear h hQ hm hp hcl hv
 go_enter Tryz.func71,Tryz.ntmps71
 go_wp2_with fail
 refine (HO.out _).mono ?_
 rintro e w1 ⟨rfl,rfl⟩
 go_upto_block 0 with fail
 go_cut [18] from 18 to 35 (fun _ wx => RefAt wx R { s with P:=s.takeP z } ∧ Only R.lo R.hi w wx)
 case first =>
  have hin2:=HR.out.lts
  have hpo:=HR.out.ins R.pb (by omega)
  by_cases h8:v=8
  ·subst h8
   have hp:=HP.out
   have htp:s.takeP z=(match s.runAt (Sp.pgs z).toNat with | none => s.P | some h => runPg s.P h (Sp.pgs z).toNat):=by unfold St.takeP;rw [if_pos HV.out]
   unfold St.pl at hp
   rw [if_pos HV.out] at hp
   obtain ⟨hw,hg⟩:=Sp.wide_run HV.out
   have hg16:=(Sp.pgs_le z).2
   obtain ⟨m,hmm⟩:=Int.eq_ofNat_of_zero_le (show 0 ≤ Sp.pgs z by omega)
   rw [hmm,Int.toNat_natCast] at htp hp
   have hm1:1 ≤ m:=by omega
   have hm2:m ≤ 16:=by omega
   have HTR:=Lib.hid (fun W (ht:RTabAt W R.tb R.pb R.cp s.n s.P) Q h1 h2 => rtake_run W R.tb R.pb R.cp s.n m s.P ht HPO.out hm1 hm2 Q h1 h2)
   rw [HSK.out m] at HTR
   have HPG2:Hid (∀ W,Calls Tryz.prog 115 #[.int .i64 z] W fun e w' => e=.returned (.int .i64 (m:Int)) ∧ Still W w'):=Lib.hid fun W => (HPG.out W).mono fun e w' ⟨e1,e2⟩ => ⟨by rw [e1,hmm],by rw [← e2];exact Only.refl _ _ _⟩
   obtain ⟨r,hr⟩:∃ r,s.runAt m=r:=⟨_,rfl⟩
   rw [hr] at hp htp HTR
   cases r with
   | none =>
    exfalso
    injection hp with hp _
    omega
   | some q =>
    injection hp with _ hp
    subst hp
    have htp:s.takeP z=runPg s.P q m:=htp
    have HTQ:Hid (∀ W,RefAt W R s → Calls Tryz.prog 114 #[.pointer (some ⟨R.tb,0,none⟩),.int .i64 (m:Int)] W fun e w' => (e=.returned (.tuple #[.int .i64 (q:Int),.int .i64 0]) ∧ RefAt w' R { s with P:=s.takeP z }) ∧ Only R.pb (R.pb + 1) W w'):=Lib.hid fun W hW => HTR.out W hW.tab _ (fun e => by cases e) (fun q' e w' h1 h2 => by
     injection e with e
     subst e
     rw [htp]
     exact ⟨⟨rfl,hW.updP h2 h1⟩,h2⟩)
    clear hw hg hg16 hmm htp HTR hr
    have hrK:=HR.out
    have hsC:Still w w:=Only.refl _ _ _
    have hoK:Only R.lo R.hi w w:=Only.refl _ _ _
    go_wp2_with fail
    go_region_held3 (fun w' => w'.cell? ⟨R.rb,1,none⟩=some (.pointer (some ⟨R.tb,0,none⟩)))
     (exact (RefAt.c1 (hrK.still (by (repeat first | with_reducible exact hsC | with_reducible exact Only.refl _ _ _ | with_reducible apply Only.drew | with_reducible apply Only.drewN | with_reducible apply Only.alloc)))))
     (first
       | (go_at_call 115;refine (HPG2.out _).mono ?_;rintro e wp ⟨rfl,hcall⟩;have hsC:Still w wp:=Still.trans (by (repeat first | with_reducible exact hsC | with_reducible exact Only.refl _ _ _ | with_reducible apply Only.drew | with_reducible apply Only.drewN | with_reducible apply Only.alloc)) hcall)
       | (go_at_call 114;refine (HTQ.out _ (hrK.still (by (repeat first | with_reducible exact hsC | with_reducible exact Only.refl _ _ _ | with_reducible apply Only.drew | with_reducible apply Only.drewN | with_reducible apply Only.alloc)))).mono ?_;rintro e wq ⟨⟨rfl,hrN⟩,hcall⟩;have hoK:Only R.lo R.hi w wq:=Only.trans (Still.any (by (repeat first | with_reducible exact hsC | with_reducible exact Only.refl _ _ _ | with_reducible apply Only.drew | with_reducible apply Only.drewN | with_reducible apply Only.alloc)) _ _) (hcall.mono hpo.1 hpo.2);clear hrK hsC;have hrK:=hrN;have hsC:Still wq wq:=Only.refl _ _ _))
    all_goals
     go_wp2_with fail
     go_meet
     exact ⟨hrK.still (by (repeat first | with_reducible exact hsC | with_reducible exact Only.refl _ _ _ | with_reducible apply Only.drew | with_reducible apply Only.drewN | with_reducible apply Only.alloc)),hoK.andStill (by (repeat first | with_reducible exact hsC | with_reducible exact Only.refl _ _ _ | with_reducible apply Only.drew | with_reducible apply Only.drewN | with_reducible apply Only.alloc))⟩
  ·obtain ⟨c,hc⟩:=Int.eq_ofNat_of_zero_le hv0
   subst hc
   have hc8:c < 8:=by omega
   have hcI:(c:Int) < 8:=by omega
   have hc0:(0:Int) ≤ (c:Int):=by omega
   have hne:((c:Int) == 8)=false:=by simp;omega
   have hcz:=HV.out
   have hp:=HP.out
   unfold St.pl at hp
   rw [if_neg (by omega),hcz,Int.toNat_natCast] at hp
   have htp:s.takeP z=if 0 ≤ s.hd0 c then s.P else setPg s.P s.ff ⟨1,(c:Int),0⟩:=by unfold St.takeP;rw [if_neg (by omega),hcz,Int.toNat_natCast]
   by_cases hd:0 ≤ s.hd0 c
   ·rw [if_pos hd] at hp htp
    injection hp with _ hp
    subst hp
    have HF:Hid (RefAt w R { s with P:=s.takeP z }):=Lib.hid (by rw [htp];exact HR.out)
    clear htp hcz h8
    go_wp2_with fail
    go_meet
    exact ⟨HF.out,Only.refl _ _ _⟩
   ·rw [if_neg hd] at hp htp
    by_cases hf:s.ff=s.n
    ·rw [if_pos hf] at hp
     injection hp with hp _
     exfalso
     omega
    ·rw [if_neg hf] at hp
     injection hp with _ hp
     subst hp
     have HTC:Hid (∀ Q,(∀ w',RefAt w' R { s with P:=s.takeP z } → Only R.pb (R.pb + 1) w w' → Q (.returned (.tuple #[.int .i64 (s.ff:Int),.int .i64 0])) w') → Calls Tryz.prog 116 #[.pointer (some ⟨R.tb,0,none⟩),.int .i64 (c:Int)] w Q):=Lib.hid fun Q hQ => by
      refine rtake_class w R.tb R.pb R.cp s.n c s.P HR.out.tab HPO.out hc8 Q (fun e => ?_) (fun _ w' h1 h2 => ?_)
      ·rw [HFF.out] at e;exact absurd e hf
      ·rw [HFF.out] at h1 ⊢
       exact hQ w' (by rw [htp];exact HR.out.updP h2 h1) h2
     clear htp hcz h8
     go_wp2_with fail
     refine HTC.out _ (fun w3 h1 h2 => ?_)
     have HF:=Lib.hid (And.intro h1 (h2.mono hpo.1 hpo.2))
     clear h1 h2
     go_wp2_with fail
     go_meet
     exact ⟨HF.out.1,HF.out.2⟩
 case rest =>
  obtain ⟨hr,ho⟩:=hcut
  obtain ⟨w2,hw2⟩:∃ x,x=wc:=⟨_,rfl⟩
  subst hw2
  have HR2:=Lib.hid hr
  have HO2:=Lib.hid ho
  have HNB:=Lib.hid (fun W => rnumbered_any k W)
  have c3:=hr.c3
  have hrl2:=hr.lts.1
  have hfz:=hr.f 3
  have hse0:=hse.1
  have hse1:=hse.2
  clear hr ho hrl c1
  go_wp2_with fail
  have hb0:=heap_alloc_new w2 (.cells #[.int .i64 (a:Int),.int .i64 k,.int .i64 z,.int .i64 0,.int .i64 t] 95)
  have hs0:Still w2 (w2.alloc (.cells #[.int .i64 (a:Int),.int .i64 k,.int .i64 z,.int .i64 0,.int .i64 t] 95)):=(Only.refl _ _ w2).alloc _
  refine (HNB.out _).mono ?_
  rintro e w3 ⟨rfl,hw3⟩
  rw [hw3] at hb0 hs0
  obtain ⟨bb,hbb⟩:∃ bb,w2.heap.size=bb:=⟨_,rfl⟩
  rw [hbb] at hb0 ⊢
  have hwb:w.heap.size ≤ bb:=by rw [← hbb];exact HO2.out.size
  have hrb:R.hi ≤ bb:=by rw [← hbb];exact HR2.out.top
  have HB0:=Lib.hid hb0
  have HR3:=Lib.hid (HR2.out.still hs0)
  have HO3:=Lib.hid (HO2.out.andStill hs0)
  have c3:=HR3.out.c3
  have hrl2:=HR3.out.lts.1
  have hfz:=HR3.out.f 3
  clear hw3 hs0 hbb
  go_upto_if 42 with fail
  go_cut [42] from 42 to 54 (fun _ wx => RefAt wx R { s with P:=s.takeP z,ser:=if Sp.numbered k then s.ser + 1 else s.ser } ∧ wx.heap[bb]?=some (.cells #[.int .i64 (a:Int),.int .i64 k,.int .i64 z,.int .i64 (if Sp.numbered k then s.ser + 1 else 0),.int .i64 t] 95 (0,0)) ∧ Only R.lo R.hi w wx)
  case first =>
   cases hnb:Sp.numbered k with
   | false =>
    have HF:Hid (RefAt w3 R { s with P:=s.takeP z,ser:=if Sp.numbered k then s.ser + 1 else s.ser }):=Lib.hid (by rw [hnb];exact HR3.out)
    have hif:(if Sp.numbered k then s.ser + 1 else 0)=0:=by rw [hnb];rfl
    go_wp2_with fail
    go_meet
    exact ⟨HF.out,by rw [hif];exact HB0.out,HO3.out⟩
   | true =>
    have hif:(if Sp.numbered k then s.ser + 1 else 0)=s.ser + 1:=by rw [hnb];rfl
    have hrs:=HR3.out.setSer (s.ser + 1)
    have hb1:(w3.setCell ⟨R.rb,3,none⟩ (.int .i64 (s.ser + 1))).heap[bb]?=_:=(Below.heap_setCell _ _ _ _ (by show bb ≠ R.rb;have:=HR3.out.ok.rb1;omega)).trans hb0
    have x3:=cell_of (v:=.int .i64 0) hb1 3 rfl
    have xf:=frozen_of hb1 3
    have y3:=hrs.c3
    have HF:Hid (RefAt ((w3.setCell ⟨R.rb,3,none⟩ (.int .i64 (s.ser + 1))).setCell ⟨bb,3,none⟩ (.int .i64 (s.ser + 1))) R { s with P:=s.takeP z,ser:=if Sp.numbered k then s.ser + 1 else s.ser } ∧ ((w3.setCell ⟨R.rb,3,none⟩ (.int .i64 (s.ser + 1))).setCell ⟨bb,3,none⟩ (.int .i64 (s.ser + 1))).heap[bb]?=some (.cells #[.int .i64 (a:Int),.int .i64 k,.int .i64 z,.int .i64 (s.ser + 1),.int .i64 t] 95 (0,0)) ∧ Only R.lo R.hi w ((w3.setCell ⟨R.rb,3,none⟩ (.int .i64 (s.ser + 1))).setCell ⟨bb,3,none⟩ (.int .i64 (s.ser + 1)))):=by
     refine Lib.hid ⟨?_,?_,(HO3.out.setCell (p:=⟨R.rb,3,none⟩) (.inl HR3.out.ok.rb1) _).setCell (p:=⟨bb,3,none⟩) (.inr hwb) _⟩
     ·rw [hnb]
      exact hrs.kept (only_cell _ _ _ _) (.inl hrb)
     ·simp only [World.setCell] at hb1 ⊢
      rw [Array.getElem?_modify,if_pos rfl,hb1]
      rfl
    clear hb1 hrs
    go_wp2_with fail
    go_meet
    exact ⟨HF.out.1,by rw [hif];exact HF.out.2.1,HF.out.2.2⟩
  case rest =>
   obtain ⟨hr,hb,ho⟩:=hcut
   obtain ⟨w4,hw4⟩:∃ x,x=wc:=⟨_,rfl⟩
   subst hw4
   obtain ⟨se,hse⟩:∃ x,(if Sp.numbered k then s.ser + 1 else s.ser)=x:=⟨_,rfl⟩
   obtain ⟨sn,hsn⟩:∃ x,(if Sp.numbered k then s.ser + 1 else 0)=x:=⟨_,rfl⟩
   rw [hse] at hr
   rw [hsn] at hb
   have HSE:=Lib.hid (And.intro hse hsn)
   have HR4:=Lib.hid hr
   have HB4:=Lib.hid hb
   have HO4:=Lib.hid ho
   obtain ⟨N,hN⟩:∃ N,64 * s.n=N:=⟨_,rfl⟩
   have HN:=Lib.hid hN
   have ha64:a < 64 * s.n:=by have:=Sp.wide_pos hz1 hz2;omega
   have haN:a < N:=by rw [← hN];exact ha64
   have haI:(a:Int) < (N:Int):=by omega
   have ha0:(0:Int) ≤ (a:Int):=by omega
   have HCX:Hid (∀ w',Only R.ob (R.ob + 1) w4 w' → w'.cell? ⟨R.rb,2,none⟩=some (.slice (some ⟨R.ob,0,none⟩) N R.co) ∧ w'.cell? ⟨bb,0,none⟩=some (.int .i64 (a:Int)) ∧ w'.cell? ⟨bb,1,none⟩=some (.int .i64 k) ∧ w'.cell? ⟨bb,2,none⟩=some (.int .i64 z) ∧ w'.cell? ⟨bb,3,none⟩=some (.int .i64 sn) ∧ w'.cell? ⟨bb,4,none⟩=some (.int .i64 t)):=Lib.hid fun w' ho => by
    have hl:=HR4.out.lts.1
    have o:=HR4.out.ok
    have hb2:=at_only ho HB4.out (by have:=o.ob1;omega)
    have hc2:=(ho.cell (p:=⟨R.rb,2,none⟩) hl (by show R.rb < R.ob ∨ R.ob + 1 ≤ R.rb;have:=o.ro;omega)).trans HR4.out.c2
    rw [show 64 * ({ s with P:=s.takeP z,ser:=se }:St).n=N from HN.out] at hc2
    exact ⟨hc2,cell_of hb2 0 rfl,cell_of hb2 1 rfl,cell_of hb2 2 rfl,cell_of hb2 3 rfl,cell_of hb2 4 rfl⟩
   have x0:=hr.objs.cell (i:=a) ha64 (d:=0) (by omega)
   have x1:=hr.objs.cell (i:=a) ha64 (d:=1) (by omega)
   have x2:=hr.objs.cell (i:=a) ha64 (d:=2) (by omega)
   have x3:=hr.objs.cell (i:=a) ha64 (d:=3) (by omega)
   have x4:=hr.objs.cell (i:=a) ha64 (d:=4) (by omega)
   rw [Nat.add_zero] at x0
   have f0:=hr.objs.frozen (a * 5)
   have f1:=hr.objs.frozen (a * 5 + 1)
   have f2:=hr.objs.frozen (a * 5 + 2)
   have f3:=hr.objs.frozen (a * 5 + 3)
   have f4:=hr.objs.frozen (a * 5 + 4)
   obtain ⟨q0,q1,q2,q3,q4,q5⟩:=HCX.out w4 (Only.refl _ _ _)
   generalize St.ro { s with P:=s.takeP z,ser:=se } a 0=y0 at *
   generalize St.ro { s with P:=s.takeP z,ser:=se } a 1=y1 at *
   generalize St.ro { s with P:=s.takeP z,ser:=se } a 2=y2 at *
   generalize St.ro { s with P:=s.takeP z,ser:=se } a 3=y3 at *
   generalize St.ro { s with P:=s.takeP z,ser:=se } a 4=y4 at *
   obtain ⟨l1,l2,l3,l4,l5⟩:=hr.lts
   clear hr hb ho hse hsn hN
   go_upto_region 9 with fail
   go_region_held3 (fun w' => w'.cell? ⟨R.rb,2,none⟩=some (.slice (some ⟨R.ob,0,none⟩) N R.co) ∧ w'.cell? ⟨bb,0,none⟩=some (.int .i64 (a:Int)) ∧ w'.cell? ⟨bb,1,none⟩=some (.int .i64 k) ∧ w'.cell? ⟨bb,2,none⟩=some (.int .i64 z) ∧ w'.cell? ⟨bb,3,none⟩=some (.int .i64 sn) ∧ w'.cell? ⟨bb,4,none⟩=some (.int .i64 t))
    ((refine HCX.out _ ?_;(repeat first | with_reducible exact Only.refl _ _ _ | with_reducible apply Only.drew | with_reducible apply Only.drewN | with_reducible apply only_cellX)))
    (fail)
   have HR5:Hid (RefAt (((((w4.setCell ⟨R.ob,a * 5,none⟩ (.int .i64 (a:Int))).setCell ⟨R.ob,a * 5 + 1,none⟩ (.int .i64 k)).setCell ⟨R.ob,a * 5 + 2,none⟩ (.int .i64 z)).setCell ⟨R.ob,a * 5 + 3,none⟩ (.int .i64 sn)).setCell ⟨R.ob,a * 5 + 4,none⟩ (.int .i64 t)).drew R
    { s with P:=s.takeP z,ser:=se,B:=fun j => if j=0 then setS (s.B 0) a true else s.B j,S:=updM s.S (a:Int) (some ⟨k,z,sn,t⟩) }):=Lib.hid ((HR4.out.setObj ha64 ⟨k,z,sn,t⟩).still (Only.refl _ _ _).drew)
   have HO5:Hid (Only R.lo R.hi w (((((w4.setCell ⟨R.ob,a * 5,none⟩ (.int .i64 (a:Int))).setCell ⟨R.ob,a * 5 + 1,none⟩ (.int .i64 k)).setCell ⟨R.ob,a * 5 + 2,none⟩ (.int .i64 z)).setCell ⟨R.ob,a * 5 + 3,none⟩ (.int .i64 sn)).setCell ⟨R.ob,a * 5 + 4,none⟩ (.int .i64 t)).drew):=by
    have ob:=HR4.out.ok.ob1
    exact Lib.hid (HO4.out.trans ((((((only_cell w4 R.ob (a * 5) (.int .i64 (a:Int))).trans (only_cell _ R.ob _ _)).trans (only_cell _ R.ob _ _)).trans (only_cell _ R.ob _ _)).trans (only_cell _ R.ob _ _)).drew.mono ob.1 ob.2))
   generalize (((((w4.setCell ⟨R.ob,a * 5,none⟩ (.int .i64 (a:Int))).setCell ⟨R.ob,a * 5 + 1,none⟩ (.int .i64 k)).setCell ⟨R.ob,a * 5 + 2,none⟩ (.int .i64 z)).setCell ⟨R.ob,a * 5 + 3,none⟩ (.int .i64 sn)).setCell ⟨R.ob,a * 5 + 4,none⟩ (.int .i64 t)).drew=w5 at *
   clear HCX q0 q1 q2 q3 q4 q5 x0 x1 x2 x3 x4 f0 f1 f2 f3 f4 l1 l2 l3 l4 l5 HB4 HR4 HO4 HB0 HR3 HO3 HR2 HO2 HNB c3 hrl2 hfz
   obtain ⟨s5,hs5⟩:∃ x:St,x={ s with P:=s.takeP z,ser:=se,B:=fun j => if j=0 then setS (s.B 0) a true else s.B j,S:=updM s.S (a:Int) (some ⟨k,z,sn,t⟩) }:=⟨_,rfl⟩
   rw [← hs5] at HR5
   have hn5:s5.n=s.n:=by rw [hs5]
   have hW5:s5.W=s.W:=by rw [hs5]
   have HS5:=Lib.hid (And.intro hs5 (And.intro hn5 hW5))
   have hwd:=(Sp.wide_le z)
   clear hs5
   go_upto_if 62 with fail
   go_cut [62] from 62 to 94 (fun _ wx => ∃ V:Nat → Int,RefAt wx R { s5 with W:=V } ∧ Only R.lo R.hi w wx ∧ ∀ x,¬(a ≤ x ∧ x < a + (Sp.wide z).toNat) → V x=(s.takeF z).W x)
   case first =>
    cases fr with
    | false =>
     have hW:(s.takeF z).W=s.W:=by
      have hp:=HP.out
      unfold St.pl at hp
      unfold St.takeF
      by_cases h8:Sp.cls z=8
      ·rw [if_pos h8]
       cases s.runAt (Sp.pgs z).toNat <;> rfl
      ·rw [if_neg h8] at hp ⊢
       by_cases hd:0 ≤ s.hd0 (Sp.cls z).toNat
       ·rw [if_pos hd];rfl
       ·rw [if_neg hd] at hp
        by_cases hf:s.ff=s.n
        ·rw [if_pos hf] at hp
         injection hp with hp _
         omega
        ·rw [if_neg hf] at hp
         injection hp with _ hp
         cases hp
     have HW:=Lib.hid hW
     clear hW
     go_wp2_with fail
     go_meet
     refine ⟨s.W,?_,HO5.out,fun x _ => by rw [HW.out]⟩
     rw [← HS5.out.2.2]
     exact HR5.out
    | true =>
     obtain ⟨c,hc8,hcz,hd,hf,hae,hW⟩:∃ c:Nat,c < 8 ∧ Sp.cls z=(c:Int) ∧ ¬0 ≤ s.hd0 c ∧ s.ff < s.n ∧ a=s.ff * 64 ∧ (s.takeF z).W=(s.open c).W:=by
      have hp:=HP.out
      have hcl:=Sp.cls_in hz1 hz2
      unfold St.pl at hp
      unfold St.takeF
      by_cases h8:Sp.cls z=8
      ·rw [if_pos h8] at hp
       cases e:s.runAt (Sp.pgs z).toNat <;> rw [e] at hp <;> (injection hp with _ hp;cases hp)
      ·rw [if_neg h8] at hp ⊢
       by_cases hd:0 ≤ s.hd0 (Sp.cls z).toNat
       ·rw [if_pos hd] at hp
        injection hp with _ hp
        cases hp
       ·rw [if_neg hd] at hp ⊢
        by_cases hf:s.ff=s.n
        ·rw [if_pos hf] at hp
         injection hp with hp _
         omega
        ·rw [if_neg hf] at hp
         injection hp with hp _
         have hffn:s.ff ≤ s.n:=firstFree_le _ _ _ hl
         exact ⟨(Sp.cls z).toNat,by omega,by omega,hd,by omega,by omega,rfl⟩
     obtain rfl:v=(c:Int):=by rw [← HV.out];exact hcz
     have HOW:Hid (∀ x,x ≠ a → (s.takeF z).W x=cutW (clrW s.W a 64) (lkD c a) a (Sp.cw c) (Sp.bk c) x):=Lib.hid fun x hx => by
      rw [hW,hae]
      exact open_words hc8 hd hf x (by rw [← hae];exact hx)
     have hcw:=Sp.cw_le c hc8
     have hbc:=Sp.bkcw c hc8
     have HIN:=Lib.hid (fun i hi => Sp.cw_in c hc8 i hi)
     obtain ⟨b,hb⟩:∃ b,Sp.bk c=b:=⟨_,rfl⟩
     obtain ⟨cw,hcwe⟩:∃ x,Sp.cw c=x:=⟨_,rfl⟩
     have HBK:=Lib.hid (fun W => rblocks_any c hc8 W)
     have HST:Hid (∀ i,i < b → ∀ W,Calls Tryz.prog 120 #[.int .i64 (c:Int),.int .i64 (i:Int)] W fun e w' => e=.returned (.int .i64 ((i * cw:Nat):Int)) ∧ W=w'):=Lib.hid fun i hi W => by
      rw [← hcwe]
      exact rstart_any c hc8 i (by rw [hb];exact hi) W
     rw [hb] at HBK HOW hcw hbc
     rw [hcwe] at HOW hcw hbc HIN
     rw [hb] at HIN
     have HLD:Hid (∀ i,i < b → lkD c a (a + i * cw)=Sp.lnk (if i + 1 < b then ((a + (i * cw + cw):Nat):Int) else -1)):=Lib.hid fun i hi => by
      unfold lkD
      rw [hb,hcwe]
      have e1:(i + 1) * cw=i * cw + cw:=by rw [Nat.add_mul,Nat.one_mul]
      by_cases h1:i + 1 < b
      ·have:=Nat.mul_le_mul_right cw (show i + 1 + 1 ≤ b by omega)
       rw [Nat.add_mul (i + 1),Nat.one_mul,e1] at this
       rw [if_pos (by omega),if_pos h1,Nat.add_assoc]
      ·obtain rfl:b=i + 1:=by omega
       rw [if_neg (by rw [e1];omega),if_neg h1]
     have hcI:(c:Int) < 8:=by omega
     have hc0:(0:Int) ≤ (c:Int):=by omega
     have hbI:(b:Int) ≤ 32:=by omega
     have hb1:(1:Int) ≤ (b:Int):=by omega
     have ha64':a + 64 ≤ 64 * s.n:=by omega
     have hWP:=rwipe_any w5 R s5 HR5.out a 64 (by rw [HS5.out.2.1];exact ha64')
     have HWP:=Lib.hid (fun Q hQ => hWP Q hQ)
     have HA64:=Lib.hid ha64'
     clear hcz hd hf hae hW hb hcwe hWP ha64'
     go_wp2_with fail
     refine HWP.out _ (fun w6 hr6 ho6 => ?_)
     have wb1:=HR5.out.ok.wb1
     have HO6:Hid (Only R.lo R.hi w w6):=Lib.hid (HO5.out.trans (ho6.mono wb1.1 wb1.2))
     have HR6:=Lib.hid hr6
     clear hr6 ho6
     go_wp2_with fail
     go_loopw [14] (fun y W => ∃ i:Nat,y=.int .i64 (i:Int) ∧ 1 ≤ i ∧ i ≤ b ∧ ∃ V:Nat → Int,RefAt W R { s5 with W:=V } ∧ Only R.lo R.hi w W ∧ ∀ x,x ≠ a → V x=cutW (clrW s.W a 64) (lkD c a) a cw i x) (fun y _ => b + 1 - (intOf y).toNat)
     case atStart =>
      refine ⟨1,rfl,Nat.le_refl _,by omega,clrW s5.W a 64,HR6.out,HO6.out,fun x hx => ?_⟩
      rw [HS5.out.2.2]
      show _=setW (clrW s.W a 64) (a + 0 * cw) _ x
      unfold setW
      rw [if_neg (by omega)]
     case round =>
      obtain ⟨i,rfl,hi1,hib,V,hr,ho,hV⟩:=hrel
      have HRV:=Lib.hid hr
      have HOV:=Lib.hid ho
      have HVV:=Lib.hid hV
      have hi0:(1:Int) ≤ (i:Int):=by omega
      have hiI:(i:Int) ≤ (b:Int):=by omega
      clear hr ho hV
      go_wp2_with fail
      refine (HBK.out _).mono ?_
      rintro e w7 ⟨rfl,hw7⟩
      subst hw7
      by_cases hlt:i < b
      ·have hltI:(i:Int) < (b:Int):=by omega
       have HLI:=Lib.hid (HLD.out i hlt)
       have hst0:=HST.out i hlt
       have hcwi:=HIN.out i hlt
       obtain ⟨Iw,hIw⟩:∃ x,i * cw=x:=⟨_,rfl⟩
       have HIW:=Lib.hid hIw
       rw [hIw] at hst0 hcwi HLI
       have HS0:Hid (∀ W,Calls Tryz.prog 120 #[.int .i64 (c:Int),.int .i64 (i:Int)] W fun e w' => e=.returned (.int .i64 (Iw:Int)) ∧ Still W w'):=Lib.hid fun W => (hst0 W).mono fun e w' ⟨e1,e2⟩ => ⟨e1,by rw [← e2];exact Only.refl _ _ _⟩
       obtain ⟨nx,hnx⟩:∃ x:Int,(if i + 1 < b then ((a + (Iw + cw):Nat):Int) else -1)=x:=⟨_,rfl⟩
       have HNX:=Lib.hid hnx
       have hA:=HA64.out
       have hn1:-1 ≤ nx:=by rw [← hnx];split <;> omega
       have hn2':nx < 262144:=by
        rw [← hnx]
        by_cases h1:i + 1 < b
        ·have:=HIN.out (i + 1) h1
         rw [Nat.add_mul,Nat.one_mul,HIW.out] at this
         rw [if_pos h1]
         omega
        ·rw [if_neg h1];omega
       have HLK:Hid (∀ W,Calls Tryz.prog 82 #[.int .i64 nx] W fun e w' => e=.returned (.int .i64 (lkD c a (a + Iw))) ∧ Still W w'):=Lib.hid fun W => (rlink_any nx W hn1 hn2').mono fun e w' ⟨e1,e2⟩ => ⟨by rw [e1,HLI.out,hnx],by rw [← e2];exact Only.refl _ _ _⟩
       clear hst0 hIw hnx
       go_wp2_with fail
       refine (HBK.out _).mono ?_
       rintro e w7 ⟨rfl,hw7⟩
       subst hw7
       go_upto_if 76 with fail
       go_cut [15] from 66 to 94 (fun s15 wx => s15=.int .i64 nx ∧ wr=wx)
       case first =>
        by_cases h1:i + 1 < b
        ·have h1I:(i:Int) + 1 < (b:Int):=by omega
         have hnv:nx=(a:Int) + ((Iw:Int) + (cw:Int)):=by rw [← HNX.out,if_pos h1];omega
         have HS1:Hid (∀ W,Calls Tryz.prog 120 #[.int .i64 (c:Int),.int .i64 ((i:Int) + 1)] W fun e w' => e=.returned (.int .i64 ((Iw:Int) + (cw:Int))) ∧ W=w'):=Lib.hid fun W => by
          have:=HST.out (i + 1) h1 W
          rw [show ((i + 1:Nat):Int)=(i:Int) + 1 by omega,Nat.add_mul,Nat.one_mul,HIW.out,show ((Iw + cw:Nat):Int)=(Iw:Int) + (cw:Int) by omega] at this
          exact this
         have hIM:(Iw:Int) ≤ 64:=by omega
         have hI0:(0:Int) ≤ (Iw:Int):=by omega
         have hcM:(cw:Int) ≤ 32:=by omega
         have hcM0:(0:Int) ≤ (cw:Int):=by omega
         have haM:(a:Int) ≤ 262144:=by omega
         have HNV:=Lib.hid hnv
         clear hnv
         go_wp2_with fail
         refine (HS1.out _).mono ?_
         rintro e w8 ⟨rfl,hw8⟩
         subst hw8
         go_wp2_with fail
         go_meet
         exact ⟨congrArg (Value.int .i64) HNV.out.symm,rfl⟩
        ·have h1I:¬((i:Int) + 1 < (b:Int)):=by omega
         have hnv:nx=-1:=by rw [← HNX.out,if_neg h1]
         have HNV:=Lib.hid hnv
         clear hnv
         go_wp2_with fail
         go_meet
         exact ⟨congrArg (Value.int .i64) HNV.out.symm,rfl⟩
       case rest =>
        obtain ⟨rfl,hwc⟩:=hcut
        subst hwc
        obtain ⟨p,hp⟩:∃ p,a + Iw=p:=⟨_,rfl⟩
        have HPP:=Lib.hid hp
        rw [hp] at HLK
        have hp64:p < 64 * s.n:=by omega
        have hpI:(a:Int) + (Iw:Int)=(p:Int):=by omega
        have hpN:(p:Int) < (N:Int):=by have:=HN.out;omega
        have hp0:(0:Int) ≤ (p:Int):=by omega
        have hpNn:p < N:=by omega
        have hw3:IntKind.i64.wrap (p:Int)=(p:Int):=by rw [IntKind.wrap_i64];have:=HN.out;omega
        have hw4:wrap64 (p:Int)=(p:Int):=by unfold wrap64;have:=HN.out;omega
        have hw1:IntKind.i64.wrap ((a:Int) + (Iw:Int))=(p:Int):=by rw [hpI];exact hw3
        have hw2:wrap64 ((a:Int) + (Iw:Int))=(p:Int):=by rw [hpI];exact hw4
        have HC0:Hid (∀ w',Only R.wb (R.wb + 1) wr w' → w'.cell? ⟨R.rb,0,none⟩=some (.slice (some ⟨R.wb,0,none⟩) N R.cw)):=Lib.hid fun w' ho => by
         have o:=HRV.out.ok
         have hc2:=(ho.cell (p:=⟨R.rb,0,none⟩) HRV.out.lts.1 (by show R.rb < R.wb ∨ R.wb + 1 ≤ R.rb;have:=o.rw';omega)).trans HRV.out.c0
         rw [show 64 * ({ s5 with W:=V }:St).n=N by show 64 * s5.n=N;rw [HS5.out.2.1];exact HN.out] at hc2
         exact hc2
        have hps:p < 64 * ({ s5 with W:=V }:St).n:=by show p < 64 * s5.n;rw [HS5.out.2.1];exact hp64
        have x0:wr.cell? ⟨R.wb,p,none⟩=some (.int .i64 (V p)):=HRV.out.word hps
        have f0:=HRV.out.words.frozen p
        have l1:=HRV.out.lts.1
        have l3:=HRV.out.lts.2.2.1
        have HXF:Hid (∀ w',Still wr w' → w'.cell? ⟨R.wb,p,none⟩=some (.int .i64 (V p)) ∧ w'.frozen? ⟨R.wb,p,none⟩=false ∧ R.rb < w'.heap.size ∧ R.wb < w'.heap.size):=Lib.hid fun w' hs => ⟨(hs.cell (p:=⟨R.wb,p,none⟩) l3 (.inl l3)).trans x0,(hs.frozen (p:=⟨R.wb,p,none⟩) l3 (.inl l3)).trans f0,Nat.lt_of_lt_of_le l1 hs.size,Nat.lt_of_lt_of_le l3 hs.size⟩
        have hsC:Still wr wr:=Only.refl _ _ _
        have k0:=HC0.out wr (Only.refl _ _ _)
        have HPS:=Lib.hid hps
        generalize V p=y at *
        clear hp hps
        go_upto_region 18 with fail
        go_region_held3 (fun w' => w'.cell? ⟨R.rb,0,none⟩=some (.slice (some ⟨R.wb,0,none⟩) N R.cw))
         ((refine HC0.out _ ?_;(repeat first | with_reducible exact Still.any hsC _ _ | with_reducible exact Only.refl _ _ _ | with_reducible apply Only.drew | with_reducible apply Only.drewN | with_reducible apply only_cellX)))
         (first
           | (go_at_call 82;refine (HLK.out _).mono ?_;rintro e wq ⟨rfl,hcall⟩;have hsC:Still wr wq:=Still.trans (by (repeat first | with_reducible exact hsC | with_reducible exact Only.refl _ _ _ | with_reducible apply Only.drew | with_reducible apply Only.drewN | with_reducible apply Only.alloc)) hcall;obtain ⟨x0,f0,l1,l3⟩:=HXF.out _ hsC;have k0:=HC0.out wq (hsC.any _ _))
           | (go_at_call 120;refine (HS0.out _).mono ?_;rintro e wp ⟨rfl,hcall⟩;have hsC:Still wr wp:=Still.trans (by (repeat first | with_reducible exact hsC | with_reducible exact Only.refl _ _ _ | with_reducible apply Only.drew | with_reducible apply Only.drewN | with_reducible apply Only.alloc)) hcall;obtain ⟨x0,f0,l1,l3⟩:=HXF.out _ hsC;have k0:=HC0.out wp (hsC.any _ _)))
        all_goals
         have HF:Hid (RefAt (wq.setCell ⟨R.wb,p,none⟩ (.int .i64 (lkD c a p))) R { s5 with W:=setW V p (lkD c a p) } ∧ Only R.lo R.hi w (wq.setCell ⟨R.wb,p,none⟩ (.int .i64 (lkD c a p)))):=Lib.hid ⟨(HRV.out.still hsC).setW HPS.out _,(HOV.out.andStill hsC).trans ((only_cell wq R.wb p _).mono wb1.1 wb1.2)⟩
         clear x0 f0 l1 l3 k0
         go_wp2_with fail
         refine ⟨⟨i + 1,by go_num,by omega,hlt,_,HF.out.1,HF.out.2,fun x hx => ?_⟩,by simp [intOf];omega⟩
         show setW V p (lkD c a p) x=setW (cutW (clrW s.W a 64) (lkD c a) a cw i) (a + i * cw) (lkD c a (a + i * cw)) x
         rw [HIW.out,HPP.out]
         unfold setW
         by_cases e:x=p
         ·rw [if_pos e,if_pos e]
         ·rw [if_neg e,if_neg e,HVV.out x hx]
      ·obtain rfl:b=i:=by omega
       go_wp2_with fail
       go_meet
       exact ⟨V,HRV.out,HOV.out,fun x hx => by
        have hxa:x ≠ a:=fun e => hx ⟨by omega,by rw [e];have:=Sp.wide_pos hz1 hz2;omega⟩
        rw [HVV.out x hxa,HOW.out x hxa]⟩
   case rest =>
    obtain ⟨V,hr,ho,hV⟩:=hcut
    obtain ⟨w6,hw6⟩:∃ x,x=wc:=⟨_,rfl⟩
    subst hw6
    have HR6:=Lib.hid hr
    have HO6:=Lib.hid ho
    have HVV:=Lib.hid hV
    have hwd1:=Sp.wide_pos hz1 hz2
    obtain ⟨wd,hwe⟩:=Int.eq_ofNat_of_zero_le (show 0 ≤ Sp.wide z by omega)
    have HWD:=Lib.hid hwe
    have HRM:=Lib.hid (fun W => rroom_any z hz1 hz2 W)
    have haw:a + wd ≤ 64 * ({ s5 with W:=V }:St).n:=by
     show a + wd ≤ 64 * s5.n
     rw [HS5.out.2.1]
     rw [hwe,Int.toNat_natCast] at hin
     exact hin
    have HWP:=Lib.hid (fun W (hW:RefAt W R { s5 with W:=V }) Q hQ => rwipe_any W R _ hW a wd haw Q hQ)
    obtain ⟨kn,hkn⟩:=Int.eq_ofNat_of_zero_le (show 0 ≤ k by omega)
    obtain ⟨zn,hzn⟩:=Int.eq_ofNat_of_zero_le (show 0 ≤ z by omega)
    have HMK:Hid (∀ W,Calls Tryz.prog 106 #[.int .i64 (a:Int),.int .i64 k,.int .i64 z] W fun e w' => e=.returned (.int .i64 (Sp.hdr a k z)) ∧ Still W w'):=Lib.hid fun W => by
     have:=rmake_any a kn zn (by omega) (by omega) (by omega) (by omega) (by omega) W
     rw [← hkn,← hzn] at this
     exact this.mono fun e w' ⟨e1,e2⟩ => ⟨e1,by rw [← e2];exact Only.refl _ _ _⟩
    rw [hwe] at HRM
    clear hr ho hV hwe hkn hzn haw hwd hwd1 HO HPG HPO HFF HSK
    go_wp2_with fail
    refine (HRM.out _).mono ?_
    rintro e w7 ⟨rfl,rfl⟩
    go_wp2_with fail
    refine HWP.out _ HR6.out _ (fun w7 hr7 ho7 => ?_)
    have wb1:=HR6.out.ok.wb1
    have HO7:Hid (Only R.lo R.hi w w7):=Lib.hid (HO6.out.trans (ho7.mono wb1.1 wb1.2))
    have HR7:=Lib.hid hr7
    have HC0:Hid (∀ w',Only R.wb (R.wb + 1) w7 w' → w'.cell? ⟨R.rb,0,none⟩=some (.slice (some ⟨R.wb,0,none⟩) N R.cw)):=Lib.hid fun w' ho => by
     have o:=HR7.out.ok
     have hc2:=(ho.cell (p:=⟨R.rb,0,none⟩) HR7.out.lts.1 (by show R.rb < R.wb ∨ R.wb + 1 ≤ R.rb;have:=o.rw';omega)).trans HR7.out.c0
     rw [show 64 * ({ s5 with W:=clrW V a wd }:St).n=N by show 64 * s5.n=N;rw [HS5.out.2.1];exact HN.out] at hc2
     exact hc2
    have x0:w7.cell? ⟨R.wb,a,none⟩=some (.int .i64 (clrW V a wd a)):=hr7.word (i:=a) (by show a < 64 * s5.n;rw [HS5.out.2.1];exact ha64)
    have f0:=hr7.words.frozen a
    have l1:=hr7.lts.1
    have l3:=hr7.lts.2.2.1
    have hsC:Still w7 w7:=Only.refl _ _ _
    have k0:=HC0.out w7 (Only.refl _ _ _)
    generalize clrW V a wd a=y at *
    clear hr7 ho7
    go_upto_region 20 with fail
    go_region_held3 (fun w' => w'.cell? ⟨R.rb,0,none⟩=some (.slice (some ⟨R.wb,0,none⟩) N R.cw))
     ((refine HC0.out _ ?_;(repeat first | with_reducible exact Still.any hsC _ _ | with_reducible exact Only.refl _ _ _ | with_reducible apply Only.drew | with_reducible apply Only.drewN | with_reducible apply only_cellX)))
     (first
       | (go_at_call 106;refine (HMK.out _).mono ?_;rintro e wp ⟨rfl,hcall⟩;have hsC:Still w7 wp:=Still.trans (by (repeat first | with_reducible exact hsC | with_reducible exact Only.refl _ _ _ | with_reducible apply Only.drew | with_reducible apply Only.drewN | with_reducible apply Only.alloc)) hcall;have x0:=(hsC.cell (p:=⟨R.wb,a,none⟩) l3 (.inl l3)).trans x0;have f0:=(hsC.frozen (p:=⟨R.wb,a,none⟩) l3 (.inl l3)).trans f0;have l1:=Nat.lt_of_lt_of_le l1 hsC.size;have l3:=Nat.lt_of_lt_of_le l3 hsC.size;have k0:=HC0.out wp (hsC.any _ _)))
    all_goals
     have HF:Hid (RefAt (wp.setCell ⟨R.wb,a,none⟩ (.int .i64 (Sp.hdr (a:Int) k z))) R ((s.takeF z).put a k z t) ∧ Only R.lo R.hi w (wp.setCell ⟨R.wb,a,none⟩ (.int .i64 (Sp.hdr (a:Int) k z)))):=by
      refine Lib.hid ⟨?_,(HO7.out.andStill hsC).trans ((only_cell wp R.wb a _).mono wb1.1 wb1.2)⟩
      have ha5:a < 64 * ({ s5 with W:=clrW V a wd }:St).n:=by show a < 64 * s5.n;rw [HS5.out.2.1];exact ha64
      have h1:=(HR7.out.still hsC).setW (i:=a) ha5 (Sp.hdr (a:Int) k z)
      obtain ⟨e1,e2,e3,e4,e5,e6,e7,e8⟩:=takeF_same s z
      obtain ⟨g1,g2,g3⟩:=HS5.out
      have hwn:(Sp.wide z).toNat=wd:=by rw [HWD.out,Int.toNat_natCast]
      refine h1.congr ?_ (fun i hi => ?_) (fun i hi => ?_) ?_ (fun x hx => ?_) ?_
      ·show (s.takeF z).n=s5.n
       rw [e1,g2]
      ·show setW (clrW (s.takeF z).W a (Sp.wide z).toNat) a (Sp.hdr (a:Int) k z) i=setW (clrW V a wd) a (Sp.hdr (a:Int) k z) i
       rw [hwn]
       unfold setW
       by_cases ei:i=a
       ·rw [if_pos ei,if_pos ei]
       ·rw [if_neg ei,if_neg ei]
        unfold clrW
        by_cases ej:a ≤ i ∧ i < a + wd
        ·rw [if_pos ej,if_pos ej]
        ·rw [if_neg ej,if_neg ej,HVV.out i (by rw [hwn];exact ej)]
      ·show (s.takeF z).P i=s5.P i
       rw [e2,g1]
      ·show setS ((s.takeF z).B 0) a true=s5.B 0
       rw [e3,g1]
       rfl
      ·show (updM (s.takeF z).S (a:Int) (some ⟨k,z,if Sp.numbered k then (s.takeF z).ser + 1 else 0,t⟩) x).getD Sh.zero=(s5.S x).getD Sh.zero
       rw [e4,e6,HSE.out.2,g1]
      ·show (if Sp.numbered k then (s.takeF z).ser + 1 else (s.takeF z).ser)=s5.ser
       rw [e6,HSE.out.1,g1]
     clear x0 f0 l1 l3 k0
     go_wp2_with fail
     first | go_end0 | skip
     exact HQ.out _ HF.out.1 HF.out.2
end Go.Proofs.YtfbcdmhmpfijjaaGreatDoor
