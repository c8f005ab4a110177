/-
  The walk of space.Alloc where there is room.
-/
import Derived.Test.YtfbcdmhmpfijjaaGreatDoorQ10
set_option linter.unusedVariables false
set_option linter.unusedSimpArgs false
set_option linter.unusedSectionVars false
namespace Go.Proofs.YtfbcdmhmpfijjaaGreatDoor
open Go Go.RowKit
theorem SpaceAt.c0N {w:World} {L:Lay} {s:St} (h:SpaceAt w L s) {N:Nat} (hN:64 * s.n=N):w.cell? ⟨L.sb,0,none⟩=some (.slice (some ⟨L.wb,0,none⟩) N N):=by rw [← hN];exact h.c0
theorem SpaceAt.clr {w:World} {L:Lay} {s:St} (h:SpaceAt w L s) {N a b wd:Nat} (hN:64 * s.n=N) (hw:1 ≤ wd) (hba:b - a=wd) (hab:a ≤ b) (hb:b ≤ N) :
 ∃ w',(∀ cc,(Builtin.clear_ #[27] 0 #[.slice (some ⟨L.wb,a,none⟩) (b - a) cc]).run Tryz.prog w=.ok (.tuple #[]) w') ∧ SpaceAt w' L (s.setWs (clrW s.W a wd)) ∧ Only L.lo L.hi w w':=by
 refine ⟨w.setCells L.wb a (List.replicate wd z64),fun cc => ?_,h.clrWords a wd,h.only 1 (by omega) (only_setCells ⟨Nat.le_refl _,Nat.lt_succ_self _⟩ _ _ _ (Only.refl _ _ _))⟩
 rw [hba]
 exact h.words.run_clear a wd cc (by omega) (by omega)
set_option maxRecDepth 100000 in
set_option maxHeartbeats 6400000 in
theorem alloc_ok (w:World) (L:Lay) (s s1:St) (h:SpaceAt w L s) (k z t:Int) (a:Nat) (hf:Sp.fits k z=true) (hk:1 ≤ k ∧ k ≤ 31) (htk:s.take z=(s1,(a:Int),0,0)) (hn1:s1.n=s.n) (hin:a + (Sp.wide z).toNat ≤ 64 * s.n)
 (hser:-1000000000000000 ≤ s1.ser ∧ s1.ser ≤ 1000000000000000) (hrm:-1000000000000000 ≤ s1.room ∧ s1.room ≤ 1000000000000000) (hacts:s1.acts + 2 ≤ 1000000000000) (Q:Ending → World → Prop)
 (hQ:∀ w',SpaceAt w' L (s1.put a k z t) → Only L.lo L.hi w w' → Q (.returned (.tuple #[.int .i64 (a:Int),faultV 0 0])) w') :
 Calls Tryz.prog 19 #[.pointer (some ⟨L.sb,0,none⟩),.int .i64 k,.int .i64 z,.int .i64 t] w Q:=by
 obtain ⟨hz1,hz2⟩:=Sp.fits_size hf
 have hn2:=h.n2
 have HF:=Lib.hid (fun w => fits_any k z w (by omega) (by omega))
 rw [hf] at HF
 have HQ:=Lib.hid hQ
 have HS0:=Lib.hid (h.alloc (.cells #[.int .i64 0,.int .i64 0] 50))
 have hst:Still w (w.alloc (.cells #[.int .i64 0,.int .i64 0] 50)):=(Only.refl _ _ w).alloc _
 have HST:=Lib.hid (hst.any L.lo L.hi)
 have HNEW:Hid (∀ w1,Only L.lo L.hi (w.alloc (.cells #[.int .i64 0,.int .i64 0] 50)) w1 → w1.heap[w.heap.size]?=some (.cells #[.int .i64 0,.int .i64 0] 50 (0,0))):=Lib.hid fun w1 ho => only_new ho h.top
 have HTOP:=Lib.hid h.top
 have HTK:=Lib.hid (fun Q => take_any _ L s HS0.out z hz1 hz2 Q)
 rw [htk] at HTK
 dsimp only at HTK
 have HWD:=Lib.hid (fun w => wide_any z w)
 have hwle:=Sp.wide_le z
 obtain ⟨wd,hwd⟩:∃ wd:Nat,Sp.wide z=(wd:Int):=⟨(Sp.wide z).toNat,by omega⟩
 have hwp:=Sp.wide_pos hz1 hz2
 have hwd1:1 ≤ wd:=by omega
 have hwd2:wd ≤ 1024:=by omega
 rw [hwd] at HWD hin
 rw [Int.toNat_natCast] at hin
 obtain ⟨b,hb⟩:∃ b,a + wd=b:=⟨_,rfl⟩
 obtain ⟨N,hN⟩:∃ N,64 * s1.n=N:=⟨_,rfl⟩
 have HN:=Lib.hid hN
 have hbN:b ≤ N:=by omega
 have haN:a < N:=by omega
 have hNM:N ≤ 262144:=by omega
 have hsum:IntKind.i64.wrap ((a:Int) + (wd:Int))=(b:Int):=by rw [IntKind.wrap_i64];omega
 have hab:a ≤ b:=by omega
 have HBA:Hid (b - a=wd):=Lib.hid (by omega)
 have ha0:(0:Int) ≤ (a:Int):=by omega
 have hb0:(0:Int) ≤ (b:Int):=by omega
 have hab':(a:Int) ≤ (b:Int):=by omega
 have hbN':(b:Int) ≤ (N:Int):=by omega
 have haN':(a:Int) < (N:Int):=by omega
 have hzI:(z:Int) ≤ 1024:=hz2
 clear h hst hQ htk hf hb hwle hwp hn1 hn2 hin
 go_enter Tryz.func19,Tryz.ntmps19
 go_wp2_with fail
 generalize w.alloc (.cells #[.int .i64 0,.int .i64 0] 50)=w0 at *
 refine (HF.out _).mono ?_
 rintro e w1 ⟨rfl,rfl⟩
 go_wp2_with fail
 refine HTK.out _ fun w1 h1 ho1 => ?_
 have HFB:=Lib.hid (HNEW.out _ ho1)
 have H1:=Lib.hid h1;have HO1:=Lib.hid (HST.out.trans ho1);clear h1 ho1
 go_wp2_with fail
 have H2:=Lib.hid (H1.out.alloc (.cells #[.int .i64 0,.int .i64 0] 50))
 have HO2:=Lib.hid (HO1.out.alloc (.cells #[.int .i64 0,.int .i64 0] 50))
 have HFB2:Hid (∀ w',Only L.lo L.hi (w1.alloc (.cells #[.int .i64 0,.int .i64 0] 50)) w' → w'.heap[w.heap.size]?=some (.cells #[.int .i64 0,.int .i64 0] 50 (0,0))):=Lib.hid fun w' ho => by
  have hl:=(Array.getElem?_eq_some_iff.1 HFB.out).1
  rw [ho.block _ (by simp;omega) (.inr HTOP.out),Below.heap_alloc _ _ _ hl]
  exact HFB.out
 generalize w1.heap.size=fb2 at *
 generalize w1.alloc (.cells #[.int .i64 0,.int .i64 0] 50)=w2 at *
 clear H1 HO1 HFB HS0 HNEW HST
 have hc0:=H2.out.c0N HN.out
 go_region_held3 (fun w' => w'.cell? ⟨L.sb,0,none⟩=some (.slice (some ⟨L.wb,0,none⟩) N N)) (first | exact hc0 | exact hd0 | exact he0)
  (first
    | (go_at_call 49;refine (HWD.out _).mono ?_;rintro e w3 ⟨rfl,hs3⟩;have H3:=Lib.hid ((H2.out.drewN 1).still hs3);have HO3:=Lib.hid ((Only.refl L.lo L.hi w2).drew.andStill hs3);clear hs3;have hd0:=H3.out.c0N HN.out;obtain ⟨w4,hcl,h4,ho4⟩:=H3.out.clr HN.out hwd1 HBA.out hab hbN;have H4:=Lib.hid h4;have HO4:=Lib.hid (HO3.out.trans ho4);clear h4 ho4;have he0:=H4.out.c0N HN.out))
 have hc0:=H4.out.c0N HN.out
 have hcw:=H4.out.words.cell a (by show a < 64 * s1.n;have:=HN.out;omega)
 have hfw:=H4.out.words.frozen a
 obtain ⟨y,hy⟩:∃ y,(s1.setWs (clrW s1.W a wd)).W a=y:=⟨_,rfl⟩
 rw [hy] at hcw
 have hne:L.sb ≠ L.wb:=by have:=H4.out.ok.out 0 1 (by omega) (by omega) (by omega);simp only [Lay.a,Lay.b] at this;omega
 have HMK:=Lib.hid (fun w => make_any a k z w ha0 (by omega) hk.1 hk.2 hz1 hz2)
 obtain ⟨hd,hhd⟩:∃ hd,Sp.hdr a k z=hd:=⟨_,rfl⟩
 rw [hhd] at HMK
 clear hy
 go_wp2_with fail
 go_region_held3 (fun w' => w'.cell? ⟨L.sb,0,none⟩=some (.slice (some ⟨L.wb,0,none⟩) N N) ∧ (∃ y,w'.cell? ⟨L.wb,a,none⟩=some (.int .i64 y)) ∧ w'.frozen? ⟨L.wb,a,none⟩=false) (first | exact ⟨hc0,⟨_,hcw⟩,hfw⟩ | exact ⟨set_cell hc0 hne,⟨_,World.cell?_setCell_same _ _ _ hcw⟩,(World.frozen?_setCell _ _ _ _).trans hfw⟩)
  (first
    | (go_at_call 50;refine (HMK.out _).mono ?_;rintro e w5 ⟨rfl,rfl⟩))
 rename_i hHeld
 obtain ⟨s5,hs5⟩:∃ s5:St,s5={ s1 with W:=setW (clrW s1.W a wd) a hd }:=⟨_,rfl⟩
 have H5:Hid (SpaceAt (w4.setCell ⟨L.wb,a,none⟩ (.int .i64 hd)).drew L s5):=Lib.hid (by rw [hs5];exact (H4.out.setWord a hd).drew)
 have HO5:=Lib.hid ((HO4.out.trans (H4.out.only 1 (by omega) (only_cell w4 L.wb a (.int .i64 hd)))).drew)
 generalize (w4.setCell ⟨L.wb,a,none⟩ (.int .i64 hd)).drew=w5 at *
 clear H4 HO4 H3 HO3 hc0 hcw hfw he0 hcl hd0 H2 HTK HF HMK hHeld hsum hab hab' hbN hbN' hb0
 have HNB:=Lib.hid (fun w => numbered_any k w)
 obtain ⟨sr,hsr⟩:∃ sr,s5.ser=sr:=⟨_,rfl⟩
 obtain ⟨rm,hrm5⟩:∃ rm,s5.room=rm:=⟨_,rfl⟩
 have e1:s5.ser=s1.ser:=by rw [hs5]
 have e2:s5.room=s1.room:=by rw [hs5]
 have e3:s5.acts=s1.acts:=by rw [hs5]
 have hsrb:-1000000000000000 ≤ sr ∧ sr ≤ 1000000000000000:=by omega
 have hrmb:-1000000000000000 ≤ rm ∧ rm ≤ 1000000000000000:=by omega
 have HN5:Hid (64 * s5.n=N):=Lib.hid (by rw [hs5];exact HN.out)
 have HACT:Hid (s5.acts + 2 ≤ 1000000000000):=Lib.hid (by omega)
 have hs1:IntKind.i64.wrap (sr + 1)=sr + 1:=by rw [IntKind.wrap_i64];omega
 have hs2:wrap64 (sr + 1)=sr + 1:=IntWalk.wrap64_in _ (by omega)
 have hs3:IntKind.i64.wrap (rm + (wd:Int))=rm + wd:=by rw [IntKind.wrap_i64];omega
 have HWX:=Lib.hid (wf_of (x:=sr + 1) (by omega))
 have HWA:=Lib.hid (wf_of (x:=(a:Int)) (by omega))
 have HPUT:Hid (s1.put a k z t={ s5 with ser:=if Sp.numbered k then sr + 1 else sr,Q:=if Sp.numbered k then updM s5.Q (sr + 1) (some (a:Int)) else s5.Q,S:=updM s5.S a (some ⟨k,z,if Sp.numbered k then sr + 1 else 0,t⟩),B:=fun j => if j=0 then setS (s5.B 0) a true else s5.B j,room:=rm + wd,acts:=s5.acts + 2 }):=Lib.hid (by
  subst hsr;subst hrm5;subst hs5
  unfold St.put
  rw [hwd,hhd,Int.toNat_natCast])
 have HSR:=Lib.hid hsr;have HRM:=Lib.hid hrm5
 clear hhd hwd hs5 e1 e2 e3 hser hrm hacts hsr hrm5
 cases hnb:Sp.numbered k with
 | true =>
  rw [hnb] at HNB HPUT
  clear hnb
  go_wp2_with fail
  refine (HNB.out _).mono ?_
  rintro e w6 ⟨rfl,rfl⟩
  have hc13:=H5.out.c13
  rw [HSR.out] at hc13
  have hf13:=H5.out.f 13
  have hlt5:=H5.out.sblt
  go_wp2_with fail
  have H6:=Lib.hid ((H5.out.setSer (sr + 1)).alloc (.cells #[.int .i64 k,.int .i64 z,.int .i64 (sr + 1),.int .i64 t] 92))
  have HO6:=Lib.hid ((HO5.out.trans (H5.out.only 0 (by omega) (only_cell w5 L.sb 13 (.int .i64 (sr + 1))))).alloc (.cells #[.int .i64 k,.int .i64 z,.int .i64 (sr + 1),.int .i64 t] 92))
  have hxb:((w5.setCell ⟨L.sb,13,none⟩ (.int .i64 (sr + 1))).alloc (.cells #[.int .i64 k,.int .i64 z,.int .i64 (sr + 1),.int .i64 t] 92)).heap[w5.heap.size]?=some (.cells #[.int .i64 k,.int .i64 z,.int .i64 (sr + 1),.int .i64 t] 92):=by
   have:=heap_alloc_new (w5.setCell ⟨L.sb,13,none⟩ (.int .i64 (sr + 1))) (.cells #[.int .i64 k,.int .i64 z,.int .i64 (sr + 1),.int .i64 t] 92)
   rwa [show (w5.setCell ⟨L.sb,13,none⟩ (.int .i64 (sr + 1))).heap.size=w5.heap.size by simp [World.setCell]] at this
  have HXH:Hid (L.hi ≤ w5.heap.size):=Lib.hid H5.out.top
  generalize w5.heap.size=xb at *
  generalize (w5.setCell ⟨L.sb,13,none⟩ (.int .i64 (sr + 1))).alloc (.cells #[.int .i64 k,.int .i64 z,.int .i64 (sr + 1),.int .i64 t] 92)=w6 at *
  clear H5 HO5 hc13 hf13 hlt5
  have HX6:Hid (∀ w',Only L.lo L.hi w6 w' → w'.heap[xb]?=some (.cells #[.int .i64 k,.int .i64 z,.int .i64 (sr + 1),.int .i64 t] 92)):=Lib.hid fun w' ho => by
   rw [ho.block xb (Array.getElem?_eq_some_iff.1 hxb).1 (.inr HXH.out)];exact hxb
  have hc12:=H6.out.c12
  have hx2:=cell_of (v:=.int .i64 (sr + 1)) hxb 2 rfl
  obtain ⟨w7,hput,h7,ho7⟩:=H6.out.drew.putQ (x:=sr + 1) (v:=(a:Int)) (by have:=HACT.out;show s5.acts < _;omega) HWX.out
  have ho67:Only L.lo L.hi w6 w7:=(Only.refl L.lo L.hi w6).drew.trans ho7
  have hd12:=h7.c12
  have hxb7:=HX6.out _ ho67
  have hd2:=cell_of (v:=.int .i64 (sr + 1)) hxb7 2 rfl
  have H7:=Lib.hid h7
  have HO7:=Lib.hid ho67
  clear h7 ho7 ho67
  go_region_held3 (fun w' => w'.cell? ⟨L.sb,12,none⟩=some (.map (some L.qm)) ∧ w'.cell? ⟨xb,2,none⟩=some (.int .i64 (sr + 1))) (first | exact ⟨hc12,hx2⟩ | exact ⟨hd12,hd2⟩) (fail)
  have HOT:=Lib.hid (HO2.out.trans (HO6.out.trans HO7.out))
  have HFB7:Hid (∀ w',Only L.lo L.hi w7 w' → w'.heap[w.heap.size]?=some (.cells #[.int .i64 0,.int .i64 0] 50 (0,0))):=Lib.hid fun w' ho => HFB2.out _ ((HO6.out.trans HO7.out).trans ho)
  obtain ⟨sA,hsA⟩:∃ sA:St,sA={ s5 with ser:=sr + 1,Q:=updM s5.Q (sr + 1) (some (a:Int)),acts:=s5.acts + 1 }:=⟨_,rfl⟩
  have HEA:Hid (sA.acts=s5.acts + 1):=Lib.hid (by rw [hsA])
  have HNA:Hid (64 * sA.n=N):=Lib.hid (by rw [hsA];exact HN5.out)
  have HRMA:Hid (sA.room=rm):=Lib.hid (by rw [hsA];exact HRM.out)
  have HPA:Hid (s1.put a k z t={ sA with S:=updM sA.S a (some ⟨k,z,sr + 1,t⟩),B:=fun j => if j=0 then setS (sA.B 0) a true else sA.B j,room:=rm + wd,acts:=sA.acts + 1 }):=Lib.hid (by rw [HPUT.out,hsA];rfl)
  have H7:Hid (SpaceAt w7 L sA):=Lib.hid (by rw [hsA];exact H7.out)
  clear hsA HPUT H6 HO6 HO7 HX6 HFB2 HO2 hc12 hx2 hd12 hd2 hput hxb
  have HX7:Hid (∀ w',Only L.lo L.hi w7 w' → w'.heap[xb]?=some (.cells #[.int .i64 k,.int .i64 z,.int .i64 (sr + 1),.int .i64 t] 92)):=Lib.hid fun w' ho => by
   rw [ho.block xb (Array.getElem?_eq_some_iff.1 hxb7).1 (.inr HXH.out)];exact hxb7
  have hc11:=H7.out.c11
  have hy0:=cell_of (v:=.int .i64 k) hxb7 0 rfl
  have hy1:=cell_of (v:=.int .i64 z) hxb7 1 rfl
  have hy2:=cell_of (v:=.int .i64 (sr + 1)) hxb7 2 rfl
  have hy3:=cell_of (v:=.int .i64 t) hxb7 3 rfl
  obtain ⟨w8,hput8,h8,ho8⟩:=H7.out.drew.putS (x:=(a:Int)) (v:=⟨k,z,(sr + 1),t⟩) (by rw [HEA.out];have:=HACT.out;omega) HWA.out
  have ho78:Only L.lo L.hi w7 w8:=(Only.refl L.lo L.hi w7).drew.trans ho8
  have hd11:=h8.c11
  have hxb8:=HX7.out _ ho78
  have hw0:=cell_of (v:=.int .i64 k) hxb8 0 rfl
  have hw1:=cell_of (v:=.int .i64 z) hxb8 1 rfl
  have hw2:=cell_of (v:=.int .i64 (sr + 1)) hxb8 2 rfl
  have hw3:=cell_of (v:=.int .i64 t) hxb8 3 rfl
  have H8:=Lib.hid h8
  have HO8:=Lib.hid (HOT.out.trans ho78)
  have HO78:=Lib.hid ho78
  clear h8 ho8 ho78
  unfold Sh.v at hput8
  dsimp only at hput8
  go_wp2_with fail
  go_region_held3 (fun w' => w'.cell? ⟨L.sb,11,none⟩=some (.map (some L.sm)) ∧ w'.cell? ⟨xb,0,none⟩=some (.int .i64 k) ∧ w'.cell? ⟨xb,1,none⟩=some (.int .i64 z) ∧ w'.cell? ⟨xb,2,none⟩=some (.int .i64 (sr + 1)) ∧ w'.cell? ⟨xb,3,none⟩=some (.int .i64 t)) (first | exact ⟨hc11,hy0,hy1,hy2,hy3⟩ | exact ⟨hd11,hw0,hw1,hw2,hw3⟩) (fail)
  clear hc11 hy0 hy1 hy2 hy3 hd11 hw0 hw1 hw2 hw3 hput8 hxb7 hxb8
  have hc2:=H8.out.c2
  go_wp2_with fail
  refine (H8.out.set 0 (by omega) a (by show a < 64 * sA.n;rw [HNA.out];exact haN)).mono ?_
  rintro e w9 ⟨rfl,h9,ho9⟩
  have H9:=Lib.hid h9
  have HO9:=Lib.hid (HO8.out.trans ho9)
  have HO79:=Lib.hid (HO78.out.trans ho9)
  have HRA:Hid (((({ sA with S:=updM sA.S (a:Int) (some ⟨k,z,(sr + 1),t⟩),acts:=sA.acts + 1 }:St).setB 0 (setS (({ sA with S:=updM sA.S (a:Int) (some ⟨k,z,(sr + 1),t⟩),acts:=sA.acts + 1 }:St).B 0) a true)).room)=rm):=Lib.hid HRMA.out
  have HEND:Hid (s1.put a k z t={ (({ sA with S:=updM sA.S (a:Int) (some ⟨k,z,(sr + 1),t⟩),acts:=sA.acts + 1 }:St).setB 0 (setS (({ sA with S:=updM sA.S (a:Int) (some ⟨k,z,(sr + 1),t⟩),acts:=sA.acts + 1 }:St).B 0) a true)) with room:=rm + wd }):=Lib.hid HPA.out
  clear h9 ho9 hc2
  obtain ⟨s9,hs9⟩:∃ s9,(({ sA with S:=updM sA.S (a:Int) (some ⟨k,z,(sr + 1),t⟩),acts:=sA.acts + 1 }:St).setB 0 (setS (({ sA with S:=updM sA.S (a:Int) (some ⟨k,z,(sr + 1),t⟩),acts:=sA.acts + 1 }:St).B 0) a true))=s9:=⟨_,rfl⟩
  rw [hs9] at H9 HRA HEND
  clear hs9
  have hc14:=H9.out.c14
  rw [HRA.out] at hc14
  have hf14:=H9.out.f 14
  have hlt9:=H9.out.sblt
  go_wp2_with fail
  go_region_law (first | (go_simp;go_at_call 49;refine (HWD.out _).mono ?_;rintro e w10 ⟨rfl,hs10⟩;have H10:=Lib.hid (H9.out.drew.still hs10);have HOA:=Lib.hid (HO9.out.drew.andStill hs10);have HOB:=Lib.hid (HO79.out.drew.andStill hs10);have hd14:=H10.out.c14;rw [HRA.out] at hd14;have hf14b:=H10.out.f 14;clear hs10))
  all_goals
   have h11:=H10.out.setRoom (rm + wd)
   rw [← HEND.out] at h11
   have hoC:=H10.out.only 0 (by omega) (only_cell w10 L.sb 14 (.int .i64 (rm + wd)))
   have hb:=HFB7.out _ (HOB.out.trans hoC)
   have H11:=Lib.hid h11
   have HOC:=Lib.hid (HOA.out.trans hoC)
   clear h11 hoC
   have hlt1:=(Array.getElem?_eq_some_iff.1 hb).1
   have hz0:=cell_of (v:=.int .i64 0) hb 0 rfl
   have hz1:=cell_of (v:=.int .i64 0) hb 1 rfl
   have hf0:=frozen_of hb 0
   have hf1:=frozen_of hb 1
   generalize w10.setCell ⟨L.sb,14,none⟩ (.int .i64 (rm + wd))=w11 at *
   clear hb
   go_wp2
   refine bodyPost_ret (v:=.tuple #[.int .i64 (a:Int),faultV 0 0]) (by simp [results,Tryz.results19,go_sem, *]) rfl (HQ.out _ ((H11.out.setNew HTOP.out 0 _).setNew HTOP.out 1 _) ?_)
   exact (HOC.out.setCell (p:=⟨w.heap.size,0,none⟩) (.inr (Nat.le_refl _)) _).setCell (p:=⟨w.heap.size,1,none⟩) (.inr (Nat.le_refl _)) _
 | false =>
  rw [hnb] at HNB HPUT
  clear hnb
  go_wp2_with fail
  refine (HNB.out _).mono ?_
  rintro e w6 ⟨rfl,rfl⟩
  go_wp2_with fail
  have H7:=Lib.hid ((H5.out.mono (m:=s5.acts + 1) (by omega) (by have:=HACT.out;omega)).alloc (.cells #[.int .i64 k,.int .i64 z,.int .i64 0,.int .i64 t] 92))
  have HO7:=Lib.hid (HO5.out.alloc (.cells #[.int .i64 k,.int .i64 z,.int .i64 0,.int .i64 t] 92))
  have hxb7:(w5.alloc (.cells #[.int .i64 k,.int .i64 z,.int .i64 0,.int .i64 t] 92)).heap[w5.heap.size]?=some (.cells #[.int .i64 k,.int .i64 z,.int .i64 0,.int .i64 t] 92):=heap_alloc_new w5 _
  have HXH:Hid (L.hi ≤ w5.heap.size):=Lib.hid H5.out.top
  generalize w5.heap.size=xb at *
  generalize w5.alloc (.cells #[.int .i64 k,.int .i64 z,.int .i64 0,.int .i64 t] 92)=w7 at *
  clear H5 HO5
  have HOT:=Lib.hid (HO2.out.trans HO7.out)
  have HFB7:Hid (∀ w',Only L.lo L.hi w7 w' → w'.heap[w.heap.size]?=some (.cells #[.int .i64 0,.int .i64 0] 50 (0,0))):=Lib.hid fun w' ho => HFB2.out _ (HO7.out.trans ho)
  obtain ⟨sA,hsA⟩:∃ sA:St,sA={ s5 with acts:=s5.acts + 1 }:=⟨_,rfl⟩
  have HEA:Hid (sA.acts=s5.acts + 1):=Lib.hid (by rw [hsA])
  have HNA:Hid (64 * sA.n=N):=Lib.hid (by rw [hsA];exact HN5.out)
  have HRMA:Hid (sA.room=rm):=Lib.hid (by rw [hsA];exact HRM.out)
  have HPA:Hid (s1.put a k z t={ sA with S:=updM sA.S a (some ⟨k,z,0,t⟩),B:=fun j => if j=0 then setS (sA.B 0) a true else sA.B j,room:=rm + wd,acts:=sA.acts + 1 }):=Lib.hid (by rw [HPUT.out,hsA,← HSR.out];rfl)
  have H7:Hid (SpaceAt w7 L sA):=Lib.hid (by rw [hsA];exact H7.out)
  clear hsA HPUT HO7 HFB2 HO2
  have HX7:Hid (∀ w',Only L.lo L.hi w7 w' → w'.heap[xb]?=some (.cells #[.int .i64 k,.int .i64 z,.int .i64 0,.int .i64 t] 92)):=Lib.hid fun w' ho => by
   rw [ho.block xb (Array.getElem?_eq_some_iff.1 hxb7).1 (.inr HXH.out)];exact hxb7
  have hc11:=H7.out.c11
  have hy0:=cell_of (v:=.int .i64 k) hxb7 0 rfl
  have hy1:=cell_of (v:=.int .i64 z) hxb7 1 rfl
  have hy2:=cell_of (v:=.int .i64 0) hxb7 2 rfl
  have hy3:=cell_of (v:=.int .i64 t) hxb7 3 rfl
  obtain ⟨w8,hput8,h8,ho8⟩:=H7.out.drew.putS (x:=(a:Int)) (v:=⟨k,z,0,t⟩) (by rw [HEA.out];have:=HACT.out;omega) HWA.out
  have ho78:Only L.lo L.hi w7 w8:=(Only.refl L.lo L.hi w7).drew.trans ho8
  have hd11:=h8.c11
  have hxb8:=HX7.out _ ho78
  have hw0:=cell_of (v:=.int .i64 k) hxb8 0 rfl
  have hw1:=cell_of (v:=.int .i64 z) hxb8 1 rfl
  have hw2:=cell_of (v:=.int .i64 0) hxb8 2 rfl
  have hw3:=cell_of (v:=.int .i64 t) hxb8 3 rfl
  have H8:=Lib.hid h8
  have HO8:=Lib.hid (HOT.out.trans ho78)
  have HO78:=Lib.hid ho78
  clear h8 ho8 ho78
  unfold Sh.v at hput8
  dsimp only at hput8
  go_wp2_with fail
  go_region_held3 (fun w' => w'.cell? ⟨L.sb,11,none⟩=some (.map (some L.sm)) ∧ w'.cell? ⟨xb,0,none⟩=some (.int .i64 k) ∧ w'.cell? ⟨xb,1,none⟩=some (.int .i64 z) ∧ w'.cell? ⟨xb,2,none⟩=some (.int .i64 0) ∧ w'.cell? ⟨xb,3,none⟩=some (.int .i64 t)) (first | exact ⟨hc11,hy0,hy1,hy2,hy3⟩ | exact ⟨hd11,hw0,hw1,hw2,hw3⟩) (fail)
  clear hc11 hy0 hy1 hy2 hy3 hd11 hw0 hw1 hw2 hw3 hput8 hxb7 hxb8
  have hc2:=H8.out.c2
  go_wp2_with fail
  refine (H8.out.set 0 (by omega) a (by show a < 64 * sA.n;rw [HNA.out];exact haN)).mono ?_
  rintro e w9 ⟨rfl,h9,ho9⟩
  have H9:=Lib.hid h9
  have HO9:=Lib.hid (HO8.out.trans ho9)
  have HO79:=Lib.hid (HO78.out.trans ho9)
  have HRA:Hid (((({ sA with S:=updM sA.S (a:Int) (some ⟨k,z,0,t⟩),acts:=sA.acts + 1 }:St).setB 0 (setS (({ sA with S:=updM sA.S (a:Int) (some ⟨k,z,0,t⟩),acts:=sA.acts + 1 }:St).B 0) a true)).room)=rm):=Lib.hid HRMA.out
  have HEND:Hid (s1.put a k z t={ (({ sA with S:=updM sA.S (a:Int) (some ⟨k,z,0,t⟩),acts:=sA.acts + 1 }:St).setB 0 (setS (({ sA with S:=updM sA.S (a:Int) (some ⟨k,z,0,t⟩),acts:=sA.acts + 1 }:St).B 0) a true)) with room:=rm + wd }):=Lib.hid HPA.out
  clear h9 ho9 hc2
  obtain ⟨s9,hs9⟩:∃ s9,(({ sA with S:=updM sA.S (a:Int) (some ⟨k,z,0,t⟩),acts:=sA.acts + 1 }:St).setB 0 (setS (({ sA with S:=updM sA.S (a:Int) (some ⟨k,z,0,t⟩),acts:=sA.acts + 1 }:St).B 0) a true))=s9:=⟨_,rfl⟩
  rw [hs9] at H9 HRA HEND
  clear hs9
  have hc14:=H9.out.c14
  rw [HRA.out] at hc14
  have hf14:=H9.out.f 14
  have hlt9:=H9.out.sblt
  go_wp2_with fail
  go_region_law (first | (go_simp;go_at_call 49;refine (HWD.out _).mono ?_;rintro e w10 ⟨rfl,hs10⟩;have H10:=Lib.hid (H9.out.drew.still hs10);have HOA:=Lib.hid (HO9.out.drew.andStill hs10);have HOB:=Lib.hid (HO79.out.drew.andStill hs10);have hd14:=H10.out.c14;rw [HRA.out] at hd14;have hf14b:=H10.out.f 14;clear hs10))
  all_goals
   have h11:=H10.out.setRoom (rm + wd)
   rw [← HEND.out] at h11
   have hoC:=H10.out.only 0 (by omega) (only_cell w10 L.sb 14 (.int .i64 (rm + wd)))
   have hb:=HFB7.out _ (HOB.out.trans hoC)
   have H11:=Lib.hid h11
   have HOC:=Lib.hid (HOA.out.trans hoC)
   clear h11 hoC
   have hlt1:=(Array.getElem?_eq_some_iff.1 hb).1
   have hz0:=cell_of (v:=.int .i64 0) hb 0 rfl
   have hz1:=cell_of (v:=.int .i64 0) hb 1 rfl
   have hf0:=frozen_of hb 0
   have hf1:=frozen_of hb 1
   generalize w10.setCell ⟨L.sb,14,none⟩ (.int .i64 (rm + wd))=w11 at *
   clear hb
   go_wp2
   refine bodyPost_ret (v:=.tuple #[.int .i64 (a:Int),faultV 0 0]) (by simp [results,Tryz.results19,go_sem, *]) rfl (HQ.out _ ((H11.out.setNew HTOP.out 0 _).setNew HTOP.out 1 _) ?_)
   exact (HOC.out.setCell (p:=⟨w.heap.size,0,none⟩) (.inr (Nat.le_refl _)) _).setCell (p:=⟨w.heap.size,1,none⟩) (.inr (Nat.le_refl _)) _
end Go.Proofs.YtfbcdmhmpfijjaaGreatDoor
