/-
  The walks of turned: Write, Poke.
-/
import Derived.Laws.Rows
import Derived.Test.YtfbcdmhmpfijjaaGreatDoorQ42
set_option linter.unusedVariables false
set_option linter.unusedSimpArgs false
set_option linter.unusedSectionVars false
namespace Go.Proofs.YtfbcdmhmpfijjaaGreatDoor
open Go Go.RowKit
inductive St.Wr (s:St) (a i x:Int):Int → Int → St → Prop where
 | bad:(s.wrd a i).1 ≠ 0 → St.Wr s a i x (s.wrd a i).1 (s.wrd a i).2 s
 | ok (n j:Nat):a=(n:Int) → i=(j:Int) → s.wrd (n:Int) (j:Int)=(0,0) → n + j < 64 * s.n → St.Wr s a i x 0 0 { s with W:=setW s.W (n + j) x }
theorem wr_ex {s:St} (hs:s.RefOk) (a i x:Int):∃ e f s',s.Wr a i x e f s':=by
 by_cases h:(s.wrd a i).1=0
 ·obtain ⟨n,j,e1,e2,e3,e4,_⟩:=wrd_zero hs h
  exact ⟨_,_,_,.ok n j e1 e2 e3 e4⟩
 ·exact ⟨_,_,_,.bad h⟩
theorem St.Wr.inv {s s':St} {a i x e f:Int} (h:s.Wr a i x e f s') (hi:s.InvU):s'.InvU ∧ s'.n=s.n ∧ s'.acts ≤ s.acts + 2:=by
 cases h with
 | bad _ => exact ⟨hi,rfl,by omega⟩
 | ok n j _ _ _ _ => exact ⟨hi.words _,rfl,Nat.le_add_right _ _⟩
theorem swrite_al (w:World) (L:Lay) (s s':St) (h:SpaceAt w L s) (hi:s.InvU) (a i x e f:Int) (ha:(Lit.int .i64 a).wf=true) (hal:s.Wr a i x e f s') (Q:Ending → World → Prop)
 (hQ:∀ w',SpaceAt w' L s' → Only L.lo L.hi w w' → Q (.returned (faultV e f)) w') :
 Calls Tryz.prog 92 #[.pointer (some ⟨L.sb,0,none⟩),.int .i64 a,.int .i64 i,.int .i64 x] w Q:=by
 cases hal with
 | bad hb =>
  refine (write_bad w L s h a i x ha hi.fine hb).mono ?_
  rintro e w' ⟨rfl,hs⟩
  exact hQ w' (h.still hs) (hs.any _ _)
 | ok n j e1 e2 e3 e4 =>
  subst e1 e2
  exact write_ok w L s h n j x hi.fine e3 e4 Q hQ
theorem rwrite_al (w:World) (R:RLay) (s s':St) (h:RefAt w R s) (hi:s.InvU) (a i x e f:Int) (hal:s.Wr a i x e f s') (Q:Ending → World → Prop)
 (hQ:∀ w',RefAt w' R s' → Only R.lo R.hi w w' → Q (.returned (faultV e f)) w') :
 Calls Tryz.prog 93 #[.pointer (some ⟨R.rb,0,none⟩),.int .i64 a,.int .i64 i,.int .i64 x] w Q:=by
 cases hal with
 | bad hb =>
  refine (rwrite_bad w R s h a i x hi.refOk hb).mono ?_
  rintro e w' ⟨rfl,hs⟩
  exact hQ w' (h.still hs) (hs.any _ _)
 | ok n j e1 e2 e3 e4 =>
  subst e1 e2
  exact rwrite_ok w R s h n j x hi.refOk e3 e4 Q hQ
inductive St.Pk (s:St) (a x:Int):Bool → St → Prop where
 | out:(a < 0 ∨ ((64 * s.n:Nat):Int) ≤ a) → St.Pk s a x false s
 | ok (n:Nat):a=(n:Int) → n < 64 * s.n → St.Pk s a x true { s with W:=setW s.W n x }
theorem pk_ex (s:St) (a x:Int):∃ b s',s.Pk a x b s':=by
 by_cases h:a < 0 ∨ ((64 * s.n:Nat):Int) ≤ a
 ·exact ⟨_,_,.out h⟩
 ·obtain ⟨n,rfl⟩:=Int.eq_ofNat_of_zero_le (show 0 ≤ a by omega)
  exact ⟨_,_,.ok n rfl (by omega)⟩
theorem St.Pk.inv {s s':St} {a x:Int} {b:Bool} (h:s.Pk a x b s') (hi:s.InvU):s'.InvU ∧ s'.n=s.n ∧ s'.acts ≤ s.acts + 2:=by
 cases h with
 | out _ => exact ⟨hi,rfl,by omega⟩
 | ok n _ _ => exact ⟨hi.words _,rfl,Nat.le_add_right _ _⟩
theorem spoke_al (w:World) (L:Lay) (s s':St) (h:SpaceAt w L s) (a x:Int) (b:Bool) (hal:s.Pk a x b s') (Q:Ending → World → Prop)
 (hQ:∀ w',SpaceAt w' L s' → Only L.lo L.hi w w' → Q (.returned (.bool b)) w') :
 Calls Tryz.prog 94 #[.pointer (some ⟨L.sb,0,none⟩),.int .i64 a,.int .i64 x] w Q:=by
 cases hal with
 | out hb =>
  refine (poke_out w L s h a x hb).mono ?_
  rintro e w' ⟨rfl,rfl⟩
  exact hQ w h (Only.refl _ _ _)
 | ok n e1 e2 =>
  subst e1
  exact poke_in w L s h n e2 x Q hQ
theorem rpoke_al (w:World) (R:RLay) (s s':St) (h:RefAt w R s) (a x:Int) (b:Bool) (hal:s.Pk a x b s') (Q:Ending → World → Prop)
 (hQ:∀ w',RefAt w' R s' → Only R.lo R.hi w w' → Q (.returned (.bool b)) w') :
 Calls Tryz.prog 95 #[.pointer (some ⟨R.rb,0,none⟩),.int .i64 a,.int .i64 x] w Q:=by
 cases hal with
 | out hb =>
  refine (rpoke_out w R s h a x hb).mono ?_
  rintro e w' ⟨rfl,hs⟩
  exact hQ w' (h.still hs) (hs.any _ _)
 | ok n e1 e2 =>
  subst e1
  exact rpoke_in w R s h n e2 x Q hQ
theorem nth_range (s:St) (x:Int):-1 ≤ s.nth x ∧ (s.n ≤ 24 → s.InvU → s.nth x ≤ 1536):=by
 unfold St.nth
 by_cases h:s.blks.length=0
 ·rw [if_pos h];omega
 ·rw [if_neg h]
  refine ⟨by omega,fun hn hi => ?_⟩
  have hr:=wi_range x (s.blks.length:Int) (by omega)
  have hm:s.blks.getD (wi x (s.blks.length:Int)).toNat ob0 ∈ s.blks:=by
   rw [List.getD_eq_getElem?_getD,List.getElem?_eq_getElem (by omega)]
   exact List.getElem_mem _
  have:=((s.mem_blk _ (64 * s.n)).1 hm).1
  omega
set_option maxRecDepth 100000 in
set_option maxHeartbeats 6400000 in
theorem turned2 (w:World) (pb:Nat) (L:Lay) (R:RLay) (s:St) (own:Nat → Lb) (qf:Nat → Nat) (C:Nat) (h:PairAt w pb L R s own qf C) (wh a b c:Int) (la:Option Addr) (ll lc:Nat) (ha:(Lit.int .i64 a).wf=true) (_hb:(Lit.int .i64 b).wf=true) (Q:Ending → World → Prop)
 (hQ:∀ w' s',PairAt w' pb L R s' own qf C → s'.n=s.n → s'.acts ≤ s.acts + 2 → PFr L R w own w' own → Q (.returned (.bool true)) w') :
 Calls Tryz.prog 43 #[.pointer (some ⟨pb,0,none⟩),opVal wh 2 a b c la ll lc] w Q:=by
 have HQ:=Lib.hid hQ
 obtain ⟨e,f,s',hal⟩:=wr_ex h.iv.refOk a b c
 have HIN:=Lib.hid (hal.inv h.iv)
 have HIV:=Lib.hid h.iv
 have HN24:=Lib.hid h.n24
 have HA1:Hid (∀ W,SpaceAt W L s → ∀ Q:Ending → World → Prop,(∀ w',SpaceAt w' L s' → Only L.lo L.hi W w' → Q (.returned (faultV e f)) w') → Calls Tryz.prog 92 #[.pointer (some ⟨L.sb,0,none⟩),.int .i64 a,.int .i64 b,.int .i64 c] W Q):=Lib.hid fun W hW Q hQ => swrite_al W L s s' hW HIV.out a b c e f ha hal Q hQ
 have HA2:Hid (∀ W,RefAt W R s → ∀ Q:Ending → World → Prop,(∀ w',RefAt w' R s' → Only R.lo R.hi W w' → Q (.returned (faultV e f)) w') → Calls Tryz.prog 93 #[.pointer (some ⟨R.rb,0,none⟩),.int .i64 a,.int .i64 b,.int .i64 c] W Q):=Lib.hid fun W hW Q hQ => rwrite_al W R s s' hW HIV.out a b c e f hal Q hQ
 have hp:=h.pr2
 obtain ⟨hl1,hl2,hl3⟩:=hp.lohi
 have hlr:=h.lr
 have hlr2:L.hi ≤ R.hi:=by omega
 have hlr3:L.lo ≤ R.lo:=by omega
 have HP:=Lib.hid hp
 clear h hal hQ hp ha _hb
 go_enter Tryz.func43,Tryz.ntmps43
 go_upto_region 7 with fail
 have hbo:=heap_alloc_new w (opObj wh 2 a b c la ll lc)
 have hsb:Still w (w.alloc (opObj wh 2 a b c la ll lc)):=(Only.refl _ _ w).alloc _
 generalize w.alloc (opObj wh 2 a b c la ll lc)=w0 at *
 generalize hob:w.heap.size=ob at *
 have hob1:=(Array.getElem?_eq_some_iff.1 hbo).1
 have hp1:=HP.out.still hsb
 have hf1:PFr L R w own w0 own:=PFr.of hsb
 clear hsb hob
 have HOP:Hid (∀ W,Only L.lo R.hi w0 W → W.cell? ⟨ob,2,none⟩=some (.int .i64 a) ∧ W.cell? ⟨ob,3,none⟩=some (.int .i64 b) ∧ W.cell? ⟨ob,4,none⟩=some (.int .i64 c)):=Lib.hid fun W ho => by
  have hb:=(ho.block _ hob1 (by omega)).trans hbo
  exact ⟨cell_of (v:=.int .i64 a) hb 2 rfl,cell_of (v:=.int .i64 b) hb 3 rfl,cell_of (v:=.int .i64 c) hb 4 rfl⟩
 have HP1:=Lib.hid hp1
 have HF1:=Lib.hid hf1
 have hopb:R.hi ≤ pb:=by
  obtain ⟨v,ls,hk⟩:=HP1.out.k
  exact HP1.out.ow pb (by rw [hk.hd.opb];intro e;cases e)
 have HK:Hid (∀ w',Only L.lo R.hi w0 w' → w'.cell? ⟨pb,0,none⟩=some (.pointer (some ⟨L.sb,0,none⟩)) ∧ w'.cell? ⟨pb,1,none⟩=some (.pointer (some ⟨R.rb,0,none⟩)) ∧ w'.cell? ⟨ob,2,none⟩=some (.int .i64 a) ∧ w'.cell? ⟨ob,3,none⟩=some (.int .i64 b) ∧ w'.cell? ⟨ob,4,none⟩=some (.int .i64 c)):=Lib.hid fun W hW => ⟨(hW.cell (p:=⟨pb,0,none⟩) HP1.out.lt (.inr hopb)).trans HP1.out.c0,(hW.cell (p:=⟨pb,1,none⟩) HP1.out.lt (.inr hopb)).trans HP1.out.c1,HOP.out W hW⟩
 clear hbo hp1 hf1
 have hpK:=HP1.out
 have hsC:Only L.lo R.hi w0 w0:=Only.refl _ _ _
 obtain ⟨k0,k1,k2,k3,k4⟩:=HK.out _ hsC
 have hpl:=HP1.out.lt
 have HAL:=Lib.hid (fun W => alike_same e f W)
 go_cut [4] from 55 to 77 (fun s4 wx => s4=.bool true ∧ Pr2 wx pb L R s' s' own qf C ∧ Only L.lo R.hi w0 wx)
 case first =>
  go_region_held3 (fun w' => w'.cell? ⟨pb,0,none⟩=some (.pointer (some ⟨L.sb,0,none⟩)) ∧ w'.cell? ⟨pb,1,none⟩=some (.pointer (some ⟨R.rb,0,none⟩)) ∧ w'.cell? ⟨ob,2,none⟩=some (.int .i64 a) ∧ w'.cell? ⟨ob,3,none⟩=some (.int .i64 b) ∧ w'.cell? ⟨ob,4,none⟩=some (.int .i64 c))
   ((refine HK.out _ ?_;(repeat first | with_reducible exact hsC | with_reducible exact Only.refl _ _ _ | with_reducible apply Only.drew | with_reducible apply Only.drewN | with_reducible apply Only.alloc)))
   (first
     | (go_at_call 92;refine HA1.out _ (hpK.sp.still (by (repeat first | with_reducible exact Only.refl _ _ _ | with_reducible apply Only.drew | with_reducible apply Only.drewN | with_reducible apply Only.alloc))) _ ?_;intro wp hsp hcall;have hpK:=(hpK.still (by (repeat first | with_reducible exact Only.refl _ _ _ | with_reducible apply Only.drew | with_reducible apply Only.drewN | with_reducible apply Only.alloc))).space hcall hsp;have hsC:Only L.lo R.hi w0 wp:=Only.trans (by (repeat first | with_reducible exact hsC | with_reducible exact Only.refl _ _ _ | with_reducible apply Only.drew | with_reducible apply Only.drewN | with_reducible apply Only.alloc)) (Only.mono hcall (Nat.le_refl _) hlr2);clear hcall hsp)
     | (go_at_call 57;refine (HAL.out _).mono ?_;rintro e' wr ⟨rfl,hcall⟩;have hpK:=(hpK.still (by (repeat first | with_reducible exact Only.refl _ _ _ | with_reducible apply Only.drew | with_reducible apply Only.drewN | with_reducible apply Only.alloc))).still hcall;have hsC:Only L.lo R.hi w0 wr:=Only.andStill (by (repeat first | with_reducible exact hsC | with_reducible exact Only.refl _ _ _ | with_reducible apply Only.drew | with_reducible apply Only.drewN | with_reducible apply Only.alloc)) hcall;clear hcall)
     | (go_at_call 93;refine HA2.out _ (hpK.rf.still (by (repeat first | with_reducible exact Only.refl _ _ _ | with_reducible apply Only.drew | with_reducible apply Only.drewN | with_reducible apply Only.alloc))) _ ?_;intro wq hsp hcall;have hpK:=(hpK.still (by (repeat first | with_reducible exact Only.refl _ _ _ | with_reducible apply Only.drew | with_reducible apply Only.drewN | with_reducible apply Only.alloc))).ref hcall hsp;have hsC:Only L.lo R.hi w0 wq:=Only.trans (by (repeat first | with_reducible exact hsC | with_reducible exact Only.refl _ _ _ | with_reducible apply Only.drew | with_reducible apply Only.drewN | with_reducible apply Only.alloc)) (Only.mono hcall hlr3 (Nat.le_refl _));clear hcall hsp))
  all_goals
   go_wp2_with fail
   go_meet
   exact ⟨by first | rfl | simp,hpK.still (by (repeat first | with_reducible exact Only.refl _ _ _ | with_reducible apply Only.drew | with_reducible apply Only.drewN | with_reducible apply Only.alloc)),by (repeat first | with_reducible exact hsC | with_reducible exact Only.refl _ _ _ | with_reducible apply Only.drew | with_reducible apply Only.drewN | with_reducible apply Only.alloc)⟩
 case rest =>
  obtain ⟨rfl,hp2,ho2⟩:=hcut
  have HE:Hid (Q (.returned (.bool true)) wc):=Lib.hid (HQ.out wc s' (hp2.pair HIN.out.1 (by rw [HIN.out.2.1];exact HN24.out)) HIN.out.2.1 HIN.out.2.2 (HF1.out.turn ho2))
  clear hp2 ho2 hpK hsC
  go_wp2_with fail
  exact HE.out
set_option maxRecDepth 100000 in
set_option maxHeartbeats 6400000 in
theorem turned3 (w:World) (pb:Nat) (L:Lay) (R:RLay) (s:St) (own:Nat → Lb) (qf:Nat → Nat) (C:Nat) (h:PairAt w pb L R s own qf C) (wh a b c:Int) (la:Option Addr) (ll lc:Nat) (ha:(Lit.int .i64 a).wf=true) (_hb:(Lit.int .i64 b).wf=true) (Q:Ending → World → Prop)
 (hQ:∀ w' s',PairAt w' pb L R s' own qf C → s'.n=s.n → s'.acts ≤ s.acts + 2 → PFr L R w own w' own → Q (.returned (.bool true)) w') :
 Calls Tryz.prog 43 #[.pointer (some ⟨pb,0,none⟩),opVal wh 3 a b c la ll lc] w Q:=by
 have HQ:=Lib.hid hQ
 have hnr1:=(nth_range s a).1
 have hnr2:=(nth_range s a).2 h.n24 h.iv
 have hwr:=wi_range b 40 (by omega)
 have HNTH:Hid (∀ W,Still w W → Calls Tryz.prog 23 #[.pointer (some ⟨pb,0,none⟩),.int .i64 a] W fun e w' => e=.returned (.int .i64 (s.nth a)) ∧ Still W w'):=Lib.hid fun W hW => nth_any W pb L R s own qf C (h.still hW) a ha
 obtain ⟨at',hat⟩:∃ x,(s.nth a)=x:=⟨_,rfl⟩
 have hatw:(Lit.int .i64 at').wf=true:=wf_of (by omega)
 rw [hat] at HNTH
 obtain ⟨e,f,s',hal⟩:=wr_ex h.iv.refOk at' b c
 have HIN:=Lib.hid (hal.inv h.iv)
 have HIV:=Lib.hid h.iv
 have HN24:=Lib.hid h.n24
 have HA1:Hid (∀ W,SpaceAt W L s → ∀ Q:Ending → World → Prop,(∀ w',SpaceAt w' L s' → Only L.lo L.hi W w' → Q (.returned (faultV e f)) w') → Calls Tryz.prog 92 #[.pointer (some ⟨L.sb,0,none⟩),.int .i64 at',.int .i64 b,.int .i64 c] W Q):=Lib.hid fun W hW Q hQ => swrite_al W L s s' hW HIV.out at' b c e f hatw hal Q hQ
 have HA2:Hid (∀ W,RefAt W R s → ∀ Q:Ending → World → Prop,(∀ w',RefAt w' R s' → Only R.lo R.hi W w' → Q (.returned (faultV e f)) w') → Calls Tryz.prog 93 #[.pointer (some ⟨R.rb,0,none⟩),.int .i64 at',.int .i64 b,.int .i64 c] W Q):=Lib.hid fun W hW Q hQ => rwrite_al W R s s' hW HIV.out at' b c e f hal Q hQ
 have hp:=h.pr2
 obtain ⟨hl1,hl2,hl3⟩:=hp.lohi
 have hlr:=h.lr
 have hlr2:L.hi ≤ R.hi:=by omega
 have hlr3:L.lo ≤ R.lo:=by omega
 have HP:=Lib.hid hp
 clear h hal hQ hp ha _hb hnr1 hnr2 hwr hatw hat
 go_enter Tryz.func43,Tryz.ntmps43
 go_upto_region 9 with fail
 have hbo:=heap_alloc_new w (opObj wh 3 a b c la ll lc)
 have hsb:Still w (w.alloc (opObj wh 3 a b c la ll lc)):=(Only.refl _ _ w).alloc _
 generalize w.alloc (opObj wh 3 a b c la ll lc)=w0 at *
 generalize hob:w.heap.size=ob at *
 have hob1:=(Array.getElem?_eq_some_iff.1 hbo).1
 have hp1:=HP.out.still hsb
 have hf1:PFr L R w own w0 own:=PFr.of hsb
 have hx2:=cell_of (v:=.int .i64 a) hbo 2 rfl
 have hx3:=cell_of (v:=.int .i64 b) hbo 3 rfl
 have HB0:=Lib.hid hbo
 have HN0:=Lib.hid (HNTH.out _ hsb)
 have HP0:=Lib.hid hp1
 have HF0:=Lib.hid hf1
 have HSB:=Lib.hid hsb
 clear hp1 hf1 hbo hob hsb
 go_wp2_with fail
 refine HN0.out.mono ?_
 rintro e' w1 ⟨rfl,hs1⟩
 have hp1:=HP0.out.still hs1
 have hf1:=HF0.out.still hs1
 have hbo:=(hs1.block _ hob1 (.inl hob1)).trans HB0.out
 have hob1:=(Array.getElem?_eq_some_iff.1 hbo).1
 clear hs1 hx2 hx3
 have HOP:Hid (∀ W,Only L.lo R.hi w1 W → W.cell? ⟨ob,3,none⟩=some (.int .i64 b) ∧ W.cell? ⟨ob,4,none⟩=some (.int .i64 c)):=Lib.hid fun W ho => by
  have hb:=(ho.block _ hob1 (by omega)).trans hbo
  exact ⟨cell_of (v:=.int .i64 b) hb 3 rfl,cell_of (v:=.int .i64 c) hb 4 rfl⟩
 have HP1:=Lib.hid hp1
 have HF1:=Lib.hid hf1
 have hopb:R.hi ≤ pb:=by
  obtain ⟨v,ls,hk⟩:=HP1.out.k
  exact HP1.out.ow pb (by rw [hk.hd.opb];intro e;cases e)
 have HK:Hid (∀ w',Only L.lo R.hi w1 w' → w'.cell? ⟨pb,0,none⟩=some (.pointer (some ⟨L.sb,0,none⟩)) ∧ w'.cell? ⟨pb,1,none⟩=some (.pointer (some ⟨R.rb,0,none⟩)) ∧ w'.cell? ⟨ob,3,none⟩=some (.int .i64 b) ∧ w'.cell? ⟨ob,4,none⟩=some (.int .i64 c)):=Lib.hid fun W hW => ⟨(hW.cell (p:=⟨pb,0,none⟩) HP1.out.lt (.inr hopb)).trans HP1.out.c0,(hW.cell (p:=⟨pb,1,none⟩) HP1.out.lt (.inr hopb)).trans HP1.out.c1,HOP.out W hW⟩
 clear hbo hp1 hf1
 have hpK:=HP1.out
 have hsC:Only L.lo R.hi w1 w1:=Only.refl _ _ _
 obtain ⟨k0,k1,k3,k4⟩:=HK.out _ hsC
 have hpl:=HP1.out.lt
 have HAL:=Lib.hid (fun W => alike_same e f W)
 go_wp2_with fail
 go_cut [4] from 84 to 104 (fun s4 wx => s4=.bool true ∧ Pr2 wx pb L R s' s' own qf C ∧ Only L.lo R.hi w1 wx)
 case first =>
  go_region_held3 (fun w' => w'.cell? ⟨pb,0,none⟩=some (.pointer (some ⟨L.sb,0,none⟩)) ∧ w'.cell? ⟨pb,1,none⟩=some (.pointer (some ⟨R.rb,0,none⟩)) ∧ w'.cell? ⟨ob,3,none⟩=some (.int .i64 b) ∧ w'.cell? ⟨ob,4,none⟩=some (.int .i64 c))
   ((refine HK.out _ ?_;(repeat first | with_reducible exact hsC | with_reducible exact Only.refl _ _ _ | with_reducible apply Only.drew | with_reducible apply Only.drewN | with_reducible apply Only.alloc)))
   (first
     | (go_at_call 92;refine HA1.out _ (hpK.sp.still (by (repeat first | with_reducible exact Only.refl _ _ _ | with_reducible apply Only.drew | with_reducible apply Only.drewN | with_reducible apply Only.alloc))) _ ?_;intro wp hsp hcall;have hpK:=(hpK.still (by (repeat first | with_reducible exact Only.refl _ _ _ | with_reducible apply Only.drew | with_reducible apply Only.drewN | with_reducible apply Only.alloc))).space hcall hsp;have hsC:Only L.lo R.hi w1 wp:=Only.trans (by (repeat first | with_reducible exact hsC | with_reducible exact Only.refl _ _ _ | with_reducible apply Only.drew | with_reducible apply Only.drewN | with_reducible apply Only.alloc)) (Only.mono hcall (Nat.le_refl _) hlr2);clear hcall hsp)
     | (go_at_call 57;refine (HAL.out _).mono ?_;rintro e' wr ⟨rfl,hcall⟩;have hpK:=(hpK.still (by (repeat first | with_reducible exact Only.refl _ _ _ | with_reducible apply Only.drew | with_reducible apply Only.drewN | with_reducible apply Only.alloc))).still hcall;have hsC:Only L.lo R.hi w1 wr:=Only.andStill (by (repeat first | with_reducible exact hsC | with_reducible exact Only.refl _ _ _ | with_reducible apply Only.drew | with_reducible apply Only.drewN | with_reducible apply Only.alloc)) hcall;clear hcall)
     | (go_at_call 93;refine HA2.out _ (hpK.rf.still (by (repeat first | with_reducible exact Only.refl _ _ _ | with_reducible apply Only.drew | with_reducible apply Only.drewN | with_reducible apply Only.alloc))) _ ?_;intro wq hsp hcall;have hpK:=(hpK.still (by (repeat first | with_reducible exact Only.refl _ _ _ | with_reducible apply Only.drew | with_reducible apply Only.drewN | with_reducible apply Only.alloc))).ref hcall hsp;have hsC:Only L.lo R.hi w1 wq:=Only.trans (by (repeat first | with_reducible exact hsC | with_reducible exact Only.refl _ _ _ | with_reducible apply Only.drew | with_reducible apply Only.drewN | with_reducible apply Only.alloc)) (Only.mono hcall hlr3 (Nat.le_refl _));clear hcall hsp))
  all_goals
   go_wp2_with fail
   go_meet
   exact ⟨by first | rfl | simp,hpK.still (by (repeat first | with_reducible exact Only.refl _ _ _ | with_reducible apply Only.drew | with_reducible apply Only.drewN | with_reducible apply Only.alloc)),by (repeat first | with_reducible exact hsC | with_reducible exact Only.refl _ _ _ | with_reducible apply Only.drew | with_reducible apply Only.drewN | with_reducible apply Only.alloc)⟩
 case rest =>
  obtain ⟨rfl,hp2,ho2⟩:=hcut
  have HE:Hid (Q (.returned (.bool true)) wc):=Lib.hid (HQ.out wc s' (hp2.pair HIN.out.1 (by rw [HIN.out.2.1];exact HN24.out)) HIN.out.2.1 HIN.out.2.2 (HF1.out.turn ho2))
  clear hp2 ho2 hpK hsC
  go_wp2_with fail
  exact HE.out
set_option maxRecDepth 100000 in
set_option maxHeartbeats 6400000 in
theorem turned4 (w:World) (pb:Nat) (L:Lay) (R:RLay) (s:St) (own:Nat → Lb) (qf:Nat → Nat) (C:Nat) (h:PairAt w pb L R s own qf C) (wh a b c:Int) (la:Option Addr) (ll lc:Nat) (_ha:(Lit.int .i64 a).wf=true) (_hb:(Lit.int .i64 b).wf=true) (Q:Ending → World → Prop)
 (hQ:∀ w' s',PairAt w' pb L R s' own qf C → s'.n=s.n → s'.acts ≤ s.acts + 2 → PFr L R w own w' own → Q (.returned (.bool true)) w') :
 Calls Tryz.prog 43 #[.pointer (some ⟨pb,0,none⟩),opVal wh 4 a b c la ll lc] w Q:=by
 have HQ:=Lib.hid hQ
 obtain ⟨bl,s',hal⟩:=pk_ex s a b
 have HIN:=Lib.hid (hal.inv h.iv)
 have HIV:=Lib.hid h.iv
 have HN24:=Lib.hid h.n24
 have HA1:Hid (∀ W,SpaceAt W L s → ∀ Q:Ending → World → Prop,(∀ w',SpaceAt w' L s' → Only L.lo L.hi W w' → Q (.returned (.bool bl)) w') → Calls Tryz.prog 94 #[.pointer (some ⟨L.sb,0,none⟩),.int .i64 a,.int .i64 b] W Q):=Lib.hid fun W hW Q hQ => spoke_al W L s s' hW a b bl hal Q hQ
 have HA2:Hid (∀ W,RefAt W R s → ∀ Q:Ending → World → Prop,(∀ w',RefAt w' R s' → Only R.lo R.hi W w' → Q (.returned (.bool bl)) w') → Calls Tryz.prog 95 #[.pointer (some ⟨R.rb,0,none⟩),.int .i64 a,.int .i64 b] W Q):=Lib.hid fun W hW Q hQ => rpoke_al W R s s' hW a b bl hal Q hQ
 have hbb:(bl == bl)=true:=by simp
 have hp:=h.pr2
 obtain ⟨hl1,hl2,hl3⟩:=hp.lohi
 have hlr:=h.lr
 have hlr2:L.hi ≤ R.hi:=by omega
 have hlr3:L.lo ≤ R.lo:=by omega
 have HP:=Lib.hid hp
 clear h hal hQ hp _ha _hb
 go_enter Tryz.func43,Tryz.ntmps43
 go_upto_region 12 with fail
 have hbo:=heap_alloc_new w (opObj wh 4 a b c la ll lc)
 have hsb:Still w (w.alloc (opObj wh 4 a b c la ll lc)):=(Only.refl _ _ w).alloc _
 generalize w.alloc (opObj wh 4 a b c la ll lc)=w0 at *
 generalize hob:w.heap.size=ob at *
 have hob1:=(Array.getElem?_eq_some_iff.1 hbo).1
 have hp1:=HP.out.still hsb
 have hf1:PFr L R w own w0 own:=PFr.of hsb
 clear hsb hob
 have HOP:Hid (∀ W,Only L.lo R.hi w0 W → W.cell? ⟨ob,2,none⟩=some (.int .i64 a) ∧ W.cell? ⟨ob,3,none⟩=some (.int .i64 b)):=Lib.hid fun W ho => by
  have hb:=(ho.block _ hob1 (by omega)).trans hbo
  exact ⟨cell_of (v:=.int .i64 a) hb 2 rfl,cell_of (v:=.int .i64 b) hb 3 rfl⟩
 have HP1:=Lib.hid hp1
 have HF1:=Lib.hid hf1
 have hopb:R.hi ≤ pb:=by
  obtain ⟨v,ls,hk⟩:=HP1.out.k
  exact HP1.out.ow pb (by rw [hk.hd.opb];intro e;cases e)
 have HK:Hid (∀ w',Only L.lo R.hi w0 w' → w'.cell? ⟨pb,0,none⟩=some (.pointer (some ⟨L.sb,0,none⟩)) ∧ w'.cell? ⟨pb,1,none⟩=some (.pointer (some ⟨R.rb,0,none⟩)) ∧ w'.cell? ⟨ob,2,none⟩=some (.int .i64 a) ∧ w'.cell? ⟨ob,3,none⟩=some (.int .i64 b)):=Lib.hid fun W hW => ⟨(hW.cell (p:=⟨pb,0,none⟩) HP1.out.lt (.inr hopb)).trans HP1.out.c0,(hW.cell (p:=⟨pb,1,none⟩) HP1.out.lt (.inr hopb)).trans HP1.out.c1,HOP.out W hW⟩
 clear hbo hp1 hf1
 have hpK:=HP1.out
 have hsC:Only L.lo R.hi w0 w0:=Only.refl _ _ _
 obtain ⟨k0,k1,k2,k3⟩:=HK.out _ hsC
 have hpl:=HP1.out.lt
 go_cut [4] from 107 to 125 (fun s4 wx => s4=.bool true ∧ Pr2 wx pb L R s' s' own qf C ∧ Only L.lo R.hi w0 wx)
 case first =>
  go_region_held3 (fun w' => w'.cell? ⟨pb,0,none⟩=some (.pointer (some ⟨L.sb,0,none⟩)) ∧ w'.cell? ⟨pb,1,none⟩=some (.pointer (some ⟨R.rb,0,none⟩)) ∧ w'.cell? ⟨ob,2,none⟩=some (.int .i64 a) ∧ w'.cell? ⟨ob,3,none⟩=some (.int .i64 b))
   ((refine HK.out _ ?_;(repeat first | with_reducible exact hsC | with_reducible exact Only.refl _ _ _ | with_reducible apply Only.drew | with_reducible apply Only.drewN | with_reducible apply Only.alloc)))
   (first
     | (go_at_call 94;refine HA1.out _ (hpK.sp.still (by (repeat first | with_reducible exact Only.refl _ _ _ | with_reducible apply Only.drew | with_reducible apply Only.drewN | with_reducible apply Only.alloc))) _ ?_;intro wp hsp hcall;have hpK:=(hpK.still (by (repeat first | with_reducible exact Only.refl _ _ _ | with_reducible apply Only.drew | with_reducible apply Only.drewN | with_reducible apply Only.alloc))).space hcall hsp;have hsC:Only L.lo R.hi w0 wp:=Only.trans (by (repeat first | with_reducible exact hsC | with_reducible exact Only.refl _ _ _ | with_reducible apply Only.drew | with_reducible apply Only.drewN | with_reducible apply Only.alloc)) (Only.mono hcall (Nat.le_refl _) hlr2);clear hcall hsp)
     | (go_at_call 95;refine HA2.out _ (hpK.rf.still (by (repeat first | with_reducible exact Only.refl _ _ _ | with_reducible apply Only.drew | with_reducible apply Only.drewN | with_reducible apply Only.alloc))) _ ?_;intro wq hsp hcall;have hpK:=(hpK.still (by (repeat first | with_reducible exact Only.refl _ _ _ | with_reducible apply Only.drew | with_reducible apply Only.drewN | with_reducible apply Only.alloc))).ref hcall hsp;have hsC:Only L.lo R.hi w0 wq:=Only.trans (by (repeat first | with_reducible exact hsC | with_reducible exact Only.refl _ _ _ | with_reducible apply Only.drew | with_reducible apply Only.drewN | with_reducible apply Only.alloc)) (Only.mono hcall hlr3 (Nat.le_refl _));clear hcall hsp))
  all_goals
   go_wp2_with fail
   go_meet
   exact ⟨by first | rfl | simp,hpK.still (by (repeat first | with_reducible exact Only.refl _ _ _ | with_reducible apply Only.drew | with_reducible apply Only.drewN | with_reducible apply Only.alloc)),by (repeat first | with_reducible exact hsC | with_reducible exact Only.refl _ _ _ | with_reducible apply Only.drew | with_reducible apply Only.drewN | with_reducible apply Only.alloc)⟩
 case rest =>
  obtain ⟨rfl,hp2,ho2⟩:=hcut
  have HE:Hid (Q (.returned (.bool true)) wc):=Lib.hid (HQ.out wc s' (hp2.pair HIN.out.1 (by rw [HIN.out.2.1];exact HN24.out)) HIN.out.2.1 HIN.out.2.2 (HF1.out.turn ho2))
  clear hp2 ho2 hpK hsC
  go_wp2_with fail
  exact HE.out
set_option maxRecDepth 100000 in
set_option maxHeartbeats 6400000 in
theorem turned5 (w:World) (pb:Nat) (L:Lay) (R:RLay) (s:St) (own:Nat → Lb) (qf:Nat → Nat) (C:Nat) (h:PairAt w pb L R s own qf C) (wh a b c:Int) (la:Option Addr) (ll lc:Nat) (ha:(Lit.int .i64 a).wf=true) (hb:(Lit.int .i64 b).wf=true) (Q:Ending → World → Prop)
 (hQ:∀ w' s',PairAt w' pb L R s' own qf C → s'.n=s.n → s'.acts ≤ s.acts + 2 → PFr L R w own w' own → Q (.returned (.bool true)) w') :
 Calls Tryz.prog 43 #[.pointer (some ⟨pb,0,none⟩),opVal wh 5 a b c la ll lc] w Q:=by
 have HQ:=Lib.hid hQ
 have hnr1:=(nth_range s a).1
 have hnr2:=(nth_range s a).2 h.n24 h.iv
 have hwr:=wi_range b 40 (by omega)
 have HNTH:Hid (∀ W,Still w W → Calls Tryz.prog 23 #[.pointer (some ⟨pb,0,none⟩),.int .i64 a] W fun e w' => e=.returned (.int .i64 (s.nth a)) ∧ Still W w'):=Lib.hid fun W hW => nth_any W pb L R s own qf C (h.still hW) a ha
 have HWI:Hid (∀ W,Calls Tryz.prog 60 #[.int .i64 b,.int .i64 40] W fun e w' => e=.returned (.int .i64 (wi b 40)) ∧ W=w'):=Lib.hid fun W => within_any b 40 W (wf_i64 hb).1 (wf_i64 hb).2 (by omega) (by omega)
 obtain ⟨at',hat⟩:∃ x,(s.nth a + wi b 40)=x:=⟨_,rfl⟩
 have hatw:(Lit.int .i64 at').wf=true:=wf_of (by omega)
 have hsum:IntKind.i64.wrap (s.nth a + wi b 40)=at':=by rw [IntKind.wrap_i64];omega
 have hsum2:wrap64 (s.nth a + wi b 40)=at':=by unfold wrap64;omega
 generalize s.nth a=nn at *
 generalize wi b 40=ww at *
 obtain ⟨bl,s',hal⟩:=pk_ex s at' c
 have HIN:=Lib.hid (hal.inv h.iv)
 have HIV:=Lib.hid h.iv
 have HN24:=Lib.hid h.n24
 have HA1:Hid (∀ W,SpaceAt W L s → ∀ Q:Ending → World → Prop,(∀ w',SpaceAt w' L s' → Only L.lo L.hi W w' → Q (.returned (.bool bl)) w') → Calls Tryz.prog 94 #[.pointer (some ⟨L.sb,0,none⟩),.int .i64 at',.int .i64 c] W Q):=Lib.hid fun W hW Q hQ => spoke_al W L s s' hW at' c bl hal Q hQ
 have HA2:Hid (∀ W,RefAt W R s → ∀ Q:Ending → World → Prop,(∀ w',RefAt w' R s' → Only R.lo R.hi W w' → Q (.returned (.bool bl)) w') → Calls Tryz.prog 95 #[.pointer (some ⟨R.rb,0,none⟩),.int .i64 at',.int .i64 c] W Q):=Lib.hid fun W hW Q hQ => rpoke_al W R s s' hW at' c bl hal Q hQ
 have hbb:(bl == bl)=true:=by simp
 have hp:=h.pr2
 obtain ⟨hl1,hl2,hl3⟩:=hp.lohi
 have hlr:=h.lr
 have hlr2:L.hi ≤ R.hi:=by omega
 have hlr3:L.lo ≤ R.lo:=by omega
 have HP:=Lib.hid hp
 clear h hal hQ hp ha hb hnr1 hnr2 hwr hatw hat
 go_enter Tryz.func43,Tryz.ntmps43
 go_upto_region 14 with fail
 have hbo:=heap_alloc_new w (opObj wh 5 a b c la ll lc)
 have hsb:Still w (w.alloc (opObj wh 5 a b c la ll lc)):=(Only.refl _ _ w).alloc _
 generalize w.alloc (opObj wh 5 a b c la ll lc)=w0 at *
 generalize hob:w.heap.size=ob at *
 have hob1:=(Array.getElem?_eq_some_iff.1 hbo).1
 have hp1:=HP.out.still hsb
 have hf1:PFr L R w own w0 own:=PFr.of hsb
 have hx2:=cell_of (v:=.int .i64 a) hbo 2 rfl
 have hx3:=cell_of (v:=.int .i64 b) hbo 3 rfl
 have HB0:=Lib.hid hbo
 have HN0:=Lib.hid (HNTH.out _ hsb)
 have HP0:=Lib.hid hp1
 have HF0:=Lib.hid hf1
 have HSB:=Lib.hid hsb
 clear hp1 hf1 hbo hob hsb
 have hpl0:=HP0.out.lt
 have HOB1:=Lib.hid hob1
 have HX:Hid (∀ W,Still w0 W → W.cell? ⟨ob,2,none⟩=some (.int .i64 a) ∧ W.cell? ⟨ob,3,none⟩=some (.int .i64 b)):=Lib.hid fun W hW => by
  have hb:=(hW.block _ HOB1.out (.inl HOB1.out)).trans HB0.out
  exact ⟨cell_of (v:=.int .i64 a) hb 2 rfl,cell_of (v:=.int .i64 b) hb 3 rfl⟩
 have hsC:Still w0 w0:=Only.refl _ _ _
 go_cut [10] from 128 to 135 (fun s10 wx => s10=.int .i64 at' ∧ Still w0 wx)
 case first =>
  go_region_held3 (fun w' => w'.cell? ⟨ob,2,none⟩=some (.int .i64 a) ∧ w'.cell? ⟨ob,3,none⟩=some (.int .i64 b))
   ((refine HX.out _ ?_;(repeat first | with_reducible exact hsC | with_reducible exact Only.refl _ _ _ | with_reducible apply Only.drew | with_reducible apply Only.drewN | with_reducible apply Only.alloc)))
   (first
     | (go_at_call 23;refine (HNTH.out _ (Still.trans HSB.out (by (repeat first | with_reducible exact hsC | with_reducible exact Only.refl _ _ _ | with_reducible apply Only.drew | with_reducible apply Only.drewN | with_reducible apply Only.alloc)))).mono ?_;rintro e' wp ⟨rfl,hcall⟩;have hsC:Still w0 wp:=Still.trans (by (repeat first | with_reducible exact hsC | with_reducible exact Only.refl _ _ _ | with_reducible apply Only.drew | with_reducible apply Only.drewN | with_reducible apply Only.alloc)) hcall)
     | (go_at_call 60;refine (HWI.out _).mono ?_;rintro e' wq ⟨rfl,rfl⟩))
  all_goals
   go_wp2_with fail
   go_meet
   exact ⟨rfl,by (repeat first | with_reducible exact hsC | with_reducible exact Only.refl _ _ _ | with_reducible apply Only.drew | with_reducible apply Only.drewN | with_reducible apply Only.alloc)⟩
 case rest =>
  obtain ⟨rfl,hs1⟩:=hcut
  generalize wc=w1 at *
  have hp1:=HP0.out.still hs1
  have hf1:=HF0.out.still hs1
  have hbo:=(hs1.block _ hob1 (.inl hob1)).trans HB0.out
  have hob1:=(Array.getElem?_eq_some_iff.1 hbo).1
  clear hs1 hx2 hx3 hsC
  have HOP:Hid (∀ W,Only L.lo R.hi w1 W → W.cell? ⟨ob,4,none⟩=some (.int .i64 c)):=Lib.hid fun W ho => by
   have hb:=(ho.block _ hob1 (by omega)).trans hbo
   exact cell_of (v:=.int .i64 c) hb 4 rfl
  have HP1:=Lib.hid hp1
  have HF1:=Lib.hid hf1
  have hopb:R.hi ≤ pb:=by
   obtain ⟨v,ls,hk⟩:=HP1.out.k
   exact HP1.out.ow pb (by rw [hk.hd.opb];intro e;cases e)
  have HK:Hid (∀ w',Only L.lo R.hi w1 w' → w'.cell? ⟨pb,0,none⟩=some (.pointer (some ⟨L.sb,0,none⟩)) ∧ w'.cell? ⟨pb,1,none⟩=some (.pointer (some ⟨R.rb,0,none⟩)) ∧ w'.cell? ⟨ob,4,none⟩=some (.int .i64 c)):=Lib.hid fun W hW => ⟨(hW.cell (p:=⟨pb,0,none⟩) HP1.out.lt (.inr hopb)).trans HP1.out.c0,(hW.cell (p:=⟨pb,1,none⟩) HP1.out.lt (.inr hopb)).trans HP1.out.c1,HOP.out W hW⟩
  clear hbo hp1 hf1
  have hpK:=HP1.out
  have hsC:Only L.lo R.hi w1 w1:=Only.refl _ _ _
  obtain ⟨k0,k1,k4⟩:=HK.out _ hsC
  have hpl:=HP1.out.lt
  go_wp2_with fail
  go_cut [4] from 136 to 152 (fun s4 wx => s4=.bool true ∧ Pr2 wx pb L R s' s' own qf C ∧ Only L.lo R.hi w1 wx)
  case first =>
   go_region_held3 (fun w' => w'.cell? ⟨pb,0,none⟩=some (.pointer (some ⟨L.sb,0,none⟩)) ∧ w'.cell? ⟨pb,1,none⟩=some (.pointer (some ⟨R.rb,0,none⟩)) ∧ w'.cell? ⟨ob,4,none⟩=some (.int .i64 c))
    ((refine HK.out _ ?_;(repeat first | with_reducible exact hsC | with_reducible exact Only.refl _ _ _ | with_reducible apply Only.drew | with_reducible apply Only.drewN | with_reducible apply Only.alloc)))
    (first
      | (go_at_call 94;refine HA1.out _ (hpK.sp.still (by (repeat first | with_reducible exact Only.refl _ _ _ | with_reducible apply Only.drew | with_reducible apply Only.drewN | with_reducible apply Only.alloc))) _ ?_;intro wp hsp hcall;have hpK:=(hpK.still (by (repeat first | with_reducible exact Only.refl _ _ _ | with_reducible apply Only.drew | with_reducible apply Only.drewN | with_reducible apply Only.alloc))).space hcall hsp;have hsC:Only L.lo R.hi w1 wp:=Only.trans (by (repeat first | with_reducible exact hsC | with_reducible exact Only.refl _ _ _ | with_reducible apply Only.drew | with_reducible apply Only.drewN | with_reducible apply Only.alloc)) (Only.mono hcall (Nat.le_refl _) hlr2);clear hcall hsp)
      | (go_at_call 95;refine HA2.out _ (hpK.rf.still (by (repeat first | with_reducible exact Only.refl _ _ _ | with_reducible apply Only.drew | with_reducible apply Only.drewN | with_reducible apply Only.alloc))) _ ?_;intro wq hsp hcall;have hpK:=(hpK.still (by (repeat first | with_reducible exact Only.refl _ _ _ | with_reducible apply Only.drew | with_reducible apply Only.drewN | with_reducible apply Only.alloc))).ref hcall hsp;have hsC:Only L.lo R.hi w1 wq:=Only.trans (by (repeat first | with_reducible exact hsC | with_reducible exact Only.refl _ _ _ | with_reducible apply Only.drew | with_reducible apply Only.drewN | with_reducible apply Only.alloc)) (Only.mono hcall hlr3 (Nat.le_refl _));clear hcall hsp))
   all_goals
    go_wp2_with fail
    go_meet
    exact ⟨by first | rfl | simp,hpK.still (by (repeat first | with_reducible exact Only.refl _ _ _ | with_reducible apply Only.drew | with_reducible apply Only.drewN | with_reducible apply Only.alloc)),by (repeat first | with_reducible exact hsC | with_reducible exact Only.refl _ _ _ | with_reducible apply Only.drew | with_reducible apply Only.drewN | with_reducible apply Only.alloc)⟩
  case rest =>
   obtain ⟨rfl,hp2,ho2⟩:=hcut
   have HE:Hid (Q (.returned (.bool true)) wc):=Lib.hid (HQ.out wc s' (hp2.pair HIN.out.1 (by rw [HIN.out.2.1];exact HN24.out)) HIN.out.2.1 HIN.out.2.2 (HF1.out.turn ho2))
   clear hp2 ho2 hpK hsC
   go_wp2_with fail
   exact HE.out
end Go.Proofs.YtfbcdmhmpfijjaaGreatDoor
