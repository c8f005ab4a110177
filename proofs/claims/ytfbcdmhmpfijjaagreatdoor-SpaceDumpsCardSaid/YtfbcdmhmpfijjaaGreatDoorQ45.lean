/-
  The walk of plays.
-/
import Derived.Laws.Rows
import Derived.Test.YtfbcdmhmpfijjaaGreatDoorQ44
import Derived.Test.YtfbcdmhmpfijjaaGreatDoorQ32
set_option linter.unusedVariables false
set_option linter.unusedSimpArgs false
set_option linter.unusedSectionVars false
namespace Go.Proofs.YtfbcdmhmpfijjaaGreatDoor
open Go Go.RowKit
set_option maxRecDepth 100000 in
set_option maxHeartbeats 6400000 in
theorem turned6 (w:World) (pb:Nat) (L:Lay) (R:RLay) (s:St) (own:Nat → Lb) (qf:Nat → Nat) (C:Nat) (h:PairAt w pb L R s own qf C) (wh a b c:Int) (la:Option Addr) (ll lc:Nat) (zs:List Int) (hz:IntsIn w (.slice la ll lc) zs) (hl:zs.length ≤ 100000) (hv:IntsOut L R (.slice la ll lc)) (Q:Ending → World → Prop)
 (hQ:∀ w' s',PairAt w' pb L R s' own qf C → s'.n=s.n → s'.acts ≤ s.acts + 2 → PFr L R w own w' own → Q (.returned (.bool true)) w') :
 Calls Tryz.prog 43 #[.pointer (some ⟨pb,0,none⟩),opVal wh 6 a b c la ll lc] w Q:=by
 have HQ:=Lib.hid hQ
 have HK:Hid (∀ w1,Still w w1 → ∀ Q:Ending → World → Prop,(∀ w' s',PairAt w' pb L R s' own qf C → s'.n=s.n → s'.acts ≤ s.acts + 2 → PFr L R w1 own w' own → Q (.returned (.bool true)) w') → Calls Tryz.prog 78 #[.pointer (some ⟨pb,0,none⟩),.slice la ll lc] w1 Q):=Lib.hid fun w1 hw Q hQ => keeps2_any w1 pb L R s own qf C (h.still hw) _ zs (hz.still hw) hl hv Q hQ
 clear h hQ hz hv hl
 go_enter Tryz.func43,Tryz.ntmps43
 go_wp2_with fail
 have hsb:Still w (w.alloc (opObj wh 6 a b c la ll lc)):=(Only.refl _ _ w).alloc _
 generalize w.alloc (opObj wh 6 a b c la ll lc)=w1 at *
 refine HK.out w1 hsb _ ?_
 intro w2 s' hp hn ha hf
 have HE:Hid (Q (.returned (.bool true)) w2):=Lib.hid (HQ.out w2 s' hp hn ha ((PFr.of hsb).trans hf))
 clear hp hn ha hf hsb
 go_wp2_with fail
 first | exact HE.out | (go_ret;exact HE.out)
end Go.Proofs.YtfbcdmhmpfijjaaGreatDoor
namespace Go.Proofs.YtfbcdmhmpfijjaaGreatDoor
open Go Go.RowKit
def nthL (s:St) (zs:List Int):Nat → List Int
 | 0 => []
 | i + 1 => if 0 ≤ s.nth (zs.getD i 0) then nthL s zs i ++ [s.nth (zs.getD i 0)] else nthL s zs i
theorem nthL_len (s:St) (zs:List Int):∀ i,(nthL s zs i).length ≤ i
 | 0 => Nat.le_refl _
 | i + 1 => by
  have:=nthL_len s zs i
  unfold nthL
  split
  ·rw [List.length_append,List.length_singleton];omega
  ·omega
set_option maxRecDepth 100000 in
set_option maxHeartbeats 6400000 in
theorem turned7 (w:World) (pb:Nat) (L:Lay) (R:RLay) (s:St) (own:Nat → Lb) (qf:Nat → Nat) (C:Nat) (h:PairAt w pb L R s own qf C) (wh k a b c:Int) (hk:k ≠ 1 ∧ k ≠ 2 ∧ k ≠ 3 ∧ k ≠ 4 ∧ k ≠ 5 ∧ k ≠ 6) (la:Option Addr) (ll lc:Nat) (zs:List Int) (hz:IntsIn w (.slice la ll lc) zs) (hl:zs.length ≤ 100000) (hwf:∀ j,j < zs.length → (Lit.int .i64 (zs.getD j 0)).wf=true) (Q:Ending → World → Prop)
 (hQ:∀ w' s',PairAt w' pb L R s' own qf C → s'.n=s.n → s'.acts ≤ s.acts + 2 → PFr L R w own w' own → Q (.returned (.bool true)) w') :
 Calls Tryz.prog 43 #[.pointer (some ⟨pb,0,none⟩),opVal wh k a b c la ll lc] w Q:=by
 have HQ:=Lib.hid hQ
 have HP:=Lib.hid h
 have HTOP:Hid (R.hi ≤ w.heap.size):=Lib.hid h.rf.top
 have HWF:=Lib.hid hwf
 obtain ⟨_,ao,cap,hv,hcc⟩:=hz
 injection hv with e1 e2 e3
 subst e1 e2 e3
 have HEL:Hid (∀ j,j < zs.length → ∃ b o,la=some ⟨b,o,none⟩ ∧ w.cell? ⟨b,o + j,none⟩=some (.int .i64 (zs.getD j 0)) ∧ b < w.heap.size):=Lib.hid fun j hlt => by
  obtain ⟨b,o,e1,h⟩:=hcc j hlt
  exact ⟨b,o,e1,h,cell_blt h⟩
 have HNT:Hid (∀ W,Still w W → ∀ j,j < zs.length → Calls Tryz.prog 23 #[.pointer (some ⟨pb,0,none⟩),.int .i64 (zs.getD j 0)] W fun e w' => e=.returned (.int .i64 (s.nth (zs.getD j 0))) ∧ Still W w'):=Lib.hid fun W hW j hj => nth_any W pb L R s own qf C (HP.out.still hW) _ (HWF.out j hj)
 obtain ⟨k1,k2,k3,k4,k5,k6⟩:=hk
 have q1:(k == 1)=false:=by simpa using k1
 have q2:(k == 2)=false:=by simpa using k2
 have q3:(k == 3)=false:=by simpa using k3
 have q4:(k == 4)=false:=by simpa using k4
 have q5:(k == 5)=false:=by simpa using k5
 have q6:(k == 6)=false:=by simpa using k6
 have hlI:(zs.length:Int) ≤ 100000:=by omega
 clear h hQ hcc hwf k1 k2 k3 k4 k5 k6
 go_enter Tryz.func43,Tryz.ntmps43
 go_wp2_with fail
 have hbo:=heap_alloc_new w (opObj wh k a b c la zs.length lc)
 have hsb:Still w (w.alloc (opObj wh k a b c la zs.length lc)):=(Only.refl _ _ w).alloc _
 generalize w.alloc (opObj wh k a b c la zs.length lc)=w0 at *
 generalize hob:w.heap.size=ob at *
 have HOB:Hid (ob=w.heap.size):=Lib.hid hob.symm
 have hob1:=(Array.getElem?_eq_some_iff.1 hbo).1
 have HBO:=Lib.hid hbo
 have HSB:=Lib.hid hsb
 have HBX:Hid (∀ W,(∃ hi,Only (ob + 1) hi w0 W) → W.cell? ⟨ob,5,none⟩=some (.slice la zs.length lc) ∧ ob < W.heap.size):=Lib.hid fun W ⟨hi,hW⟩ => by
  have hb:=(hW.block _ hob1 (.inl (Nat.lt_succ_self _))).trans hbo
  exact ⟨cell_of (v:=.slice la zs.length lc) hb 5 rfl,(Array.getElem?_eq_some_iff.1 hb).1⟩
 clear hbo hsb hob
 go_loopw [11,12] (fun x y W => ∃ i:Nat,y=.int .i64 (i:Int) ∧ i ≤ zs.length ∧ (∃ hi,Only (ob + 1) hi w0 W) ∧ W.ownsRow (ob + 1) 3 1 x (nthL s zs i).length ((nthL s zs i).map (Value.int .i64))) (fun _ y _ => zs.length + 1 - (intOf y).toNat)
 case atStart => exact ⟨0,rfl,Nat.zero_le _,⟨0,Only.refl _ _ _⟩,World.ownsRow_nil _ _ _ _⟩
 case round =>
  obtain ⟨i,rfl,hi,ho,hr⟩:=hrel
  obtain ⟨ua,uc,rfl⟩:=own_form hr
  have HO:=Lib.hid ho
  have hst:Still w wr:=by
   obtain ⟨hi,ho⟩:=ho
   exact HSB.out.trans' ho (.inr (by rw [← HOB.out];exact Nat.le_succ _)) (.inr (by rw [← HOB.out];exact Nat.le_succ _))
  have HST:=Lib.hid hst
  have HR:=Lib.hid hr
  have hi0:(0:Int) ≤ (i:Int):=by omega
  obtain ⟨b5,lob⟩:=HBX.out _ ho
  by_cases hlt:i < zs.length
  ·have hltI:(i:Int) < (zs.length:Int):=by omega
   obtain ⟨b,o,rfl,hc0,hbl⟩:=HEL.out i hlt
   have hc1:=(hst.cell (p:=⟨b,o + i,none⟩) (by rw [← HOB.out];exact hbl) (.inl (by rw [← HOB.out];exact hbl))).trans hc0
   have lb:b < wr.heap.size:=Nat.lt_of_lt_of_le (by rw [← HOB.out];exact hbl) hst.size
   have HN1:=Lib.hid (HNT.out _ hst i hlt)
   have HN2:Hid (∀ W,Still wr W → Calls Tryz.prog 23 #[.pointer (some ⟨pb,0,none⟩),.int .i64 (zs.getD i 0)] W fun e w' => e=.returned (.int .i64 (s.nth (zs.getD i 0))) ∧ Still W w'):=Lib.hid fun W hW => HNT.out _ (Still.trans HST.out hW) i hlt
   have HLE:=Lib.hid (nthL_len s zs i)
   have HS:Hid (nthL s zs (i + 1)=if 0 ≤ s.nth (zs.getD i 0) then nthL s zs i ++ [s.nth (zs.getD i 0)] else nthL s zs i):=Lib.hid rfl
   have HCE:Hid (∀ W,Still wr W → W.cell? ⟨b,o + i,none⟩=some (.int .i64 (zs.getD i 0)) ∧ b < W.heap.size ∧ W.cell? ⟨ob,5,none⟩=some (.slice (some ⟨b,o,none⟩) zs.length lc) ∧ ob < W.heap.size):=Lib.hid fun W hW => ⟨(hW.cell (p:=⟨b,o + i,none⟩) lb (.inl lb)).trans hc1,Nat.lt_of_lt_of_le lb hW.size,(hW.cell (p:=⟨ob,5,none⟩) lob (.inl lob)).trans b5,Nat.lt_of_lt_of_le lob hW.size⟩
   generalize s.nth (zs.getD i 0)=z at *
   generalize zs.getD i 0=y at *
   clear ho hst hr hc0 hbl
   go_wp2_with fail
   refine HN1.out.mono ?_
   rintro e1 w1 ⟨rfl,hs1⟩
   have HS1:=Lib.hid hs1
   obtain ⟨d1,d2,d3,d4⟩:=HCE.out _ hs1
   clear hs1 hc1 lb b5 lob
   by_cases hz0:0 ≤ z
   ·have hzd:decide (0 ≤ z)=true:=decide_eq_true hz0
    have HN3:=Lib.hid (HN2.out _ HS1.out)
    go_wp2_with fail
    refine HN3.out.mono ?_
    rintro e2 w2 ⟨rfl,hs2⟩
    have hs12:Still wr w2:=Still.trans HS1.out hs2
    have hr2:=ownsRow_still HR.out hs12
    obtain ⟨v',w5,happ,hown,ho5,hs5⟩:=int_append w2 (ob + 1) (nthL s zs i) _ hr2 (by have:=hs12.size;have:=(HBX.out _ HO.out).2;omega) (by have:=HLE.out;omega) z w2.heap.size rfl
    have HAPP:=Lib.hid happ
    have HF:Hid ((∃ hi,Only (ob + 1) hi w0 w5) ∧ w5.ownsRow (ob + 1) 3 1 v' (nthL s zs (i + 1)).length ((nthL s zs (i + 1)).map (Value.int .i64))):=Lib.hid ⟨by
     obtain ⟨hi,h3⟩:=HO.out
     exact ⟨max hi w2.heap.size,((h3.andStill hs12).mono (Nat.le_refl _) (Nat.le_max_left _ _)).trans (ho5.mono (Nat.le_refl _) (Nat.le_max_right _ _))⟩,by rw [HS.out,if_pos hz0];exact hown⟩
    clear happ hown ho5 hs5 hr2 hs12 hs2 d1 d2 d3 d4
    go_wp2_with (at_builtin;refine wpList_append_eq rfl _ _ 27 rfl _ _ _ _ rfl rfl HAPP.out ?_)
    exact ⟨⟨i + 1,by go_num,hlt,HF.out⟩,by simp [intOf];omega⟩
   ·have hzd:decide (0 ≤ z)=false:=decide_eq_false hz0
    go_wp2_with fail
    exact ⟨⟨i + 1,by go_num,hlt,(by obtain ⟨hi,h3⟩:=HO.out;exact ⟨hi,h3.andStill HS1.out⟩),by rw [HS.out,if_neg (by omega)];exact ownsRow_still HR.out HS1.out⟩,by simp [intOf];omega⟩
  ·obtain ⟨n,hn⟩:∃ n,zs.length=n:=⟨_,rfl⟩
   have hin:i=n:=by omega
   subst hin
   have hlen:=nthL_len s zs i
   have hp:=HP.out.still hst
   have hfr:IntsOut L R (.slice ua (nthL s zs i).length uc):=fun b o n c e _ => .inr (by
    have:=hr.lt b (by rw [e];rfl)
    have:=HTOP.out
    have:=HOB.out
    omega)
   have HKP:=Lib.hid (fun Q hQ => keeps2_any wr pb L R s own qf C hp _ (nthL s zs i) (ints_of_row hr (by omega)).in' (by omega) hfr Q hQ)
   have HLN:=Lib.hid hn
   clear ho hst hr hp hfr
   go_wp2_with fail
   refine HKP.out _ ?_
   intro w2 s' hp2 hn2 ha2 hf2
   have HE:Hid (Q (.returned (.bool true)) w2):=Lib.hid (HQ.out w2 s' hp2 hn2 ha2 ((PFr.of HST.out).trans hf2))
   clear hp2 hn2 ha2 hf2
   go_wp2_with fail
   exact HE.out
end Go.Proofs.YtfbcdmhmpfijjaaGreatDoor
namespace Go.Proofs.YtfbcdmhmpfijjaaGreatDoor
open Go Go.RowKit
theorem IsRowI.ints {w:World} {a:Option Addr} {len lc:Nat} {zs:Nat → Int} (h:IsRowI w a len lc zs) (hl:len ≤ 100000):IntsIn w (.slice a len lc) ((List.range len).map zs) ∧ ∀ j,j < len → (Lit.int .i64 (((List.range len).map zs).getD j 0)).wf=true:=by
 have hn:((List.range len).map zs).length=len:=by simp
 have hg:∀ j,j < len → ((List.range len).map zs).getD j 0=zs j:=fun j hj => by
  rw [List.getD_eq_getElem?_getD,List.getElem?_map,List.getElem?_range hj];rfl
 refine ⟨⟨by omega,a,lc,by rw [hn],fun j hj => ?_⟩,fun j hj => ?_⟩
 ·rw [hn] at hj
  obtain ⟨x,rfl,hx,_⟩:=h.2 j hj
  obtain ⟨x',e,hx0,_⟩:=h.2 0 (by omega)
  injection e with e
  subst e
  obtain ⟨b,o,sp⟩:=x
  have hsp:sp=none:=by
   cases sp with
   | none => rfl
   | some q =>
    exfalso
    have hx0:w.cell? ⟨b,o,some q⟩=some (.int .i64 (zs 0)):=hx0
    unfold World.cell? at hx0
    dsimp only at hx0
    split at hx0
    ·simp at hx0
    ·cases hx0
  subst hsp
  refine ⟨b,o,rfl,?_⟩
  have e:(⟨b,o,none⟩:Addr).add j=⟨b,o + j,none⟩:=by unfold Addr.add;split <;> simp_all
  rw [← e,hx,hg j hj]
 ·obtain ⟨x,_,_,h3⟩:=h.2 j hj
  rw [hg j hj];exact h3
theorem turned_any (w:World) (pb:Nat) (L:Lay) (R:RLay) (s:St) (own:Nat → Lb) (qf:Nat → Nat) (C:Nat) (h:PairAt w pb L R s own qf C) (wh k a b c:Int) (hk1:1 ≤ k) (hk7:k ≤ 7) (la:Option Addr) (ll lc:Nat) (zs:Nat → Int) (ha:(Lit.int .i64 a).wf=true) (hb:(Lit.int .i64 b).wf=true) (hz:IsRowI w la ll lc zs) (hl:ll ≤ 100000) (hv:IntsOut L R (.slice la ll lc)) (hac:s.acts + 2 ≤ 1000000000000) (Q:Ending → World → Prop)
 (hQ:∀ w' s',PairAt w' pb L R s' own qf C → s'.n=s.n → s'.acts ≤ s.acts + 2 → PFr L R w own w' own → Q (.returned (.bool true)) w') :
 Calls Tryz.prog 43 #[.pointer (some ⟨pb,0,none⟩),opVal wh k a b c la ll lc] w Q:=by
 obtain ⟨hi,hwf⟩:=hz.ints hl
 have hn:((List.range ll).map zs).length=ll:=by simp
 have e:k=1 ∨ k=2 ∨ k=3 ∨ k=4 ∨ k=5 ∨ k=6 ∨ k=7:=by omega
 rcases e with rfl | rfl | rfl | rfl | rfl | rfl | rfl
 ·exact turned1 w pb L R s own qf C h wh a b c la ll lc hb hac Q hQ
 ·exact turned2 w pb L R s own qf C h wh a b c la ll lc ha hb Q hQ
 ·exact turned3 w pb L R s own qf C h wh a b c la ll lc ha hb Q hQ
 ·exact turned4 w pb L R s own qf C h wh a b c la ll lc ha hb Q hQ
 ·exact turned5 w pb L R s own qf C h wh a b c la ll lc ha hb Q hQ
 ·exact turned6 w pb L R s own qf C h wh a b c la ll lc _ hi (by omega) hv Q hQ
 ·exact turned7 w pb L R s own qf C h wh 7 a b c (by omega) la ll lc _ hi (by omega) (fun j hj => hwf j (by omega)) Q hQ
end Go.Proofs.YtfbcdmhmpfijjaaGreatDoor
namespace Go.Proofs.YtfbcdmhmpfijjaaGreatDoor
open Go Go.RowKit
def midW (w w':World) (b:Nat):World:={ w' with heap:=Array.ofFn (n:=w'.heap.size) fun i => if i.val < b then (w.heap[i.val]?).getD w'.heap[i] else w'.heap[i] }
theorem midW_at (w w':World) (b g:Nat) (hg:g < w'.heap.size):(midW w w' b).heap[g]?=if g < b then some ((w.heap[g]?).getD (w'.heap[g])) else w'.heap[g]?:=by
 unfold midW
 dsimp only
 rw [Array.getElem?_ofFn]
 simp only [hg,dite_true]
 by_cases e:g < b
 ·rw [if_pos e,if_pos e];rfl
 ·rw [if_neg e,if_neg e,Array.getElem?_eq_getElem hg];rfl
theorem kf_split {w w':World} {bl:Nat → Prop} (hk:Kf w bl w') {lo hi:Nat} (h0:¬bl 0) (hb:∀ g,bl g → g < lo ∨ hi ≤ g) (hw:lo ≤ w.heap.size):Only hi w.heap.size w (midW w w' lo) ∧ Only 1 lo (midW w w' lo) w':=by
 have hs:(midW w w' lo).heap.size=w'.heap.size:=by unfold midW;simp
 refine ⟨⟨hk.os,hk.tape,hk.output,by rw [hs];exact hk.size,fun g hg hn => ?_⟩,⟨rfl,rfl,rfl,by rw [hs];exact Nat.le_refl _,fun g hg hn => ?_⟩⟩
 ·have hg':=Nat.lt_of_lt_of_le hg hk.size
  rw [midW_at w w' lo g hg']
  by_cases e:g < lo
  ·rw [if_pos e,Array.getElem?_eq_getElem hg];rfl
  ·rw [if_neg e]
   exact hk.block g hg fun hbl => by have:=hb g hbl;omega
 ·rw [hs] at hg
  rw [midW_at w w' lo g hg]
  by_cases e:g < lo
  ·obtain rfl:g=0:=by omega
   have hg0:0 < w.heap.size:=by omega
   rw [if_pos e,hk.block 0 hg0 h0,Array.getElem?_eq_getElem hg0];rfl
  ·rw [if_neg e]
theorem PairAt.other {w w':World} {pb:Nat} {L L':Lay} {R R':RLay} {s:St} {own own' own2:Nat → Lb} {qf:Nat → Nat} {C:Nat} (h:PairAt w pb L R s own qf C) (hf:PFr L' R' w own' w' own2) (h0:0 < L'.lo)
 (hd:L'.lo < R'.hi → R.hi ≤ L'.lo ∨ R'.hi ≤ L.lo) (ho:∀ g,own g ≠ Lno → own' g=Lno ∧ ¬(L'.lo ≤ g ∧ g < R'.hi)) (ho':∀ g,own' g ≠ Lno → 0 < g ∧ (g < L.lo ∨ R.hi ≤ g)):PairAt w' pb L R s own qf C:=by
 have hlo:=h.rlo
 have hlr:=h.lr
 have hL0:=h.sp.ok.lo0
 have hbl:∀ g,(own' g ≠ Lno ∨ (L'.lo ≤ g ∧ g < R'.hi)) → 0 < g ∧ (g < L.lo ∨ R.hi ≤ g):=fun g hg => by
  rcases hg with hg | hg
  ·exact ho' g hg
  ·have:=hd (by omega);omega
 have hn0:¬(own' 0 ≠ Lno ∨ (L'.lo ≤ 0 ∧ 0 < R'.hi)):=fun e => by have:=(hbl 0 e).1;omega
 have htop:=h.rf.top
 obtain ⟨a1,a2⟩:=kf_split hf.kf (lo:=L.lo) (hi:=R.hi) hn0 (fun g hg => (hbl g hg).2) (by omega)
 exact ⟨h.k.kf hf.kf fun g hg hb => by
  obtain ⟨e1,e2⟩:=ho g hg
  rcases hb with hb | hb
  ·exact hb e1
  ·exact e2 hb,(h.sp.kept a1 (.inl (by omega)) (by omega)).kept a2 (.inr (Nat.le_refl _)) (by omega),(h.rf.kept a1 (.inl (Nat.le_refl _))).kept a2 (.inr (by omega)),h.iv,h.lr,h.ow,h.n24⟩
end Go.Proofs.YtfbcdmhmpfijjaaGreatDoor
namespace Go.Proofs.YtfbcdmhmpfijjaaGreatDoor
open Go Go.RowKit
structure Two (w0 w:World) (pa pb:Nat) (LA LB:Lay) (RA RB:RLay) (sA sB:St) (oA oB:Nat → Lb) (C:Nat):Prop where
 a:PairAt w pa LA RA sA oA (fun _ => 0) C
 b:PairAt w pb LB RB sB oB (fun _ => 0) C
 la:w0.heap.size ≤ LA.lo
 ab:RA.hi ≤ LB.lo
 pos:0 < w0.heap.size
 xa:∀ g,oA g ≠ Lno → oB g=Lno ∧ (g < LB.lo ∨ RB.hi ≤ g)
 be:Below w0.heap.size w0 w
section
variable {w0 w w':World} {pa pb:Nat} {LA LB:Lay} {RA RB:RLay} {sA sB s':St} {oA oB o':Nat → Lb} {C C':Nat} (h:Two w0 w pa pb LA LB RA RB sA sB oA oB C)
include h
theorem Two.xb {g:Nat} (hg:oB g ≠ Lno):oA g=Lno:=by
 by_cases e:oA g=Lno
 ·exact e
 ·exact absurd (h.xa g e).1 hg
theorem Two.left (hc:C ≤ C') (hp:PairAt w' pa LA RA s' o' (fun _ => 0) C') (hf:PFr LA RA w oA w' o'):Two w0 w' pa pb LA LB RA RB s' sB o' oB C':=by
 have a1:=h.a.rlo
 have a2:=h.b.rlo
 have hlA:=h.a.lr
 have hlB:=h.b.lr
 have hla:=h.la
 have hab:=h.ab
 have hpos:=h.pos
 have hbo:=h.b.olt
 have hbow:=h.b.ow
 have htop:=h.b.rf.top
 refine ⟨hp,(h.b.other hf (by omega) (fun _ => .inr (by omega)) (fun g hg => ⟨h.xb hg,?_⟩) (fun g hg => ⟨?_,(h.xa g hg).2⟩)).mono hc,h.la,h.ab,h.pos,fun g hg => ?_,?_⟩
 ·have:=hbow g hg;omega
 ·have:=h.a.ow g hg;omega
 ·rcases hf.lb g hg with e | e
  ·exact h.xa g e
  ·refine ⟨?_,.inr (by omega)⟩
   by_cases e2:oB g=Lno
   ·exact e2
   ·have:=hbo g e2;omega
 ·exact ⟨hf.kf.os.trans h.be.os,hf.kf.tape.trans h.be.tape,hf.kf.output.trans h.be.output,Nat.le_trans h.be.size hf.kf.size,fun g hg => (hf.kf.block g (Nat.lt_of_lt_of_le hg h.be.size) fun hq => hq.elim (fun e => by have:=h.a.ow g e;omega) fun e => by omega).trans (h.be.block g hg)⟩
theorem Two.right (hc:C ≤ C') (hp:PairAt w' pb LB RB s' o' (fun _ => 0) C') (hf:PFr LB RB w oB w' o'):Two w0 w' pa pb LA LB RA RB sA s' oA o' C':=by
 have a1:=h.a.rlo
 have a2:=h.b.rlo
 have hlA:=h.a.lr
 have hlB:=h.b.lr
 have hla:=h.la
 have hab:=h.ab
 have hpos:=h.pos
 have hao:=h.a.olt
 refine ⟨(h.a.other hf (by omega) (fun _ => .inl (by omega)) (fun g hg => ⟨(h.xa g hg).1,fun e => by have:=(h.xa g hg).2;omega⟩) (fun g hg => ?_)).mono hc,hp,h.la,h.ab,h.pos,fun g hg => ⟨?_,(h.xa g hg).2⟩,?_⟩
 ·have:=h.b.ow g hg;omega
 ·by_cases e2:o' g=Lno
  ·exact e2
  ·rcases hf.lb g e2 with e | e
   ·exact absurd (h.xa g hg).1 e
   ·have:=hao g hg;omega
 ·exact ⟨hf.kf.os.trans h.be.os,hf.kf.tape.trans h.be.tape,hf.kf.output.trans h.be.output,Nat.le_trans h.be.size hf.kf.size,fun g hg => (hf.kf.block g (Nat.lt_of_lt_of_le hg h.be.size) fun hq => hq.elim (fun e => by have:=h.b.ow g e;omega) fun e => by omega).trans (h.be.block g hg)⟩
end
end Go.Proofs.YtfbcdmhmpfijjaaGreatDoor
namespace Go.Proofs.YtfbcdmhmpfijjaaGreatDoor
open Go Go.RowKit
def StepOk (f:Nat) (lo hi:Int):Prop :=
 ∀ (w:World) (pb:Nat) (L:Lay) (R:RLay) (s:St) (own:Nat → Lb) (C:Nat),PairAt w pb L R s own (fun _ => 0) C → ∀ (wh k a b c:Int) (la:Option Addr) (ll lc:Nat) (zs:Nat → Int),lo ≤ k → k ≤ hi →
  (Lit.int .i64 a).wf=true → (Lit.int .i64 b).wf=true → (Lit.int .i64 c).wf=true → IsRowI w la ll lc zs → ll ≤ 400 → IntsOut L R (.slice la ll lc) → s.acts + 2000 ≤ 1000000000000 → C + 1000 ≤ 900000 → ∀ Q:Ending → World → Prop,
  (∀ w' s' own',PairAt w' pb L R s' own' (fun _ => 0) (C + 100) → s'.n=s.n → s'.acts ≤ s.acts + 2 → PFr L R w own w' own' → Q (.returned (.bool true)) w') →
  Calls Tryz.prog f #[.pointer (some ⟨pb,0,none⟩),opVal wh k a b c la ll lc] w Q
theorem turned_ok:StepOk 43 1 7:=fun w pb L R s own C h wh k a b c la ll lc zs h1 h2 ha hb _ hz hl hv hac _ Q hQ =>
 turned_any w pb L R s own _ C h wh k a b c h1 h2 la ll lc zs ha hb hz (by omega) hv (by omega) Q fun w' s' hp hn ha2 hf => hQ w' s' own (hp.mono (by omega)) hn ha2 hf
theorem look18_ok:StepOk 13 18 18:=fun w pb L R s own C h wh k a b c la ll lc zs h1 h2 _ _ _ _ _ _ _ _ Q hQ => by
 obtain rfl:k=18:=by omega
 refine (looked18 w pb L R s own _ C h wh a b c la ll lc).mono ?_
 rintro e w' ⟨rfl,hs⟩
 exact hQ w' s own ((h.still hs).mono (by omega)) rfl (by omega) (PFr.of hs)
theorem look19_ok:StepOk 13 19 20:=fun w pb L R s own C h wh k a b c la ll lc zs h1 h2 _ _ _ _ _ _ _ hC Q hQ => by
 by_cases hk:k=19
 ·subst hk
  refine (looked19 w pb L R s own _ C h wh a b c la ll lc).mono ?_
  rintro e w' ⟨rfl,hs⟩
  exact hQ w' s own ((h.still hs).mono (by omega)) rfl (by omega) (PFr.of hs)
 ·obtain rfl:k=20:=by omega
  refine (looked20 w pb L R s own _ C h (by omega) wh a b c la ll lc).mono ?_
  rintro e w' ⟨rfl,own',hp,hf⟩
  exact hQ w' s own' (hp.mono (by omega)) rfl (by omega) hf
section
variable {w0 w w' w2:World} {pa pb:Nat} {LA LB:Lay} {RA RB:RLay} {sA sB s':St} {oA oB o' o2:Nat → Lb} {C C':Nat} (h:Two w0 w pa pb LA LB RA RB sA sB oA oB C)
include h
theorem Two.still (hs:Still w w'):Two w0 w' pa pb LA LB RA RB sA sB oA oB C:=h.left (Nat.le_refl _) (h.a.still hs) (PFr.of hs)
theorem Two.mono (hc:C ≤ C'):Two w0 w pa pb LA LB RA RB sA sB oA oB C':=⟨h.a.mono hc,h.b.mono hc,h.la,h.ab,h.pos,h.xa,h.be⟩
theorem Two.bstay (hf:PFr LA RA w oA w' o'):PairAt w' pb LB RB sB oB (fun _ => 0) C:=by
 have a1:=h.a.rlo
 have a2:=h.b.rlo
 have hlA:=h.a.lr
 have hlB:=h.b.lr
 have hla:=h.la
 have hab:=h.ab
 have hpos:=h.pos
 have hbow:=h.b.ow
 refine h.b.other hf (by omega) (fun _ => .inr (by omega)) (fun g hg => ⟨h.xb hg,?_⟩) (fun g hg => ⟨?_,(h.xa g hg).2⟩)
 ·have:=hbow g hg;omega
 ·have:=h.a.ow g hg;omega
theorem Two.abe (hf:PFr LA RA w oA w' o'):Below w0.heap.size w0 w':=by
 have a1:=h.a.rlo
 have hla:=h.la
 have hlA:=h.a.lr
 exact ⟨hf.kf.os.trans h.be.os,hf.kf.tape.trans h.be.tape,hf.kf.output.trans h.be.output,Nat.le_trans h.be.size hf.kf.size,fun g hg => (hf.kf.block g (Nat.lt_of_lt_of_le hg h.be.size) fun hq => hq.elim (fun e => by have:=h.a.ow g e;omega) fun e => by omega).trans (h.be.block g hg)⟩
theorem Two.bbe (hb:Below w0.heap.size w0 w') (hf:PFr LB RB w' oB w2 o2):Below w0.heap.size w0 w2:=by
 have a1:=h.a.rlo
 have a2:=h.b.rlo
 have hla:=h.la
 have hab:=h.ab
 have hlA:=h.a.lr
 have hlB:=h.b.lr
 exact ⟨hf.kf.os.trans hb.os,hf.kf.tape.trans hb.tape,hf.kf.output.trans hb.output,Nat.le_trans hb.size hf.kf.size,fun g hg => (hf.kf.block g (Nat.lt_of_lt_of_le hg hb.size) fun hq => hq.elim (fun e => by have:=h.b.ow g e;omega) fun e => by omega).trans (hb.block g hg)⟩
theorem Two.step {f:Nat} {lo hi:Int} (hok:StepOk f lo hi) (r:Bool) (wh k a b c:Int) (la:Option Addr) (ll lc:Nat) (zs:Nat → Int) (h1:lo ≤ k) (h2:k ≤ hi) (ha:(Lit.int .i64 a).wf=true) (hb:(Lit.int .i64 b).wf=true) (hc:(Lit.int .i64 c).wf=true) (hz:IsRowI w la ll lc zs) (hl:ll ≤ 400) (hv:∀ y,la=some y → 0 < ll → y.block < w0.heap.size) (hA:sA.acts + 2000 ≤ 1000000000000) (hB:sB.acts + 2000 ≤ 1000000000000) (hC:C + 1000 ≤ 900000) :
 Calls Tryz.prog f #[.pointer (some ⟨if r then pb else pa,0,none⟩),opVal wh k a b c la ll lc] w fun e w' => e=.returned (.bool true) ∧ ∃ sA' sB' oA' oB',Two w0 w' pa pb LA LB RA RB sA' sB' oA' oB' (C + 100) ∧ sA'.acts ≤ sA.acts + 2 ∧ sB'.acts ≤ sB.acts + 2:=by
 have a1:=h.a.rlo
 have a2:=h.b.rlo
 have hla:=h.la
 have hab:=h.ab
 have hlA:=h.a.lr
 cases r with
 | false => exact hok w pa LA RA sA oA C h.a wh k a b c la ll lc zs h1 h2 ha hb hc hz hl (fun g o n d e hn => .inl (by injection e with e1 e2;have:=hv _ e1 (by omega);exact Nat.lt_of_lt_of_le this hla)) hA hC _ fun w' s' own' hp hn hac hf => ⟨rfl,s',sB,own',oB,h.left (by omega) hp hf,hac,by omega⟩
 | true => exact hok w pb LB RB sB oB C h.b wh k a b c la ll lc zs h1 h2 ha hb hc hz hl (fun g o n d e hn => .inl (by injection e with e1 e2;have:=hv _ e1 (by omega);have:g < w0.heap.size:=this;omega)) hB hC _ fun w' s' own' hp hn hac hf => ⟨rfl,sA,s',oA,own',h.right (by omega) hp hf,by omega,hac⟩
end
end Go.Proofs.YtfbcdmhmpfijjaaGreatDoor
namespace Go.Proofs.YtfbcdmhmpfijjaaGreatDoor
open Go Go.RowKit
set_option maxRecDepth 100000 in
set_option maxHeartbeats 6400000 in
theorem plays_any (lo hi:Int) (hlook:StepOk 13 lo hi) (n m:Int) (w:World) (a:Option Addr) (len cap:Nat) (ops:Nat → OpV) (hops:OpsB w w.heap.size a len ops) (hT:Tab w) (h0:0 < w.heap.size) :
 Calls Tryz.prog 15 #[.int .i64 n,.int .i64 m,.slice a len cap,.int .i64 lo,.int .i64 hi] w fun e w' => e=.returned (.bool true) ∧ Below w.heap.size w w':=by
 have HLK:=Lib.hid hlook
 have HO:=Lib.hid hops
 have HT:=Lib.hid hT
 have H0:=Lib.hid h0
 have hle:(len:Int) ≤ 9223372036854775807:=by have:=hops.1;omega
 have HAL:Hid (∀ W,Still w W → Calls Tryz.prog 12 #[] W fun e w' => e=.returned (.bool true) ∧ Still W w'):=Lib.hid fun W hW => alive_any W (hT.only hW h0) (by have:=hW.size;omega)
 clear hlook hops hT h0
 go_enter Tryz.func15,Tryz.ntmps15
 go_wp2_with fail
 refine (HAL.out w (Only.refl _ _ _)).mono ?_
 rintro e w1 ⟨rfl,hs1⟩
 have HS1:=Lib.hid hs1
 clear hs1
 go_wp2_with fail
 have hob1:=HO.out.below HS1.out.below
 have hsm:=small_any a len cap ops w1 ⟨hob1.1,fun i hi => by obtain ⟨x,e1,_,e2,_⟩:=hob1.2 i hi;exact ⟨x,e1,e2⟩⟩
 have HSM:=Lib.hid hsm
 clear hsm hob1
 obtain ⟨sb,hsb⟩:∃ b,smallB ops len=b:=⟨_,rfl⟩
 rw [hsb] at HSM
 refine HSM.out.mono ?_
 rintro e w1' ⟨rfl,rfl⟩
 cases sb with
 | false =>
  clear hsb
  go_wp2_with fail
  refine (HAL.out w1 HS1.out).mono ?_
  rintro e w2 ⟨rfl,hs2⟩
  have HS2:=Lib.hid (Still.trans HS1.out hs2)
  clear hs2
  go_wp2_with fail
  go_ret
  exact ⟨rfl,HS2.out.below⟩
 | true =>
  have HLL:=Lib.hid (smallB_ll hsb)
  clear hsb
  have HM1:=Lib.hid (fun Q h1 h2 => made_any n w1 (HT.out.only HS1.out H0.out) (by have:=HS1.out.size;have:=H0.out;omega) Q h1 h2)
  go_wp2_with fail
  refine HM1.out _ (fun w2 hs2 => ?_) (fun n1 w2 LA RA pa hn1 hn2 hn3 hlo hlr hrp hsp hrf hpb hs2 => ?_)
  ·have HS2:=Lib.hid (Still.trans HS1.out hs2)
   clear hs2 HM1
   have HM2:=Lib.hid (fun Q h1 h2 => made_any m w2 (HT.out.only HS2.out H0.out) (by have:=HS2.out.size;have:=H0.out;omega) Q h1 h2)
   go_wp2_with fail
   refine HM2.out _ (fun w3 hs3 => ?_) (fun n1 w3 LA RA pa hn1 hn2 hn3 hlo hlr hrp hsp hrf hpb hs3 => ?_)
   all_goals
    have HS3:=Lib.hid (Still.trans HS2.out hs3)
    clear hs3 HM2
    go_wp2_with fail
    go_ret
    exact ⟨rfl,HS3.out.below⟩
  ·have hp:=pair_new hn2 hn3 hlr hrp hsp hrf hpb
   have HP:=Lib.hid hp
   have HS2:=Lib.hid (Still.trans HS1.out hs2)
   have HLO:=Lib.hid (And.intro hlo (And.intro hp.rlo hlr))
   clear hs2 HM1 hp hsp hrf hpb
   have HM2:=Lib.hid (fun Q h1 h2 => made_any m w2 (HT.out.only HS2.out H0.out) (by have:=HS2.out.size;have:=H0.out;omega) Q h1 h2)
   go_wp2_with fail
   refine HM2.out _ (fun w3 hs3 => ?_) (fun m1 w3 LB RB pb hm1 hm2 hm3 hlo2 hlr2 hrp2 hsp2 hrf2 hpb2 hs3 => ?_)
   ·have HS3:=Lib.hid (Still.trans HS2.out hs3)
    clear hs3 HM2
    go_wp2_with fail
    go_ret
    exact ⟨rfl,HS3.out.below⟩
   ·have hp2:=pair_new hm2 hm3 hlr2 hrp2 hsp2 hrf2 hpb2
    have HS3:=Lib.hid (Still.trans HS2.out hs3)
    have hpa:=HP.out.lt
    have hl0:=HLO.out
    have hs1z:=HS1.out.size
    have htop:=HP.out.rf.top
    have htwo:Two w w3 pa pb LA LB RA RB (St.new n1) (St.new m1) (fun g => if g=pa then Lpb else Lno) (fun g => if g=pb then Lpb else Lno) 0:=⟨HP.out.still hs3,hp2,by omega,by omega,H0.out,fun g hg => by
     have e:g=pa:=by
      by_cases e:g=pa
      ·exact e
      ·rw [if_neg e] at hg;exact absurd rfl hg
     subst e
     have hb:=hp2.rlo
     exact ⟨if_neg (by omega),.inl (by omega)⟩,HS3.out.below⟩
    have HTW:=Lib.hid htwo
    clear hs3 HM2 hp2 htwo hpa hl0 hs1z htop hlo2 hlr2 hrp2 hsp2 hrf2 hpb2
    go_wp2_with fail
    go_loopw [15] (fun y W => ∃ (i:Nat) (sA sB:St) (oA oB:Nat → Lb),y=.int .i64 (i:Int) ∧ i ≤ len ∧ i ≤ 120 ∧ Two w W pa pb LA LB RA RB sA sB oA oB (100 * i) ∧ sA.acts ≤ 2 * i ∧ sB.acts ≤ 2 * i) (fun y _ => len + 1 - (intOf y).toNat)
    case atStart => exact ⟨0,_,_,_,_,rfl,Nat.zero_le _,Nat.zero_le _,HTW.out,Nat.le_refl 0,Nat.le_refl 0⟩
    case round =>
     obtain ⟨i,sA,sB,oA,oB,rfl,hil,hi2,htw,hA,hB⟩:=hrel
     have HTW2:=Lib.hid htw
     have hi0:(0:Int) ≤ (i:Int):=by omega
     clear htw
     by_cases hgo:i < len ∧ i < 120
     ·have g1:decide ((i:Int) < (len:Int))=true:=decide_eq_true (by omega)
      have g2:decide ((i:Int) < 120)=true:=decide_eq_true (by omega)
      have g4:(i:Int) < (len:Int):=by omega
      obtain ⟨x,rfl,hxb,⟨⟨who,o0⟩,o1,o2,o3,o4,o5,w1',w2',w3',hrow⟩,hla⟩:=(HO.out.below HTW2.out.be).2 i hgo.1
      have HROW:=Lib.hid hrow
      have HLA:=Lib.hid hla
      have HLI:=Lib.hid (HLL.out i hgo.1 hgo.2)
      obtain ⟨⟨k,A,B,C,la,ll,lc,zs⟩,hop⟩:∃ o,ops i=o:=⟨_,rfl⟩
      rw [hop] at o1 o2 o3 o4 o5 w1' w2' w3' HROW HLA HLI
      clear hop hrow hla
      generalize hxx:x.add (i * 6)=xa at *
      go_upto_region 12 with fail
      have hst1:Still wr (wr.alloc (opObj who k A B C la ll lc)):=(Only.refl _ _ wr).alloc _
      have hbx:=heap_alloc_new wr (opObj who k A B C la ll lc)
      generalize hbw:wr.heap.size=bx at *
      generalize wr.alloc (opObj who k A B C la ll lc)=wq at *
      have x0:=cell_of (v:=.int .i64 who) hbx 0 rfl
      have x1:=cell_of (v:=.int .i64 k) hbx 1 rfl
      have x2:=cell_of (v:=.int .i64 A) hbx 2 rfl
      have x3:=cell_of (v:=.int .i64 B) hbx 3 rfl
      have x4:=cell_of (v:=.int .i64 C) hbx 4 rfl
      have x5:=cell_of (v:=.slice la ll lc) hbx 5 rfl
      have lbx:=(Array.getElem?_eq_some_iff.1 hbx).1
      go_upto_if 73 with fail
      go_cut [17] from 73 to 74 (fun s17 wx => (∃ r:Bool,s17=.pointer (some ⟨if r then pb else pa,0,none⟩)) ∧ wx=wq)
      case first =>
       go_wp2_with fail
       all_goals
        go_meet
        first
         | exact ⟨⟨false,rfl⟩,rfl⟩
         | exact ⟨⟨true,rfl⟩,rfl⟩
      case rest =>
       obtain ⟨⟨r,rfl⟩,rfl⟩:=hcut
       have htwq:=HTW2.out.still hst1
       have hbe:=HTW2.out.be.size
       have hrow2:=HROW.out.below hst1.below (fun y e h => Nat.lt_of_lt_of_le (HLA.out y e h) hbe)
       have hLI:=HLI.out
       have HS1:=Lib.hid (fun h1 h2 => htwq.step turned_ok r who k A B C la ll lc zs h1 h2 w1' w2' w3' hrow2 hLI HLA.out (by omega) (by omega) (by omega))
       have HS2:=Lib.hid (fun h1 h2 => htwq.step HLK.out r who k A B C la ll lc zs h1 h2 w1' w2' w3' hrow2 hLI HLA.out (by omega) (by omega) (by omega))
       have HTQ:=Lib.hid htwq
       have hpp:(if r then pb else pa) < wc.heap.size:=by
        have:=htwq.a.lt
        have:=htwq.b.lt
        cases r <;> simp <;> omega
       generalize (if r then pb else pa)=pp at *
       clear htwq hrow2 hst1
       by_cases hk1:1 ≤ k ∧ k ≤ 7
       ·have c1:decide (1 ≤ k)=true:=decide_eq_true hk1.1
        have c2:decide (k ≤ 7)=true:=decide_eq_true hk1.2
        have HC:=Lib.hid (HS1.out hk1.1 hk1.2)
        clear HS1 HS2 hk1
        go_wp2_with fail
        refine HC.out.mono ?_
        rintro e w6 ⟨rfl,sA',sB',oA',oB',ht6,hA6,hB6⟩
        have H6:=Lib.hid ht6
        clear ht6 HC
        go_wp2_with fail
        go_roundw
        case rel => exact ⟨i + 1,sA',sB',oA',oB',by go_num,hgo.1,hgo.2,H6.out.mono (by omega),by omega,by omega⟩
        case measure => simp [intOf];omega
       ·have hcs:(decide (1 ≤ k)=false) ∨ (decide (1 ≤ k)=true ∧ decide (k ≤ 7)=false):=by
         by_cases h:1 ≤ k
         ·exact .inr ⟨decide_eq_true h,decide_eq_false (by omega)⟩
         ·exact .inl (decide_eq_false h)
        by_cases hk2:lo ≤ k ∧ k ≤ hi
        ·have d1:decide (lo ≤ k)=true:=decide_eq_true hk2.1
         have d2:decide (k ≤ hi)=true:=decide_eq_true hk2.2
         have HC:=Lib.hid (HS2.out hk2.1 hk2.2)
         clear HS1 HS2 hk1 hk2
         rcases hcs with c1 | ⟨c1,c2⟩
         all_goals
          go_wp2_with fail
          refine HC.out.mono ?_
          rintro e w6 ⟨rfl,sA',sB',oA',oB',ht6,hA6,hB6⟩
          have H6:=Lib.hid ht6
          clear ht6 HC
          go_wp2_with fail
          go_roundw
          case rel => exact ⟨i + 1,sA',sB',oA',oB',by go_num,hgo.1,hgo.2,H6.out.mono (by omega),by omega,by omega⟩
          case measure => simp [intOf];omega
        ·have hds:(decide (lo ≤ k)=false) ∨ (decide (lo ≤ k)=true ∧ decide (k ≤ hi)=false):=by
          by_cases h:lo ≤ k
          ·exact .inr ⟨decide_eq_true h,decide_eq_false (by omega)⟩
          ·exact .inl (decide_eq_false h)
         clear HS1 HS2 hk1 hk2
         rcases hcs with c1 | ⟨c1,c2⟩ <;> rcases hds with d1 | ⟨d1,d2⟩
         all_goals
          go_wp2_with fail
          go_roundw
          case rel => exact ⟨i + 1,sA,sB,oA,oB,by go_num,hgo.1,hgo.2,HTQ.out.mono (by omega),by omega,by omega⟩
          case measure => simp [intOf];omega
     ·have htw:=HTW2.out
      have HWA:=Lib.hid (whole_any wr pa LA RA sA oA (100 * i) htw.a (by omega))
      have hpa:=htw.a.lt
      have hgs:((len:Int) ≤ (i:Int)) ∨ ((i:Int) < (len:Int) ∧ i=120):=by omega
      clear htw hgo
      rcases hgs with g1 | ⟨g1,rfl⟩
      all_goals
       go_wp2_with fail
       refine HWA.out.mono ?_
       rintro e w4 ⟨rfl,oA',hfA⟩
       have hp4:=HTW2.out.bstay hfA
       have HB4:=Lib.hid (HTW2.out.abe hfA)
       have HWB:=Lib.hid (whole_any w4 pb LB RB sB oB _ hp4 (by omega))
       have hpb4:=hp4.lt
       clear hfA hp4 HWA hpa
       go_wp2_with fail
       refine HWB.out.mono ?_
       rintro e w5 ⟨rfl,oB',hfB⟩
       have HE:=Lib.hid (HTW2.out.bbe HB4.out hfB)
       clear hfB HWB
       go_wp2_with fail
       go_ret
       exact ⟨rfl,HE.out⟩
end Go.Proofs.YtfbcdmhmpfijjaaGreatDoor
