/-
  The walk of keep.blocks.
-/
import Derived.Laws.Rows
import Derived.Test.YtfbcdmhmpfijjaaGreatDoorQ27
set_option linter.unusedVariables false
set_option linter.unusedSimpArgs false
set_option linter.unusedSectionVars false
namespace Go.Proofs.YtfbcdmhmpfijjaaGreatDoor
open Go Go.RowKit
structure KeepV (W:World) (pb:Nat) (h0 h1:Value) (own:Nat → Lb) (qf:Nat → Nat) (C:Nat) (v:Nat → Value) (ls:Nat → List Value):Prop where
 hd:KHead W pb h0 h1 own v ls
 fc:KFacts W own ls qf C
 mny:(ls 0).length + (ls 4).length ≤ 32
 pgs:(ls 2).length=(ls 0).length
def KeepAt (W:World) (pb:Nat) (h0 h1:Value) (own:Nat → Lb) (qf:Nat → Nat) (C:Nat):Prop:=∃ v ls,KeepV W pb h0 h1 own qf C v ls
theorem KeepAt.still {W W':World} {pb:Nat} {h0 h1:Value} {own:Nat → Lb} {qf:Nat → Nat} {C:Nat} (h:KeepAt W pb h0 h1 own qf C) (hs:Still W W'):KeepAt W' pb h0 h1 own qf C:=by
 obtain ⟨v,ls,h1,h2,h3,h4⟩:=h
 exact ⟨v,ls,h1.still hs,h2.still hs,h3,h4⟩
theorem KeepAt.mono {W:World} {pb:Nat} {h0 h1:Value} {own:Nat → Lb} {qf:Nat → Nat} {C C':Nat} (h:KeepAt W pb h0 h1 own qf C) (hc:C ≤ C'):KeepAt W pb h0 h1 own qf C':=by
 obtain ⟨v,ls,h1,h2,h3,h4⟩:=h
 exact ⟨v,ls,h1,h2.mono hc,h3,h4⟩
structure KFB (B:Nat) (W:World) (own:Nat → Lb) (W':World) (own':Nat → Lb):Prop where
 kf:Kf W (fun g => own g ≠ Lno ∨ B ≤ g) W'
 lb:∀ g,own' g ≠ Lno → own g ≠ Lno ∨ B ≤ g
theorem KFB.refl (B:Nat) (W:World) (own:Nat → Lb):KFB B W own W own:=⟨Kf.refl _ _,fun _ h => .inl h⟩
theorem KFB.trans {B:Nat} {W W1 W2:World} {own own1 own2:Nat → Lb} (h:KFB B W own W1 own1) (k:KFB B W1 own1 W2 own2):KFB B W own W2 own2 :=
 ⟨h.kf.trans k.kf fun g _ hq => hq.elim (h.lb g) .inr,fun g hg => (k.lb g hg).elim (h.lb g) .inr⟩
theorem KFB.still {B:Nat} {W W1 W2:World} {own own1:Nat → Lb} (h:KFB B W own W1 own1) (k:Still W1 W2):KFB B W own W2 own1:=⟨h.kf.still k,h.lb⟩
theorem KFrm.kfb {B:Nat} {W W':World} {own own':Nat → Lb} {l:Option Nat} (h:KFrm W own l W' own') (hl:∀ g,l=some g → own g ≠ Lno ∨ B ≤ g) (hB:B ≤ W.heap.size):KFB B W own W' own' :=
 ⟨h.kf.mono fun g _ hq => hq.elim .inl (hl g),fun g hg => (h.lb g hg).elim .inl fun e => e.elim (hl g) fun e => .inr (Nat.le_trans hB e)⟩
structure QIn (W:World) (own:Nat → Lb) (B k:Nat) (l want:Value) (n:Nat) (f:Nat → Nat → Int):Prop where
 le:n ≤ 300000
 ex:∃ xs,W.ownsRow 0 (eT k) (ek k) l n xs ∧ W.ownsRow 0 (eT k) (ek k) want n xs ∧ ∀ i,i < n → ∀ d,d < ek k → xs[i * ek k + d]?=some (.int .i64 (f i d))
 ll:∀ g,l.ownBlock=some g → own g=Lno ∧ B ≤ g
 lw:∀ g,want.ownBlock=some g → own g=Lno ∧ B ≤ g
 sep:∀ g,l.ownBlock=some g → want.ownBlock ≠ some g
section
variable {W:World} {own:Nat → Lb} {B k:Nat} {l want:Value} {n:Nat} {f:Nat → Nat → Int}
theorem QIn.lts (h:QIn W own B k l want n f):(∀ g,l.ownBlock=some g → g < W.heap.size) ∧ ∀ g,want.ownBlock=some g → g < W.heap.size:=by
 obtain ⟨xs,h1,h2,_⟩:=h.ex
 exact ⟨fun g hg => (h1.lt g hg).2,fun g hg => (h2.lt g hg).2⟩
theorem QIn.same {W':World} {own':Nat → Lb} (h:QIn W own B k l want n f) (hb:∀ g,g < W.heap.size → (l.ownBlock=some g ∨ want.ownBlock=some g) → own' g=own g ∧ W'.heap[g]?=W.heap[g]?):QIn W' own' B k l want n f:=by
 obtain ⟨xs,h1,h2,h3⟩:=h.ex
 refine ⟨h.le,⟨xs,ownsRow_of_block h1 fun g hg => (hb g (h1.lt g hg).2 (.inl hg)).2,ownsRow_of_block h2 fun g hg => (hb g (h2.lt g hg).2 (.inr hg)).2,h3⟩,fun g hg => ?_,fun g hg => ?_,h.sep⟩
 ·rw [(hb g (h1.lt g hg).2 (.inl hg)).1];exact h.ll g hg
 ·rw [(hb g (h2.lt g hg).2 (.inr hg)).1];exact h.lw g hg
theorem QIn.still {W':World} (h:QIn W own B k l want n f) (hs:Still W W'):QIn W' own B k l want n f:=h.same fun g hg _ => ⟨rfl,hs.block g hg (.inl hg)⟩
theorem QIn.rows (h:QIn W own B k l want n f):RowAt W l n (ek k) f ∧ RowAt W want n (ek k) f:=by
 obtain ⟨xs,h1,h2,h3⟩:=h.ex
 exact ⟨row_at h1 h3,row_at h2 h3⟩
theorem QIn.spare (h:QIn W own B k l want n f) (qf:Nat → Nat):Spare W own qf k l:=fun g hg => ⟨h.lts.1 g hg,.inl (h.ll g hg).1⟩
theorem QIn.frm {W':World} {own':Nat → Lb} (h:QIn W own B k l want n f) {o:Option Nat} (hf:KFrm W own o W' own') (ho:∀ g,o=some g → l.ownBlock ≠ some g ∧ want.ownBlock ≠ some g):QIn W' own' B k l want n f:=by
 refine h.same fun g hg hlw => ?_
 have hno:own g=Lno:=hlw.elim (fun e => (h.ll g e).1) (fun e => (h.lw g e).1)
 have hne:o ≠ some g:=fun e => hlw.elim (ho g e).1 (ho g e).2
 refine ⟨?_,hf.kf.block g hg fun hq => hq.elim (fun e => e hno) hne⟩
 rw [hno]
 by_cases e:own' g=Lno
 ·exact e
 ·rcases hf.lb g e with e2 | e2 | e2
  ·exact absurd hno e2
  ·exact absurd e2 hne
  ·omega
theorem QIn.ne (h:QIn W own B k l want n f) {k' n':Nat} {l' want':Value} {f':Nat → Nat → Int} (h':QIn W own B k' l' want' n' f') (ht:eT k ≠ eT k') {g:Nat} (hg:l.ownBlock=some g ∨ want.ownBlock=some g):l'.ownBlock ≠ some g ∧ want'.ownBlock ≠ some g:=by
 obtain ⟨xs,h1,h2,_⟩:=h.ex
 obtain ⟨xs',h1',h2',_⟩:=h'.ex
 have hb:∀ {v:Value} {m:Nat} {ys:List Value} {T:TypeId} {z:Nat},W.ownsRow 0 T z v m ys → v.ownBlock=some g → ∃ cur,W.heap[g]?=some (.cells cur T (0,0)):=fun hv e => by
  rcases hv.2 with ⟨rfl,_⟩ | ⟨g',cap,cur,rfl,_,hg',_⟩
  ·cases e
  ·injection e with e
   change g'=g at e
   subst e
   exact ⟨cur,hg'⟩
 obtain ⟨c1,e1⟩:∃ cur,W.heap[g]?=some (.cells cur (eT k) (0,0)):=hg.elim (hb h1) (hb h2)
 refine ⟨fun e => ?_,fun e => ?_⟩
 ·obtain ⟨c2,e2⟩:=hb h1' e
  rw [e1] at e2
  injection e2 with e2
  injection e2 with _ e2
  exact ht e2
 ·obtain ⟨c2,e2⟩:=hb h2' e
  rw [e1] at e2
  injection e2 with e2
  injection e2 with _ e2
  exact ht e2
theorem QIn.lab (h:QIn W own B k l want n f) {pb:Nat} {h0 h1:Value} {v:Nat → Value} {ls:Nat → List Value} {qf:Nat → Nat} {C:Nat} (hd:KHead W pb h0 h1 own v ls) (fc:KFacts W own ls qf C) (i:Nat) :
 KHead W pb h0 h1 (relab (relab own l (Lq k i)) want (Lw k i)) v ls ∧ KFacts W (relab (relab own l (Lq k i)) want (Lw k i)) ls qf C ∧ (∃ xs,Quiet W (relab (relab own l (Lq k i)) want (Lw k i)) k i l want n f xs) ∧
  (∀ g,l.ownBlock ≠ some g → want.ownBlock ≠ some g → relab (relab own l (Lq k i)) want (Lw k i) g=own g) ∧ ∀ g,relab (relab own l (Lq k i)) want (Lw k i) g ≠ Lno → own g ≠ Lno ∨ B ≤ g:=by
 have hl:∀ g,l.ownBlock=some g → own g=Lno ∧ g < W.heap.size:=fun g hg => ⟨(h.ll g hg).1,h.lts.1 g hg⟩
 have hw:∀ g,want.ownBlock=some g → relab own l (Lq k i) g=Lno ∧ g < W.heap.size:=fun g hg => ⟨(own_relab fun e => h.sep g e hg).trans (h.lw g hg).1,h.lts.2 g hg⟩
 have hsame:∀ g,l.ownBlock ≠ some g → want.ownBlock ≠ some g → relab (relab own l (Lq k i)) want (Lw k i) g=own g:=fun g a b => (own_relab b).trans (own_relab a)
 refine ⟨(hd.lab hl).lab hw,fc.same fun g _ h3 => ⟨hsame g (fun e => ?_) (fun e => ?_),rfl⟩,?_,hsame,fun g hg => ?_⟩
 ·rw [(h.ll g e).1] at h3;exact absurd h3 (by decide)
 ·rw [(h.lw g e).1] at h3;exact absurd h3 (by decide)
 ·obtain ⟨xs,x1,x2,x3⟩:=h.ex
  exact ⟨xs,h.le,x1,x2,x3,fun g hg => (own_relab fun e => h.sep g hg e).trans (own_relab_at hg),fun g hg => own_relab_at hg⟩
 ·by_cases e1:l.ownBlock=some g
  ·exact .inr (h.ll g e1).2
  ·by_cases e2:want.ownBlock=some g
   ·exact .inr (h.lw g e2).2
   ·rw [hsame g e1 e2] at hg;exact .inl hg
end
structure Pq (pb:Nat) (h0 h1:Value) (W0:World) (own0:Nat → Lb) (W:World) (own:Nat → Lb) (v:Nat → Value) (ls:Nat → List Value):Prop where
 hd:KHead W pb h0 h1 own v ls
 lb:∀ g,g < W0.heap.size → own g=own0 g
 kf:Kf W0 (fun g => (own0 g).1=1 ∨ (own0 g).1=2) W
section
variable {pb:Nat} {h0 h1:Value} {W0:World} {own0:Nat → Lb} {W:World} {own:Nat → Lb} {v:Nat → Value} {ls:Nat → List Value} (h:Pq pb h0 h1 W0 own0 W own v ls)
theorem Pq.start (hd:KHead W pb h0 h1 own v ls):Pq pb h0 h1 W own W own v ls:=⟨hd,fun _ _ => rfl,Kf.refl _ _⟩
include h
theorem Pq.still {W':World} (hs:Still W W'):Pq pb h0 h1 W0 own0 W' own v ls:=⟨h.hd.still hs,h.lb,h.kf.still hs⟩
theorem Pq.step {j:Nat} {u v':Value} {W1:World} (p1:KHead W1 pb h0 h1 (relab own v' (Lhd j)) (updF v j v') (updF ls j (ls j ++ [u]))) (p2:Kf W (fun g => own g=Lhd j ∨ g=pb) W1) (p3:∀ g,g < W.heap.size → relab own v' (Lhd j) g=own g) :
 Pq pb h0 h1 W0 own0 W1 (relab own v' (Lhd j)) (updF v j v') (updF ls j (ls j ++ [u])):=by
 refine ⟨p1,fun g hg => (p3 g (Nat.lt_of_lt_of_le hg h.kf.size)).trans (h.lb g hg),h.kf.trans p2 fun g hg hq => ?_⟩
 rw [← h.lb g hg]
 rcases hq with e | e
 ·exact .inr (by rw [e])
 ·exact .inl (by rw [e,h.hd.opb])
theorem Pq.same {g:Nat} (hg:g < W0.heap.size) (h3:(own0 g).1 ≠ 1 ∧ (own0 g).1 ≠ 2):own g=own0 g ∧ W.heap[g]?=W0.heap[g]? :=
 ⟨h.lb g hg,h.kf.block g hg fun e => e.elim h3.1 h3.2⟩
theorem Pq.facts {ls0:Nat → List Value} {qf:Nat → Nat} {C:Nat} (f:KFacts W0 own0 ls0 qf C):KFacts W own ls0 qf C :=
 f.same fun g hg h3 => h.same hg ⟨by omega,by omega⟩
theorem Pq.quiet {k i n:Nat} {a b:Value} {f:Nat → Nat → Int} {xs:List Value} (q:Quiet W0 own0 k i a b n f xs):Quiet W own k i a b n f xs :=
 q.same fun g hg e => h.same hg (by rcases e with e | e <;> rw [e] <;> simp)
theorem Pq.kfb {B:Nat} (hB:B ≤ W0.heap.size) {own1:Nat → Lb} (h1:∀ g,own0 g ≠ Lno → own1 g ≠ Lno ∨ B ≤ g):KFB B W0 own1 W own:=by
 refine ⟨h.kf.mono fun g _ e => h1 g fun e2 => ?_,fun g hg => ?_⟩
 ·rw [e2] at e;rcases e with e | e <;> cases e
 ·by_cases hgs:g < W0.heap.size
  ·rw [h.lb g hgs] at hg;exact h1 g hg
  ·exact .inr (by omega)
end
section
variable {pb:Nat} {h0 h1:Value} {own:Nat → Lb} {qf:Nat → Nat} {C:Nat}
theorem KeepV.form {W:World} {v:Nat → Value} {ls:Nat → List Value} (h:KeepV W pb h0 h1 own qf C v ls) (j:Nat) (hj:j < 12):∃ a c,v j=.slice a (ls j).length c:=own_form (h.hd.rows j hj)
set_option maxHeartbeats 800000 in
theorem many_any (W:World) (v:Nat → Value) (ls:Nat → List Value) (h:KeepV W pb h0 h1 own qf C v ls) :
 Calls Tryz.prog 73 #[.pointer (some ⟨pb,2,none⟩)] W fun e w' => e=.returned (.bool (decide (30 < (ls 0).length + (ls 4).length))) ∧ Still W w':=by
 obtain ⟨a0,c0,e0⟩:=h.form 0 (by decide)
 obtain ⟨a4,c4,e4⟩:=h.form 4 (by decide)
 have z0:W.cell? ⟨pb,2,none⟩=some (v 0):=h.hd.cell 0 (by decide)
 have z4:W.cell? ⟨pb,6,none⟩=some (v 4):=h.hd.cell 4 (by decide)
 have hm:=h.mny
 have hpl:=h.hd.lt
 rw [e0] at z0
 rw [e4] at z4
 generalize (ls 0).length=n0 at *
 generalize (ls 4).length=n4 at *
 have n0I:(n0:Int) ≤ 32:=by omega
 have n4I:(n4:Int) ≤ 32:=by omega
 have n00:(0:Int) ≤ (n0:Int):=by omega
 have n40:(0:Int) ≤ (n4:Int):=by omega
 clear e0 e4 h
 by_cases hd:30 < n0 + n4
 ·rw [decide_eq_true hd]
  have hdI:(30:Int) < (n0:Int) + (n4:Int):=by omega
  go_enter Tryz.func73,Tryz.ntmps73
  go_wp2_with fail
  go_quiet (fail)
  go_wp2_with fail
  go_ret
  exact ⟨rfl,(Only.refl _ _ _).drewN _⟩
 ·rw [decide_eq_false hd]
  have hdI:¬(30:Int) < (n0:Int) + (n4:Int):=by omega
  go_enter Tryz.func73,Tryz.ntmps73
  go_wp2_with fail
  go_quiet (fail)
  go_wp2_with fail
  go_ret
  exact ⟨by show Ending.returned (.bool (decide _))=_;rw [decide_eq_false (Int.not_lt.2 hdI)],(Only.refl _ _ _).drewN _⟩
end
end Go.Proofs.YtfbcdmhmpfijjaaGreatDoor
namespace Go.Proofs.YtfbcdmhmpfijjaaGreatDoor
open Go Go.RowKit
section
variable {pb:Nat} {h0 h1:Value} {W0:World} {own0:Nat → Lb} {W:World} {own:Nat → Lb} {v:Nat → Value} {ls:Nat → List Value}
theorem Pq.push {t T:TypeId} {z:Value} {bytes:Nat} (ht:Tryz.prog.underlying t=some (.slice T)) (hinf:(Tryz.prog.info? T).map (fun i => (i.zero,i.size,i.bytes))=some (some z,1,bytes)) (hzs:z.cells.size=1) (hby:bytes ≤ 24)
 (h:Pq pb h0 h1 W0 own0 W own v ls) {j:Nat} (hj:j < 12) (hjT:hT j=T) (hl:(ls j).length ≤ 1000000) (u:Value) (hu:u.oneCell'=true) :
 ∃ a n c W1,(Builtin.append_ #[t,t] t #[v j,.slice (some ⟨W.heap.size,0,none⟩) 1 1]).run Tryz.prog (W.alloc (.cells #[u] T))=.ok (.slice a n c) W1 ∧
  (∃ x,W1.cell? ⟨pb,2 + j,none⟩=some x) ∧ W1.frozen? ⟨pb,2 + j,none⟩=false ∧ pb < W1.heap.size ∧
  ∃ own' v',Pq pb h0 h1 W0 own0 (W1.setCell ⟨pb,2 + j,none⟩ (.slice a n c)) own' v' (updF ls j (ls j ++ [u])) ∧ (∀ i,i ≠ j → v' i=v i):=by
 obtain ⟨v',W1,r,⟨g1,g2⟩,p1,p2,p3⟩:=push_run ht hinf hzs hby h.hd hj hjT hl u hu
 obtain ⟨a,n,c,e⟩:∃ a n c,v'=.slice a n c:=by
  have:=p1.rows j hj
  rw [updF_eq] at this
  exact own_slice this
 subst e
 have hw1:W1.heap[pb]?=_:=g1.trans h.hd.head
 refine ⟨a,n,c,W1,r,⟨v j,?_⟩,frozen_of hw1 _,g2,_,_,h.step p1 p2 p3,fun i hi => updF_ne _ _ hi⟩
 have e:j=0 ∨ j=1 ∨ j=2 ∨ j=3 ∨ j=4 ∨ j=5 ∨ j=6 ∨ j=7 ∨ j=8 ∨ j=9 ∨ j=10 ∨ j=11:=by omega
 rcases e with rfl | rfl | rfl | rfl | rfl | rfl | rfl | rfl | rfl | rfl | rfl | rfl <;> exact cell_of hw1 _ rfl
end
set_option maxRecDepth 100000 in
set_option maxHeartbeats 3200000 in
theorem kblocks_any (W:World) (pb:Nat) (h0 h1:Value) (own:Nat → Lb) (qf:Nat → Nat) (C B n:Nat) (l want:Value) (f:Nat → Nat → Int) (hk:KeepAt W pb h0 h1 own qf C) (hq:QIn W own B 2 l want n f) (hB:B ≤ W.heap.size) (hC:C + 8 ≤ 900000) (q:Bool) (Q:Ending → World → Prop)
 (hQ:∀ W' own',KeepAt W' pb h0 h1 own' qf (C + 8) → KFB B W own W' own' → Q (.returned (.bool true)) W') :
 Calls Tryz.prog 30 #[.pointer (some ⟨pb,2,none⟩),l,want,.bool q] W Q:=by
 have HQ:=Lib.hid hQ
 have hr:=hq.rows
 have HSB:=Lib.hid (sameBlocks_eq W l want n f hr.1 hr.2 (by have:=hq.le;omega))
 obtain ⟨v,ls,hkv⟩:=hk
 have HK:=Lib.hid hkv
 have HI:=Lib.hid hq
 have HM:=Lib.hid (fun W' (hs:Still W W') => many_any W' v ls ⟨hkv.hd.still hs,hkv.fc.still hs,hkv.mny,hkv.pgs⟩)
 obtain ⟨la,ln,lc,hlv⟩:∃ a n c,l=.slice a n c:=by obtain ⟨xs,x1,_⟩:=hq.ex;exact own_slice x1
 obtain ⟨wa,wn,wc,hwv⟩:∃ a n c,want=.slice a n c:=by obtain ⟨xs,_,x1,_⟩:=hq.ex;exact own_slice x1
 subst hlv
 subst hwv
 obtain ⟨m,hm⟩:∃ m,decide (30 < (ls 0).length + (ls 4).length)=m:=⟨_,rfl⟩
 have HMM:=Lib.hid hm
 rw [hm] at HM
 clear hkv hq hQ hr hm
 cases m with
 | true =>
  go_enter Tryz.func30,Tryz.ntmps30
  go_wp2_with fail
  refine HSB.out.mono ?_
  rintro e w1 ⟨rfl,hs1⟩
  have HS1:=Lib.hid hs1
  clear hs1
  go_wp2_with fail
  refine (HM.out _ HS1.out).mono ?_
  rintro e w2 ⟨rfl,hs2⟩
  have HS2:=Lib.hid (Still.trans HS1.out hs2)
  clear hs2
  go_wp2_with fail
  have h:=HK.out
  exact HQ.out _ own ⟨v,ls,h.hd.still HS2.out,(h.fc.still HS2.out).mono (by omega),h.mny,h.pgs⟩ ((KFB.refl B W own).still HS2.out)
 | false =>
  have hlen:(ls 0).length + (ls 4).length ≤ 30:=by have:=HMM.out;simpa using this
  cases q with
  | false =>
   go_enter Tryz.func30,Tryz.ntmps30
   go_wp2_with fail
   refine HSB.out.mono ?_
   rintro e w1 ⟨rfl,hs1⟩
   have HS1:=Lib.hid hs1
   clear hs1
   go_wp2_with fail
   refine (HM.out _ HS1.out).mono ?_
   rintro e w2 ⟨rfl,hs2⟩
   have hs3:=Still.trans HS1.out hs2
   have hi2:=HI.out.still hs3
   obtain ⟨xs,x1,_,_⟩:=hi2.ex
   have HMB:=Lib.hid (fun Q hQ => markBlocks_any w2 pb h0 h1 own v ls qf C (HK.out.hd.still hs3) (HK.out.fc.still hs3) _ _ xs x1 hi2.le (hi2.spare _) hC Q hQ)
   have HS3:=Lib.hid hs3
   clear hs2 hs3 hi2 x1
   go_wp2_with fail
   refine HMB.out _ (fun W' own' v' ls' q1 q2 q3 q4 => ?_)
   have HF:Hid (KeepAt W' pb h0 h1 own' qf (C + 8) ∧ KFB B W own W' own'):=Lib.hid ⟨⟨v',ls',q1,q2,by rw [q4 0 (by omega),q4 4 (by omega)];exact HK.out.mny,by rw [q4 0 (by omega),q4 2 (by omega)];exact HK.out.pgs⟩,
    ((KFB.refl B W own).still HS3.out).trans (q3.kfb (fun g hg => .inr (HI.out.ll g hg).2) (Nat.le_trans hB HS3.out.size))⟩
   clear q1 q2 q3 q4 HMB
   go_wp2_with fail
   exact HQ.out _ own' HF.out.1 HF.out.2
  | true =>
   go_enter Tryz.func30,Tryz.ntmps30
   go_wp2_with fail
   refine HSB.out.mono ?_
   rintro e w1 ⟨rfl,hs1⟩
   have HS1:=Lib.hid hs1
   clear hs1
   go_wp2_with fail
   refine (HM.out _ HS1.out).mono ?_
   rintro e w2 ⟨rfl,hs2⟩
   have hs3:=Still.trans HS1.out hs2
   have hi2:=HI.out.still hs3
   obtain ⟨d1,d2,⟨xs,d3⟩,_,d5⟩:=hi2.lab (HK.out.hd.still hs3) (HK.out.fc.still hs3) (ls 4).length
   have hp0:=Pq.start d1
   obtain ⟨a4,n4,c4,W4,r4,⟨y4,z4⟩,f4,l4,own4,v4,hp4,hv4⟩:=hp0.push (t:=44) Tryz.underlying44 Tryz.infoLB rfl (by decide) (j:=4) (by decide) rfl (by omega) (.slice la ln lc) rfl
   have l5:(updF ls 4 (ls 4 ++ [.slice la ln lc]) 5).length ≤ 1000000:=by
    rw [updF_ne _ _ (by decide),show (ls 5).length=(ls 4).length from HK.out.fc.l1 2 (by decide)];omega
   obtain ⟨a5,n5,c5,W5,r5,⟨y5,z5⟩,f5,l5,own5,v5,hp5,hv5⟩:=hp4.push (t:=44) Tryz.underlying44 Tryz.infoLB rfl (by decide) (j:=5) (by decide) rfl l5 (.slice wa wn wc) rfl
   rw [hv4 5 (by decide),show (W4.setCell ⟨pb,2 + 4,none⟩ (.slice a4 n4 c4)).heap.size=W4.heap.size by simp [World.setCell]] at r5
   have HF:Hid (KeepAt (W5.setCell ⟨pb,7,none⟩ (.slice a5 n5 c5)) pb h0 h1 own5 qf (C + 8) ∧ KFB B W own (W5.setCell ⟨pb,7,none⟩ (.slice a5 n5 c5)) own5):=by
    refine Lib.hid ⟨⟨v5,_,hp5.hd,?_,?_,?_⟩,((KFB.refl B W own).still hs3).trans (hp5.kfb (Nat.le_trans hB hs3.size) d5)⟩
    ·have:=((hp5.facts d2).addq (k:=2) (by decide) (hp5.quiet d3)).mono (show C ≤ C + 8 by omega)
     rw [updF_ne _ _ (show (5:Nat) ≠ 4 by decide)]
     exact this
    ·rw [updF_ne _ _ (by decide),updF_ne _ _ (by decide),updF_ne _ _ (by decide),updF_eq,List.length_append]
     simp
     omega
    ·rw [updF_ne _ _ (by decide),updF_ne _ _ (by decide),updF_ne _ _ (by decide),updF_ne _ _ (by decide)]
     exact HK.out.pgs
   have g4:w2.cell? ⟨pb,6,none⟩=some (v 4):=d1.cell 4 (by decide)
   have gl:=d1.lt
   have f4:W4.frozen? ⟨pb,6,none⟩=false:=f4
   have f5:W5.frozen? ⟨pb,7,none⟩=false:=f5
   have z4:W4.cell? ⟨pb,6,none⟩=some y4:=z4
   have z5:W5.cell? ⟨pb,7,none⟩=some y5:=z5
   have g5:(W4.setCell ⟨pb,6,none⟩ (.slice a4 n4 c4)).cell? ⟨pb,7,none⟩=some (v 5):=by
    have:=hp4.hd.cell 5 (by decide)
    rw [hv4 5 (by decide)] at this
    exact this
   have HR4:=Lib.hid r4
   have HR5:=Lib.hid r5
   have HS3:=Lib.hid hs3
   clear hs2 hs3 hi2 d1 d2 d3 d5 hp0 hp4 hp5 r4 r5 hv4 hv5
   go_wp2_with (first | (at_builtin;refine wpList_append_eq rfl _ _ 44 rfl _ _ _ _ rfl rfl HR4.out ?_) | (at_builtin;refine wpList_append_eq rfl _ _ 44 rfl _ _ _ _ rfl rfl HR5.out ?_))
   exact HQ.out _ own5 HF.out.1 HF.out.2
end Go.Proofs.YtfbcdmhmpfijjaaGreatDoor
