/-
  The lists that a pair keeps: a list is marked, and grown.
-/
import Derived.Laws.Rows
import Derived.Test.YtfbcdmhmpfijjaaGreatDoorQ25
set_option linter.unusedVariables false
set_option linter.unusedSimpArgs false
set_option linter.unusedSectionVars false
namespace Go.Proofs.YtfbcdmhmpfijjaaGreatDoor
open Go Go.RowKit
abbrev nilV:Value:=.slice none 0 0
structure Quiet (W:World) (own:Nat → Lb) (k i:Nat) (a b:Value) (n:Nat) (f:Nat → Nat → Int) (xs:List Value):Prop where
 le:n ≤ 300000
 ra:W.ownsRow 0 (eT k) (ek k) a n xs
 rb:W.ownsRow 0 (eT k) (ek k) b n xs
 hx:∀ i,i < n → ∀ d,d < ek k → xs[i * ek k + d]?=some (.int .i64 (f i d))
 la:∀ g,a.ownBlock=some g → own g=Lq k i
 lb:∀ g,b.ownBlock=some g → own g=Lw k i
structure Full (W:World) (own:Nat → Lb) (k:Nat) (a:Value) (m:Int):Prop where
 mkd:Mkd W (eT k) (ek k) (ed k) a m
 la:∀ g,a.ownBlock=some g → own g=Lf k m
structure KFacts (W:World) (own:Nat → Lb) (ls:Nat → List Value) (qf:Nat → Nat) (C:Nat):Prop where
 l1:∀ k,k < 3 → (ls (2 * k + 1)).length=(ls (2 * k)).length
 sg:∀ k,k < 3 → (ls (9 + k)).length=(ls (6 + k)).length
 cap:∀ k,k < 3 → (ls (6 + k)).length ≤ C
 quiet:∀ k,k < 3 → ∀ i,qf k ≤ i → i < (ls (2 * k)).length → ∃ n f xs,Quiet W own k i ((ls (2 * k)).getD i nilV) ((ls (2 * k + 1)).getD i nilV) n f xs
 full:∀ k,k < 3 → ∀ i,i < (ls (6 + k)).length → ∃ m,(ls (9 + k))[i]?=some (.int .i64 m) ∧ Full W own k ((ls (6 + k)).getD i nilV) m ∧ 1000003 ≤ m ∧ m < 1000003 + (ls (6 + k)).length
theorem Mkd.lt {W:World} {T:TypeId} {k d0:Nat} {v:Value} {m:Int} (h:Mkd W T k d0 v m):∀ g,v.ownBlock=some g → g < W.heap.size:=fun g hg => by
 obtain ⟨n,xs,h1,_⟩:=h
 exact (h1.lt g hg).2
section
variable {W W':World} {own own':Nat → Lb}
theorem Quiet.same {k i n:Nat} {a b:Value} {f:Nat → Nat → Int} {xs:List Value} (h:Quiet W own k i a b n f xs) (hb:∀ g,g < W.heap.size → (own g=Lq k i ∨ own g=Lw k i) → own' g=own g ∧ W'.heap[g]?=W.heap[g]?):Quiet W' own' k i a b n f xs:=by
 have hla:∀ g,a.ownBlock=some g → own' g=own g ∧ W'.heap[g]?=W.heap[g]?:=fun g hg => hb g (h.ra.lt g hg).2 (.inl (h.la g hg))
 have hlb:∀ g,b.ownBlock=some g → own' g=own g ∧ W'.heap[g]?=W.heap[g]?:=fun g hg => hb g (h.rb.lt g hg).2 (.inr (h.lb g hg))
 exact ⟨h.le,ownsRow_of_block h.ra fun g hg => (hla g hg).2,ownsRow_of_block h.rb fun g hg => (hlb g hg).2,h.hx,fun g hg => (hla g hg).1.trans (h.la g hg),fun g hg => (hlb g hg).1.trans (h.lb g hg)⟩
theorem Full.same {k:Nat} {a:Value} {m:Int} (h:Full W own k a m) (hb:∀ g,g < W.heap.size → own g=Lf k m → own' g=own g ∧ W'.heap[g]?=W.heap[g]?):Full W' own' k a m:=by
 have hla:∀ g,a.ownBlock=some g → own' g=own g ∧ W'.heap[g]?=W.heap[g]?:=fun g hg => hb g (h.mkd.lt g hg) (h.la g hg)
 exact ⟨h.mkd.same fun g hg => (hla g hg).2,fun g hg => (hla g hg).1.trans (h.la g hg)⟩
theorem KFacts.same {ls:Nat → List Value} {qf:Nat → Nat} {C:Nat} (h:KFacts W own ls qf C) (hb:∀ g,g < W.heap.size → 3 ≤ (own g).1 → own' g=own g ∧ W'.heap[g]?=W.heap[g]?):KFacts W' own' ls qf C :=
 ⟨h.l1,h.sg,h.cap,fun k hk i h1 h2 => by
  obtain ⟨n,f,xs,hq⟩:=h.quiet k hk i h1 h2
  refine ⟨n,f,xs,hq.same fun g hg hl => hb g hg ?_⟩
  rcases hl with e | e <;> rw [e] <;> simp,fun k hk i hi => by
  obtain ⟨m,h1,h2,h3⟩:=h.full k hk i hi
  exact ⟨m,h1,h2.same fun g hg hl => hb g hg (by rw [hl];simp),h3⟩⟩
theorem KFacts.still {ls:Nat → List Value} {qf:Nat → Nat} {C:Nat} (h:KFacts W own ls qf C) (hs:Still W W'):KFacts W' own ls qf C :=
 h.same fun g hg _ => ⟨rfl,hs.block g hg (.inl hg)⟩
theorem KFacts.kf {ls:Nat → List Value} {qf:Nat → Nat} {C:Nat} {bl:Nat → Prop} (h:KFacts W own ls qf C) (hk:Kf W bl W') (hbl:∀ g,g < W.heap.size → 3 ≤ (own g).1 → ¬bl g ∧ own' g=own g):KFacts W' own' ls qf C :=
 h.same fun g hg hl => ⟨(hbl g hg hl).2,hk.block g hg (hbl g hg hl).1⟩
theorem KHead.kf {pb:Nat} {h0 h1:Value} {v:Nat → Value} {ls:Nat → List Value} {bl:Nat → Prop} (h:KHead W pb h0 h1 own v ls) (hk:Kf W bl W') (hbl:∀ g,g < W.heap.size → (own g).1=1 ∨ (own g).1=2 → ¬bl g ∧ own' g=own g) (hlt:∀ g,own' g ≠ Lno → g < W'.heap.size):KHead W' pb h0 h1 own' v ls:=by
 have hp:=hbl pb h.lt (.inl (by rw [h.opb]))
 have hr:∀ j,j < 12 → ∀ g,(v j).ownBlock=some g → ¬bl g ∧ own' g=own g:=fun j hj g hg => hbl g ((h.rows j hj).lt g hg).2 (.inr (by rw [h.orow j hj g hg]))
 exact ⟨(hk.block pb h.lt hp.1).trans h.head,hp.2.trans h.opb,fun j hj => ownsRow_of_block (h.rows j hj) fun g hg => hk.block g ((h.rows j hj).lt g hg).2 (hr j hj g hg).1,fun j hj g hg => (hr j hj g hg).2.trans (h.orow j hj g hg),hlt⟩
end
theorem getD_app {α:Type} (l:List α) (x d:α) {i:Nat} (h:i < l.length):(l ++ [x]).getD i d=l.getD i d:=by
 rw [List.getD_eq_getElem?_getD,List.getD_eq_getElem?_getD,List.getElem?_append_left h]
theorem getD_last {α:Type} (l:List α) (x d:α):(l ++ [x]).getD l.length d=x:=by
 rw [List.getD_eq_getElem?_getD,List.getElem?_append_right (Nat.le_refl _),Nat.sub_self];rfl
theorem updF_ne {α:Type} (f:Nat → α) {c j:Nat} (y:α) (h:j ≠ c):updF f c y j=f j:=by unfold updF;rw [if_neg h]
theorem updF_eq {α:Type} (f:Nat → α) (c:Nat) (y:α):updF f c y c=y:=by unfold updF;rw [if_pos rfl]
theorem KFacts.addq {W:World} {own:Nat → Lb} {ls:Nat → List Value} {qf:Nat → Nat} {C:Nat} (h:KFacts W own ls qf C) {k:Nat} (hk:k < 3) {a b:Value} {n:Nat} {f:Nat → Nat → Int} {xs:List Value} (hq:Quiet W own k (ls (2 * k)).length a b n f xs) :
 KFacts W own (updF (updF ls (2 * k) (ls (2 * k) ++ [a])) (2 * k + 1) (ls (2 * k + 1) ++ [b])) qf C:=by
 have e0:updF (updF ls (2 * k) (ls (2 * k) ++ [a])) (2 * k + 1) (ls (2 * k + 1) ++ [b]) (2 * k)=ls (2 * k) ++ [a]:=by rw [updF_ne _ _ (by omega),updF_eq]
 have e1:updF (updF ls (2 * k) (ls (2 * k) ++ [a])) (2 * k + 1) (ls (2 * k + 1) ++ [b]) (2 * k + 1)=ls (2 * k + 1) ++ [b]:=updF_eq _ _ _
 have en:∀ j,j ≠ 2 * k → j ≠ 2 * k + 1 → updF (updF ls (2 * k) (ls (2 * k) ++ [a])) (2 * k + 1) (ls (2 * k + 1) ++ [b]) j=ls j:=fun j h1 h2 => by rw [updF_ne _ _ h2,updF_ne _ _ h1]
 refine ⟨fun k' hk' => ?_,fun k' hk' => ?_,fun k' hk' => ?_,fun k' hk' i h1 h2 => ?_,fun k' hk' i hi => ?_⟩
 ·by_cases e:k'=k
  ·subst e;rw [e0,e1,List.length_append,List.length_append,h.l1 k' hk'];rfl
  ·rw [en _ (by omega) (by omega),en _ (by omega) (by omega)];exact h.l1 k' hk'
 ·rw [en _ (by omega) (by omega),en _ (by omega) (by omega)];exact h.sg k' hk'
 ·rw [en _ (by omega) (by omega)];exact h.cap k' hk'
 ·by_cases e:k'=k
  ·subst e
   rw [e0] at h2 ⊢
   rw [e1]
   by_cases hi:i < (ls (2 * k')).length
   ·rw [getD_app _ _ _ hi,getD_app _ _ _ (by rw [h.l1 k' hk'];exact hi)]
    exact h.quiet k' hk' i h1 hi
   ·rw [List.length_append] at h2
    obtain rfl:i=(ls (2 * k')).length:=by simp at h2;omega
    rw [getD_last]
    have:(ls (2 * k')).length=(ls (2 * k' + 1)).length:=(h.l1 k' hk').symm
    rw [this,getD_last,← this]
    exact ⟨n,f,xs,hq⟩
  ·rw [en _ (by omega) (by omega)] at h2 ⊢
   rw [en _ (by omega) (by omega)]
   exact h.quiet k' hk' i h1 h2
 ·rw [en _ (by omega) (by omega)] at hi ⊢
  rw [en _ (by omega) (by omega)]
  exact h.full k' hk' i hi
theorem KFacts.addf {W:World} {own:Nat → Lb} {ls:Nat → List Value} {qf:Nat → Nat} {C:Nat} (h:KFacts W own ls qf C) {k:Nat} (hk:k < 3) {a:Value} {m:Int} (hf:Full W own k a m) (hm1:1000003 ≤ m) (hm2:m ≤ 1000003 + (ls (6 + k)).length) :
 KFacts W own (updF (updF ls (6 + k) (ls (6 + k) ++ [a])) (9 + k) (ls (9 + k) ++ [.int .i64 m])) qf (C + 1):=by
 have e0:updF (updF ls (6 + k) (ls (6 + k) ++ [a])) (9 + k) (ls (9 + k) ++ [.int .i64 m]) (6 + k)=ls (6 + k) ++ [a]:=by rw [updF_ne _ _ (by omega),updF_eq]
 have e1:updF (updF ls (6 + k) (ls (6 + k) ++ [a])) (9 + k) (ls (9 + k) ++ [.int .i64 m]) (9 + k)=ls (9 + k) ++ [.int .i64 m]:=updF_eq _ _ _
 have en:∀ j,j ≠ 6 + k → j ≠ 9 + k → updF (updF ls (6 + k) (ls (6 + k) ++ [a])) (9 + k) (ls (9 + k) ++ [.int .i64 m]) j=ls j:=fun j h1 h2 => by rw [updF_ne _ _ h2,updF_ne _ _ h1]
 refine ⟨fun k' hk' => ?_,fun k' hk' => ?_,fun k' hk' => ?_,fun k' hk' i h1 h2 => ?_,fun k' hk' i hi => ?_⟩
 ·rw [en _ (by omega) (by omega),en _ (by omega) (by omega)];exact h.l1 k' hk'
 ·by_cases e:k'=k
  ·subst e;rw [e0,e1,List.length_append,List.length_append,h.sg k' hk']
   rfl
  ·rw [en _ (by omega) (by omega),en _ (by omega) (by omega)];exact h.sg k' hk'
 ·have:=h.cap k' hk'
  by_cases e:k'=k
  ·subst e;rw [e0,List.length_append];simp;omega
  ·rw [en _ (by omega) (by omega)];omega
 ·rw [en _ (by omega) (by omega)] at h2 ⊢
  rw [en _ (by omega) (by omega)]
  exact h.quiet k' hk' i h1 h2
 ·by_cases e:k'=k
  ·subst e
   rw [e0] at hi ⊢
   rw [e1]
   by_cases hi2:i < (ls (6 + k')).length
   ·obtain ⟨m',q1,q2,q3,q4⟩:=h.full k' hk' i hi2
    refine ⟨m',?_,?_,q3,?_⟩
    ·rw [List.getElem?_append_left (by rw [h.sg k' hk'];exact hi2)];exact q1
    ·rw [getD_app _ _ _ hi2];exact q2
    ·rw [List.length_append];simp;omega
   ·rw [List.length_append] at hi
    obtain rfl:i=(ls (6 + k')).length:=by simp at hi;omega
    refine ⟨m,?_,?_,hm1,?_⟩
    ·rw [← h.sg k' hk',List.getElem?_append_right (Nat.le_refl _),Nat.sub_self];rfl
    ·rw [getD_last];exact hf
    ·rw [List.length_append];simp;omega
  ·rw [en _ (by omega) (by omega)] at hi ⊢
   rw [en _ (by omega) (by omega)]
   exact h.full k' hk' i hi
theorem KFacts.drop {W:World} {own:Nat → Lb} {ls:Nat → List Value} {qf qf':Nat → Nat} {C:Nat} (h:KFacts W own ls qf C) (hq:∀ k,qf k ≤ qf' k):KFacts W own ls qf' C :=
 ⟨h.l1,h.sg,h.cap,fun k hk i h1 h2 => h.quiet k hk i (Nat.le_trans (hq k) h1) h2,h.full⟩
theorem KFacts.mono {W:World} {own:Nat → Lb} {ls:Nat → List Value} {qf:Nat → Nat} {C C':Nat} (h:KFacts W own ls qf C) (hc:C ≤ C'):KFacts W own ls qf C' :=
 ⟨h.l1,h.sg,fun k hk => Nat.le_trans (h.cap k hk) hc,h.quiet,h.full⟩
theorem KFacts.grow {W W':World} {own:Nat → Lb} {ls:Nat → List Value} {qf:Nat → Nat} {C:Nat} (h:KFacts W own ls qf C) {k:Nat} {far far':Value} {m:Int} {n:Nat} {xs news:List Value}
 (hrow:W.ownsRow 0 (eT k) (ek k) far n xs) (hfl:∀ g,far.ownBlock=some g → own g=Lf k m) (hk:Kf W (fun g => far.ownBlock=some g) W')
 (hfr:∀ g,far'.ownBlock=some g → far.ownBlock=some g ∨ W.heap.size ≤ g)
 (hc:∀ g cur,far.ownBlock=some g → W.heap[g]?=some (.cells cur (eT k) (0,0)) → ∃ cur',W'.heap[g]?=some (.cells cur' (eT k) (0,0)) ∧ cur'.size=cur.size ∧ ∀ j,j < cur.size → cur'[j]?=cur[j]? ∨ ∃ d,d < ek k ∧ j=n * ek k + d ∧ cur'[j]?=news[d]?)
 (hn:news[ed k]?=some (.int .i64 m)):KFacts W' (relab own far' (Lf k m)) ls qf C ∧ (∀ g,g < W.heap.size → relab own far' (Lf k m) g=own g) ∧ ∀ a,Full W own k a m → Full W' (relab own far' (Lf k m)) k a m:=by
 have hlab:∀ g,g < W.heap.size → relab own far' (Lf k m) g=own g:=fun g hg => by
  by_cases e:far'.ownBlock=some g
  ·rw [own_relab_at e]
   rcases hfr g e with h2 | h2
   ·exact (hfl g h2).symm
   ·omega
  ·exact own_relab e
 have hfull:∀ a,Full W own k a m → Full W' (relab own far' (Lf k m)) k a m:=fun a ha => by
  refine ⟨?_,fun g hg => (hlab g (ha.mkd.lt g hg)).trans (ha.la g hg)⟩
  by_cases e:∃ g,far.ownBlock=some g ∧ a.ownBlock=some g
  ·obtain ⟨g,e1,e2⟩:=e
   rcases hrow.2 with ⟨rfl,_⟩ | ⟨g',cap,cur,rfl,_,hg',_⟩
   ·cases e1
   ·injection e1 with e1
    change g'=g at e1
    subst e1
    obtain ⟨cur',q1,q2,q3⟩:=hc g' cur rfl hg'
    exact ha.mkd.over (ed_lt k) e2 hg' q1 q2 q3 hn
  ·exact ha.mkd.same fun g hg => hk.block g (ha.mkd.lt g hg) fun e2 => e ⟨g,e2,hg⟩
 refine ⟨⟨h.l1,h.sg,h.cap,fun k' hk' i h1 h2 => ?_,fun k' hk' i hi => ?_⟩,hlab,hfull⟩
 ·obtain ⟨n',f,xs',hq⟩:=h.quiet k' hk' i h1 h2
  refine ⟨n',f,xs',hq.same fun g hg hl => ⟨hlab g hg,hk.block g hg fun e => ?_⟩⟩
  have:=hfl g e
  rcases hl with e2 | e2 <;> rw [e2] at this <;> cases this
 ·obtain ⟨m',q1,q2,q3⟩:=h.full k' hk' i hi
  refine ⟨m',q1,?_,q3⟩
  by_cases e:k'=k ∧ m'=m
  ·obtain ⟨rfl,rfl⟩:=e
   exact hfull _ q2
  ·refine q2.same fun g hg hl => ⟨hlab g hg,hk.block g hg fun e2 => ?_⟩
   have:=hfl g e2
   rw [hl] at this
   injection this with _ this
   injection this with t1 t2
   exact e ⟨t1,t2⟩
end Go.Proofs.YtfbcdmhmpfijjaaGreatDoor
namespace Go.Proofs.YtfbcdmhmpfijjaaGreatDoor
open Go Go.RowKit
structure FullN (W:World) (own:Nat → Lb) (k n:Nat) (a:Value) (m:Int):Prop where
 row:∃ xs,W.ownsRow 0 (eT k) (ek k) a n xs ∧ ∀ i,i < n → xs[i * ek k + ed k]?=some (.int .i64 m)
 la:∀ g,a.ownBlock=some g → own g=Lf k m
theorem FullN.full {W:World} {own:Nat → Lb} {k n:Nat} {a:Value} {m:Int} (h:FullN W own k n a m):Full W own k a m:=by
 obtain ⟨⟨xs,h1,h2⟩,h3⟩:=h
 exact ⟨⟨n,xs,h1,h2⟩,h3⟩
def Spare (W:World) (own:Nat → Lb) (qf:Nat → Nat) (k:Nat) (l:Value):Prop :=
 ∀ g,l.ownBlock=some g → g < W.heap.size ∧ (own g=Lno ∨ ∃ i,i < qf k ∧ (own g=Lq k i ∨ own g=Lw k i))
theorem Spare.k {W:World} {own:Nat → Lb} {qf:Nat → Nat} {k:Nat} {l:Value} (h:Spare W own qf k l) {g:Nat} (hg:l.ownBlock=some g):(own g).1 ≠ 1 ∧ (own g).1 ≠ 2 ∧ (own g).1 ≠ 5:=by
 rcases (h g hg).2 with e | ⟨i,_,e | e⟩
 ·rw [e];decide
 ·rw [e];exact ⟨by simp,by simp,by simp⟩
 ·rw [e];exact ⟨by simp,by simp,by simp⟩
theorem KHead.labS {W:World} {pb:Nat} {h0 h1:Value} {own:Nat → Lb} {v:Nat → Value} {ls:Nat → List Value} (h:KHead W pb h0 h1 own v ls) {qf:Nat → Nat} {k:Nat} {l:Value} (hl:Spare W own qf k l) (L:Lb):KHead W pb h0 h1 (relab own l L) v ls:=by
 refine ⟨h.head,?_,h.rows,fun j hj g hg => ?_,fun g hg => ?_⟩
 ·rw [own_relab fun e => (hl.k e).1 (by rw [h.opb])]
  exact h.opb
 ·have:=h.orow j hj g hg
  rw [own_relab fun e => (hl.k e).2.1 (by rw [this])]
  exact this
 ·by_cases e:l.ownBlock=some g
  ·exact (hl g e).1
  ·rw [own_relab e] at hg
   exact h.olt g hg
theorem KFacts.labS {W:World} {own:Nat → Lb} {ls:Nat → List Value} {qf:Nat → Nat} {C:Nat} (h:KFacts W own ls qf C) {k:Nat} {l:Value} (hl:Spare W own qf k l) (L:Lb) {W':World} (hk:Kf W (fun g => l.ownBlock=some g) W'):KFacts W' (relab own l L) ls qf C:=by
 refine ⟨h.l1,h.sg,h.cap,fun k' hk' i h1 h2 => ?_,fun k' hk' i hi => ?_⟩
 ·obtain ⟨n,f,xs,hq⟩:=h.quiet k' hk' i h1 h2
  refine ⟨n,f,xs,hq.same fun g hg hlb => ?_⟩
  have hne:l.ownBlock ≠ some g:=fun e => by
   rcases (hl g e).2 with e2 | ⟨i',hi',e2⟩
   ·rcases hlb with e3 | e3 <;> rw [e3] at e2 <;> cases e2
   ·rcases hlb with e3 | e3 <;> rw [e3] at e2 <;> rcases e2 with e2 | e2
    all_goals
     injection e2 with q1 q2
     injection q2 with q2 q3
     first
     | (have:i=i':=Int.ofNat_inj.1 q3
        rw [q2,this] at h1
        exact absurd h1 (Nat.not_le.2 hi'))
     | cases q1
  exact ⟨own_relab hne,hk.block g hg hne⟩
 ·obtain ⟨m,q1,q2,q3⟩:=h.full k' hk' i hi
  refine ⟨m,q1,q2.same fun g hg hlb => ?_,q3⟩
  have hne:l.ownBlock ≠ some g:=fun e => (hl.k e).2.2 (by rw [hlb])
  exact ⟨own_relab hne,hk.block g hg hne⟩
structure KFrm (W:World) (own:Nat → Lb) (l:Option Nat) (W':World) (own':Nat → Lb):Prop where
 kf:Kf W (fun g => own g ≠ Lno ∨ l=some g) W'
 lb:∀ g,own' g ≠ Lno → own g ≠ Lno ∨ l=some g ∨ W.heap.size ≤ g
theorem KFrm.refl (W:World) (own:Nat → Lb) (l:Option Nat):KFrm W own l W own:=⟨Kf.refl _ _,fun _ h => .inl h⟩
theorem KFrm.trans {W W1 W2:World} {own own1 own2:Nat → Lb} {l:Option Nat} (h:KFrm W own l W1 own1) (k:KFrm W1 own1 l W2 own2):KFrm W own l W2 own2:=by
 refine ⟨h.kf.trans k.kf fun g hg hq => ?_,fun g hg => ?_⟩
 ·rcases hq with e | e
  ·rcases h.lb g e with e2 | e2 | e2
   ·exact .inl e2
   ·exact .inr e2
   ·omega
  ·exact .inr e
 ·rcases k.lb g hg with e | e | e
  ·exact h.lb g e
  ·exact .inr (.inl e)
  ·exact .inr (.inr (Nat.le_trans h.kf.size e))
theorem KFrm.mono {W W':World} {own own':Nat → Lb} (h:KFrm W own none W' own') (l:Option Nat):KFrm W own l W' own' :=
 ⟨h.kf.mono fun g _ hg => hg.elim .inl (fun e => by cases e),fun g hg => (h.lb g hg).elim .inl fun e => .inr (e.elim (fun e => by cases e) .inr)⟩
theorem KFrm.still {W W1 W2:World} {own own1:Nat → Lb} {l:Option Nat} (h:KFrm W own l W1 own1) (k:Still W1 W2):KFrm W own l W2 own1:=⟨h.kf.still k,h.lb⟩
theorem KFrm.cut {W W':World} {own own':Nat → Lb} {l:Value} (h:KFrm W own l.ownBlock W' own') (hl:∀ g,l.ownBlock=some g → own g ≠ Lno ∨ W.heap.size ≤ g):KFrm W own none W' own' :=
 ⟨h.kf.mono fun g hlt hg => hg.elim .inl (fun e => (hl g e).elim .inl (fun e2 => by omega)),fun g hg => (h.lb g hg).elim .inl fun e => e.elim (fun e => (hl g e).elim .inl (fun e => .inr (.inr e))) (fun e => .inr (.inr e))⟩
structure MkS (pb:Nat) (h0 h1:Value) (qf:Nat → Nat) (k:Nat) (l:Value) (m:Int) (nl:Nat) (W0:World) (own0:Nat → Lb) (ls0:Nat → List Value) (d C:Nat) (W:World) (own:Nat → Lb) (v:Nat → Value) (ls:Nat → List Value):Prop where
 hd:KHead W pb h0 h1 own v ls
 fc:KFacts W own ls qf C
 fr:KFrm W0 own0 l.ownBlock W own
 ln:(ls (6 + k)).length=(ls0 (6 + k)).length + d
 eq:∀ j,j ≠ 6 + k → j ≠ 9 + k → ls j=ls0 j
 ml:FullN W own k nl l m
section
variable {pb:Nat} {h0 h1:Value} {qf:Nat → Nat} {k:Nat} {l:Value} {m:Int} {nl:Nat} {W0:World} {own0:Nat → Lb} {ls0:Nat → List Value} {d C:Nat} {W:World} {own:Nat → Lb} {v:Nat → Value} {ls:Nat → List Value}
theorem FullN.same {W W':World} {own own':Nat → Lb} {n:Nat} {a:Value} (h:FullN W own k n a m) (hb:∀ g,g < W.heap.size → own g=Lf k m → own' g=own g ∧ W'.heap[g]?=W.heap[g]?):FullN W' own' k n a m:=by
 obtain ⟨⟨xs,h1,h2⟩,h3⟩:=h
 have hla:∀ g,a.ownBlock=some g → own' g=own g ∧ W'.heap[g]?=W.heap[g]?:=fun g hg => hb g (h1.lt g hg).2 (h3 g hg)
 exact ⟨⟨xs,ownsRow_of_block h1 fun g hg => (hla g hg).2,h2⟩,fun g hg => (hla g hg).1.trans (h3 g hg)⟩
theorem MkS.pushed (h:MkS pb h0 h1 qf k l m nl W0 own0 ls0 d C W own v ls) (hk:k < 3) {far:Value} {n:Nat} (hf:FullN W own k n far m) (hm1:1000003 ≤ m) (hm2:m ≤ 1000003 + (ls0 (6 + k)).length)
 {W1:World} {v1:Value} (p1:KHead W1 pb h0 h1 (relab own v1 (Lhd (6 + k))) (updF v (6 + k) v1) (updF ls (6 + k) (ls (6 + k) ++ [far]))) (p2:Kf W (fun g => own g=Lhd (6 + k) ∨ g=pb) W1) (p3:∀ g,g < W.heap.size → relab own v1 (Lhd (6 + k)) g=own g)
 {own':Nat → Lb} (e':own'=relab own v1 (Lhd (6 + k))) {v':Nat → Value} (ev:v'=updF v (6 + k) v1) {ls':Nat → List Value} (el:ls'=updF ls (6 + k) (ls (6 + k) ++ [far]))
 {W2:World} {v2:Value} (q1:KHead W2 pb h0 h1 (relab own' v2 (Lhd (9 + k))) (updF v' (9 + k) v2) (updF ls' (9 + k) (ls' (9 + k) ++ [.int .i64 m]))) (q2:Kf W1 (fun g => own' g=Lhd (9 + k) ∨ g=pb) W2) (q3:∀ g,g < W1.heap.size → relab own' v2 (Lhd (9 + k)) g=own' g) :
 ∃ own2 v2 ls2,MkS pb h0 h1 qf k l m nl W0 own0 ls0 (d + 1) (C + 1) W2 own2 v2 ls2 ∧ FullN W2 own2 k n far m:=by
 subst e'
 subst ev
 subst el
 have hop:=h.hd.opb
 have hlt:=h.hd.olt
 have hsame:∀ g,g < W.heap.size → 3 ≤ (own g).1 → relab (relab own v1 (Lhd (6 + k))) v2 (Lhd (9 + k)) g=own g ∧ W2.heap[g]?=W.heap[g]?:=fun g hg h3 => by
  have hg1:g < W1.heap.size:=Nat.lt_of_lt_of_le hg p2.size
  have hnp:g ≠ pb:=fun e => by rw [e,hop] at h3;exact absurd h3 (by decide)
  refine ⟨(q3 g hg1).trans (p3 g hg),(q2.block g hg1 fun e => ?_).trans (p2.block g hg fun e => ?_)⟩
  ·rcases e with e | e
   ·rw [p3 g hg] at e;rw [e] at h3;exact absurd h3 (by simp)
   ·exact hnp e
  ·rcases e with e | e
   ·rw [e] at h3;exact absurd h3 (by simp)
   ·exact hnp e
 have hfar:=hf.same (W':=W2) (own':=relab (relab own v1 (Lhd (6 + k))) v2 (Lhd (9 + k))) fun g hg e => hsame g hg (by rw [e];simp)
 have hmm:m ≤ 1000003 + (ls (6 + k)).length:=by have:=h.ln;omega
 have h9:(updF ls (6 + k) (ls (6 + k) ++ [far])) (9 + k)=ls (9 + k):=updF_ne _ _ (by omega)
 refine ⟨_,_,_,⟨q1,?_,h.fr.trans ⟨?_,fun g hg => ?_⟩,?_,fun j j1 j2 => ?_,h.ml.same fun g hg e => hsame g hg (by rw [e];simp)⟩,hfar⟩
 ·rw [h9]
  exact (h.fc.same hsame).addf hk hfar.full hm1 hmm
 ·refine (p2.mono fun g _ e => ?_).trans (q2.mono (q:=fun g => own g ≠ Lno ∨ l.ownBlock=some g ∨ W.heap.size ≤ g) fun g _ e => ?_) fun g hg e => ?_
  ·rcases e with e | e
   ·exact .inl (by rw [e];intro h;cases h)
   ·exact .inl (by rw [e,hop];intro h;cases h)
  ·by_cases hg:g < W.heap.size
   ·rcases e with e | e
    ·rw [p3 g hg] at e
     exact .inl (by rw [e];intro h;cases h)
    ·exact .inl (by rw [e,hop];intro h;cases h)
   ·exact .inr (.inr (by omega))
  ·rcases e with e | e | e
   ·exact .inl e
   ·exact .inr e
   ·omega
 ·by_cases hgs:g < W.heap.size
  ·rw [q3 g (Nat.lt_of_lt_of_le hgs p2.size),p3 g hgs] at hg
   exact .inl hg
  ·exact .inr (.inr (by omega))
 ·rw [updF_ne _ _ (by omega),updF_eq,List.length_append,h.ln]
  simp
  omega
 ·rw [updF_ne _ _ j2,updF_ne _ _ j1]
  exact h.eq j j1 j2
theorem MkS.grown (h:MkS pb h0 h1 qf k l m nl W0 own0 ls0 d C W own v ls) {far far':Value} {n:Nat} {xs news:List Value} {W':World}
 (hrow:W.ownsRow 0 (eT k) (ek k) far n xs) (hx:∀ i,i < n → xs[i * ek k + ed k]?=some (.int .i64 m)) (hla:∀ g,far.ownBlock=some g → own g=Lf k m)
 (hnl:news.length=ek k) (hn:news[ed k]?=some (.int .i64 m)) (hrow':W'.ownsRow 0 (eT k) (ek k) far' (n + 1) (xs ++ news)) (hk:Kf W (fun g => far.ownBlock=some g) W')
 (hfr:∀ g,far'.ownBlock=some g → far.ownBlock=some g ∨ W.heap.size ≤ g)
 (hc:∀ g cur,far.ownBlock=some g → W.heap[g]?=some (.cells cur (eT k) (0,0)) → ∃ cur',W'.heap[g]?=some (.cells cur' (eT k) (0,0)) ∧ cur'.size=cur.size ∧ ∀ j,j < cur.size → cur'[j]?=cur[j]? ∨ ∃ d,d < ek k ∧ j=n * ek k + d ∧ cur'[j]?=news[d]?)
 :
 ∃ own',MkS pb h0 h1 qf k l m nl W0 own0 ls0 d C W' own' v ls ∧ FullN W' own' k (n + 1) far' m:=by
 obtain ⟨g1,g2,g3⟩:=h.fc.grow hrow hla hk hfr hc hn
 have hmark:∀ g,far.ownBlock=some g → own g ≠ Lno:=fun g hg => by rw [hla g hg];intro e;cases e
 have hnot:∀ g,(own g).1=1 ∨ (own g).1=2 → far.ownBlock ≠ some g:=fun g hg e => by
  rw [hla g e] at hg
  rcases hg with e | e <;> cases e
 have hlt:∀ g,far'.ownBlock=some g → g < W'.heap.size:=fun g hg => (hrow'.lt g hg).2
 refine ⟨relab own far' (Lf k m),⟨?_,g1,h.fr.trans ⟨hk.mono fun g _ e => .inl (hmark g e),fun g hg => ?_⟩,h.ln,h.eq,?_⟩,⟨⟨_,hrow',fun i hi => ?_⟩,fun g hg => own_relab_at hg⟩⟩
 ·refine h.hd.kf hk (fun g hg e => ⟨hnot g e,g2 g hg⟩) fun g hg => ?_
  by_cases e:far'.ownBlock=some g
  ·exact hlt g e
  ·rw [own_relab e] at hg
   exact Nat.lt_of_lt_of_le (h.hd.olt g hg) hk.size
 ·by_cases hgs:g < W.heap.size
  ·rw [g2 g hgs] at hg;exact .inl hg
  ·exact .inr (.inr (by omega))
 ·obtain ⟨⟨ys,y1,y2⟩,y3⟩:=h.ml
  by_cases e:∃ g,far.ownBlock=some g ∧ l.ownBlock=some g
  ·obtain ⟨g,e1,e2⟩:=e
   rcases hrow.2 with ⟨rfl,_⟩ | ⟨g',cap,cur,rfl,_,hg',_⟩
   ·cases e1
   ·injection e1 with e1
    change g'=g at e1
    subst e1
    obtain ⟨cur',q1,q2,q3⟩:=hc g' cur rfl hg'
    rcases y1.2 with ⟨rfl,_⟩ | ⟨gl,capl,curl,rfl,hbl,hgl,hncl,hcml,hcsl,htl⟩
    ·cases e2
    ·injection e2 with e2
     change gl=g' at e2
     subst e2
     rw [hgl] at hg'
     injection hg' with hg'
     injection hg' with hg' _ _
     subst hg'
     have hle:nl * ek k ≤ curl.size:=by rw [hcsl];exact Nat.mul_le_mul_right _ hncl
     refine ⟨⟨cur'.toList.take (nl * ek k),⟨by rw [List.length_take,Array.length_toList,q2];omega,.inr ⟨gl,capl,cur',rfl,hbl,q1,hncl,hcml,q2.trans hcsl,rfl⟩⟩,fun i hi => ?_⟩,fun g hg => (g2 g (y1.lt g hg).2).trans (y3 g hg)⟩
     have hd:=ed_lt k
     have hik:i * ek k + ed k < nl * ek k:=by
      have:=Nat.mul_le_mul_right (ek k) (show i + 1 ≤ nl by omega)
      rw [Nat.add_mul,Nat.one_mul] at this
      omega
     rw [List.getElem?_take_of_lt hik,Array.getElem?_toList]
     rcases q3 (i * ek k + ed k) (by omega) with e | ⟨dd,hdk,e,e2⟩
     ·rw [e]
      have:=y2 i hi
      rw [← htl,List.getElem?_take_of_lt hik,Array.getElem?_toList] at this
      exact this
     ·obtain ⟨_,rfl⟩:=row_ix hdk hd e
      rw [e2]
      exact hn
  ·exact ⟨⟨ys,ownsRow_of_block y1 fun g hg => hk.block g (y1.lt g hg).2 fun e2 => e ⟨g,e2,hg⟩,y2⟩,fun g hg => (g2 g (y1.lt g hg).2).trans (y3 g hg)⟩
 ·have hlen:xs.length=n * ek k:=hrow.1
  have hd:=ed_lt k
  by_cases hin:i < n
  ·rw [List.getElem?_append_left (by
    rw [hlen]
    have:=Nat.mul_le_mul_right (ek k) (show i + 1 ≤ n by omega)
    rw [Nat.add_mul,Nat.one_mul] at this
    omega)]
   exact hx i hin
  ·obtain rfl:i=n:=by omega
   rw [List.getElem?_append_right (by omega),hlen,Nat.add_sub_cancel_left]
   exact hn
end
end Go.Proofs.YtfbcdmhmpfijjaaGreatDoor
