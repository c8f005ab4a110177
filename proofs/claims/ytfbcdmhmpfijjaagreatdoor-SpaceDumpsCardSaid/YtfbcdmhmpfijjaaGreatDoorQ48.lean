/-
  The walks of hearthref8.Copy and hearthref8.Fits.
-/
import Derived.Laws.Rows
import Derived.Test.YtfbcdmhmpfijjaaGreatDoorQ25
import Derived.Test.YtfbcdmhmpfijjaaGreatDoorQ47
import Derived.Test.YtfbcdmhmpfijjaaGreatDoorQ45
set_option linter.unusedVariables false
set_option linter.unusedSimpArgs false
set_option linter.unusedSectionVars false
namespace Go.Proofs.YtfbcdmhmpfijjaaGreatDoor
open Go Go.RowKit
theorem cnt_add {S:Nat → Bool} {x N:Nat} (hx:S x=false) (hN:x < N):Bm.cnt (setS S x true) 0 N=Bm.cnt S 0 N + 1:=by
 have h:=cnt_set (S:=setS S x true) (x:=x) (if_pos rfl) N hN
 have e:setS (setS S x true) x false=S:=by
  funext i
  unfold setS
  by_cases h:i=x
  ·rw [if_pos h,h,hx]
  ·rw [if_neg h,if_neg h]
 rw [e] at h
 exact h
theorem cutB_in (S:Nat → Bool) (f w:Nat):∀ k x,cutB S f w k x=true ↔ S x=true ∨ ∃ j,j < k ∧ x=f + j * w
 | 0,x => ⟨.inl,fun h => h.resolve_right fun ⟨j,h,_⟩ => by omega⟩
 | k + 1,x => by
  have ih:=cutB_in S f w k x
  show setS (cutB S f w k) (f + k * w) true x=true ↔ _
  unfold setS
  by_cases e:x=f + k * w
  ·rw [if_pos e]
   exact ⟨fun _ => .inr ⟨k,by omega,e⟩,fun _ => rfl⟩
  ·rw [if_neg e,ih]
   refine ⟨fun h => h.imp id fun ⟨j,h1,h2⟩ => ⟨j,by omega,h2⟩,fun h => h.imp id fun ⟨j,h1,h2⟩ => ⟨j,?_,h2⟩⟩
   by_cases ej:j=k
   ·subst ej;exact absurd h2 e
   ·omega
theorem cutB_cnt {S:Nat → Bool} {f w N:Nat} (hS:∀ x,S x=false) (hw:0 < w):∀ k,f + k * w ≤ N → Bm.cnt (cutB S f w k) 0 N=Bm.cnt S 0 N + k
 | 0,_ => rfl
 | k + 1,h => by
  have hm:(k + 1) * w=k * w + w:=Nat.succ_mul _ _
  have ih:=cutB_cnt (S:=S) (f:=f) (w:=w) (N:=N) hS hw k (by omega)
  show Bm.cnt (setS (cutB S f w k) (f + k * w) true) 0 N=_
  rw [cnt_add (by
   cases e:cutB S f w k (f + k * w) with
   | false => rfl
   | true =>
    rcases (cutB_in S f w k _).1 e with h1 | ⟨j,h1,h2⟩
    ·rw [hS] at h1;cases h1
    ·have h3:j * w=k * w:=by omega
     have:=Nat.eq_of_mul_eq_mul_right hw h3
     omega) (by omega),ih]
  omega
theorem cnt_none {S:Nat → Bool} (h:∀ x,S x=false) (N:Nat):Bm.cnt S 0 N=0:=Bm.cnt_zero fun i _ _ => h i
end Go.Proofs.YtfbcdmhmpfijjaaGreatDoor
namespace Go.Proofs.YtfbcdmhmpfijjaaGreatDoor
open Go Go.RowKit
structure Sim.Ok (x:Sim) (s0 s:St):Prop where
 P:x.P=s.P
 low:x.low=s.low
 n:s.n=s0.n
 cnt:∀ c,c < 8 → x.cnt s0 c=(Bm.cnt (s.B (c + 1)) 0 (64 * s.n):Nat)
theorem Sim.Ok.start (s:St):s.sim0.Ok s s:=⟨rfl,rfl,rfl,fun _ _ => rfl⟩
theorem Sim.cnt_upd (x:Sim) (s0:St) (P:Nat → Pg) (low c:Nat) {u:Int} (hu:0 ≤ u) (c':Nat):Sim.cnt ⟨P,low,updF x.left c u⟩ s0 c'=if c'=c then u else x.cnt s0 c':=by
 show (if updF x.left c u c' < 0 then _ else updF x.left c u c')=_
 by_cases e:c'=c
 ·have e2:updF x.left c u c'=u:=if_pos e
  rw [e2,if_pos e,if_neg (by omega)]
 ·have e2:updF x.left c u c'=x.left c':=if_neg e
  rw [e2,if_neg e]
  rfl
theorem Sim.Ok.step {x:Sim} {s0 s:St} (h:x.Ok s0 s) (hi:s.Inv) (hlow:s.low ≤ s.n) {z:Int} (hz:1 ≤ z ∧ z ≤ 1024) :
 (∀ t,s.take z=(t,0,20,0) → x.step s0 z=none) ∧ (∀ t (a:Nat),s.take z=(t,(a:Int),0,0) → ∃ x',x.step s0 z=some x' ∧ x'.Ok s0 t):=by
 have hffn:s.ff ≤ s.n:=firstFree_le _ _ _ hlow
 have hff:x.ff s0.n=s.ff:=by unfold Sim.ff St.ff;rw [h.P,h.low,h.n]
 by_cases h8:Sp.cls z=8
 ·obtain ⟨m,hmm⟩:∃ m,(Sp.pgs z).toNat=m:=⟨_,rfl⟩
  have ht:s.take z=match s.runAt m with
   | none => ({ s with low:=s.ff },0,20,0)
   | some h => ({ s with P:=runPg s.P h m,low:=s.ff },((h * 64:Nat):Int),0,0):=by
   unfold St.take
   rw [if_pos h8,hmm]
   rfl
  have hst:x.step s0 z=match s.runAt m with
   | none => none
   | some h => some ⟨runPg s.P h m,s.ff,x.left⟩:=by
   unfold Sim.step
   rw [if_neg (by omega),if_pos h8,hmm,hff,h.P,← h.n]
   rfl
  rw [ht,hst]
  cases hr:s.runAt m with
  | none =>
   refine ⟨fun t _ => rfl,fun t a e => ?_⟩
   injection e with _ e;injection e with _ e;injection e with e _;cases e
  | some q =>
   refine ⟨fun t e => ?_,fun t a e => ⟨_,rfl,?_⟩⟩
   ·injection e with _ e;injection e with _ e;injection e with e _;cases e
   ·injection e with e _
    subst e
    exact ⟨rfl,rfl,h.n,h.cnt⟩
 ·have hci:=Sp.cls_in hz.1 hz.2
  obtain ⟨c,hcz⟩:∃ c:Nat,Sp.cls z=(c:Int):=⟨(Sp.cls z).toNat,by omega⟩
  have hc:c < 8:=by omega
  have hcn:=h.cnt c hc
  have hst:x.step s0 z=if x.cnt s0 c=0 then (if s.ff=s.n then none else some ⟨setPg s.P s.ff ⟨1,(c:Int),0⟩,s.ff,updF x.left c ((Sp.bk c:Int) - 1)⟩) else some ⟨s.P,s.low,updF x.left c (x.cnt s0 c - 1)⟩:=by
   unfold Sim.step
   rw [if_neg (by omega),if_neg h8,hcz,Int.toNat_natCast,hff,h.P,h.low,← h.n]
  rw [hst,hcn]
  rcases hi.takeSmall hc hcz hlow with ⟨a,ha,ht⟩ | ⟨he,hf,ht⟩ | ⟨he,hf,hP,ht⟩
  ·rw [ht]
   refine ⟨fun t e => ?_,fun t a' e => ?_⟩
   ·injection e with _ e;injection e with _ e;injection e with e _;cases e
   ·injection e with e _
    subst e
    have hpk:=(hi.pick hc ha).2.2.1
    have hb:s.B (c + 1) a=true:=by
     unfold St.hd0 at ha
     rcases Bm.next_spec (s.B (c + 1)) (64 * s.n) 0 with ⟨e,_⟩ | ⟨i,e,_,_,h4,_⟩
     ·omega
     ·obtain rfl:i=a:=by omega
      exact h4
    have haN:a < 64 * s.n:=by
     obtain ⟨p,i,h1,h2,h3,_⟩:=hpk
     have:=blk_page hc h2 h3
     omega
    have hcs:=cnt_set hb (64 * s.n) haN
    rw [if_neg (by omega)]
    refine ⟨_,rfl,rfl,rfl,h.n,fun c' hc' => ?_⟩
    rw [x.cnt_upd s0 _ _ c (by omega)]
    by_cases ec:c'=c
    ·subst ec
     rw [if_pos rfl]
     show _=((Bm.cnt ((s.setB (c' + 1) (setS (s.B (c' + 1)) a false)).B (c' + 1)) 0 (64 * s.n):Nat):Int)
     rw [St.setB_at]
     omega
    ·rw [if_neg ec,h.cnt c' hc']
     show _=((Bm.cnt ((s.setB (c + 1) (setS (s.B (c + 1)) a false)).B (c' + 1)) 0 (64 * s.n):Nat):Int)
     rw [setB_ne _ _ _ _ (by omega)]
  ·rw [ht]
   refine ⟨fun t _ => ?_,fun t a e => ?_⟩
   ·rw [cnt_none he,if_pos (by rfl),if_pos hf]
   ·injection e with _ e;injection e with _ e;injection e with e _;cases e
  ·rw [ht]
   refine ⟨fun t e => ?_,fun t a e => ?_⟩
   ·injection e with _ e;injection e with _ e;injection e with e _;cases e
   ·injection e with e _
    subst e
    have hBc:(s.open c).B (c + 1)=cutB (s.B (c + 1)) (s.ff * 64) (Sp.cw c) (Sp.bk c):=St.setB_at _ _ _
    have hBo:∀ j,j ≠ c + 1 → (s.open c).B j=s.B j:=fun j hj => setB_ne _ _ _ _ hj
    have hw0:0 < Sp.cw c ∧ 1 ≤ Sp.bk c ∧ Sp.bk c * Sp.cw c ≤ 64:=by
     have h8:c=0 ∨ c=1 ∨ c=2 ∨ c=3 ∨ c=4 ∨ c=5 ∨ c=6 ∨ c=7:=by omega
     rcases h8 with rfl | rfl | rfl | rfl | rfl | rfl | rfl | rfl <;> decide
    have h1:=cutB_cnt (f:=s.ff * 64) (w:=Sp.cw c) (N:=64 * s.n) he hw0.1 (Sp.bk c) (by omega)
    have h2:=cnt_set (S:=cutB (s.B (c + 1)) (s.ff * 64) (Sp.cw c) (Sp.bk c)) (x:=s.ff * 64) ((cutB_in _ _ _ _ _).2 (.inr ⟨0,by omega,by omega⟩)) (64 * s.n) (by omega)
    have h4:=cnt_none he (64 * s.n)
    rw [h4,if_pos (by rfl),if_neg (by omega)]
    refine ⟨_,rfl,rfl,rfl,h.n,fun c' hc' => ?_⟩
    rw [x.cnt_upd s0 _ _ c (by omega)]
    by_cases ec:c'=c
    ·subst ec
     rw [if_pos rfl]
     show _=((Bm.cnt (((s.open c').setB (c' + 1) (setS ((s.open c').B (c' + 1)) (s.ff * 64) false)).B (c' + 1)) 0 (64 * s.n):Nat):Int)
     rw [St.setB_at,hBc]
     omega
    ·rw [if_neg ec,h.cnt c' hc']
     show _=((Bm.cnt (((s.open c).setB (c + 1) (setS ((s.open c).B (c + 1)) (s.ff * 64) false)).B (c' + 1)) 0 (64 * s.n):Nat):Int)
     rw [setB_ne _ _ _ _ (by omega),hBo _ (by omega)]
theorem Sim.step_bad (x:Sim) (s0:St) {z:Int} (hz:¬(1 ≤ z ∧ z ≤ 1024)):x.step s0 z=none:=by
 unfold Sim.step Sp.cls
 rw [if_pos (by rw [if_pos (by omega)];omega)]
end Go.Proofs.YtfbcdmhmpfijjaaGreatDoor
namespace Go.Proofs.YtfbcdmhmpfijjaaGreatDoor
open Go Go.RowKit
def St.rfStep (t:St) (z:Int):Option St:=if z < 1 ∨ 1024 < z then none else if (t.pl z).1 < 0 then none else some ((t.takeF z).put (t.pl z).1.toNat 3 z 0)
def St.rfTo (s:St) (zs:Nat → Int):Nat → Option St
 | 0 => some s
 | k + 1 => (s.rfTo zs k).bind (·.rfStep (zs k))
theorem takeF_low {s:St} (hl:s.low ≤ s.n) (z:Int):(s.takeF z).low ≤ s.n:=by
 have hff:s.ff ≤ s.n:=firstFree_le _ _ _ hl
 unfold St.takeF
 by_cases h8:Sp.cls z=8
 ·rw [if_pos h8]
  cases s.runAt (Sp.pgs z).toNat
  ·exact hl
  ·exact hff
 ·rw [if_neg h8]
  by_cases hd:0 ≤ s.hd0 (Sp.cls z).toNat
  ·rw [if_pos hd];exact hl
  ·rw [if_neg hd];exact hff
theorem St.InvX.linked {s:St} (hv:s.Inv) {z:Int} (hz1:1 ≤ z) (hz2:z ≤ 1024) {a:Nat} {fr:Bool} (hp:s.pl z=((a:Int),fr)):Sp.cls z=8 ∨ fr=true ∨ s.W a=s.link (Sp.cls z).toNat a:=by
 have hcl:=Sp.cls_in hz1 hz2
 by_cases h8:Sp.cls z=8
 ·exact .inl h8
 ·unfold St.pl at hp
  rw [if_neg h8] at hp
  by_cases hd:0 ≤ s.hd0 (Sp.cls z).toNat
  ·rw [if_pos hd] at hp
   injection hp with h1 h2
   refine .inr (.inr ?_)
   have hc:(Sp.cls z).toNat < 8:=by omega
   refine hv.lnk (Sp.cls z).toNat hc a ?_
   rcases Bm.next_spec (s.B ((Sp.cls z).toNat + 1)) (64 * s.n) 0 with ⟨e,_⟩ | ⟨i,e,_,_,hb,_⟩
   ·have:s.hd0 (Sp.cls z).toNat=-1:=e
    omega
   ·have e:s.hd0 (Sp.cls z).toNat=(i:Int):=e
    obtain rfl:i=a:=by omega
    exact hb
  ·rw [if_neg hd] at hp
   by_cases hf:s.ff=s.n
   ·rw [if_pos hf] at hp
    injection hp with h _
    omega
   ·rw [if_neg hf] at hp
    injection hp with _ h2
    exact .inr (.inl h2.symm)
theorem rfStep_sim {x:Sim} {s t:St} (hx:x.Ok s t) (hi:t.InvU) (hl:t.low ≤ t.n) (z:Int) :
 (t.rfStep z=none ∧ x.step s z=none) ∨ ∃ t' x',t.rfStep z=some t' ∧ x.step s z=some x' ∧ x'.Ok s t' ∧ t'.InvU ∧ t'.low ≤ t'.n ∧ t'.n=t.n ∧ t'.acts ≤ t.acts + 2:=by
 by_cases hz:1 ≤ z ∧ z ≤ 1024
 ·obtain ⟨V,hv⟩:=hi
  have hok:=Sim.Ok.step (x:=x) (s0:=s) (s:={ t with W:=V }) ⟨hx.P,hx.low,hx.n,hx.cnt⟩ hv hl hz
  obtain ⟨⟨p,fr⟩,hpl⟩:∃ r,t.pl z=r:=⟨_,rfl⟩
  by_cases hp:p < 0
  ·refine .inl ⟨?_,hok.1 _ (tk_none (s:={ t with W:=V }) (by show (t.pl z).1 < 0;rw [hpl];exact hp))⟩
   unfold St.rfStep
   rw [if_neg (by omega),hpl,if_pos hp]
  ·obtain ⟨a,rfl⟩:=Int.eq_ofNat_of_zero_le (show 0 ≤ p by omega)
   have hpl':({ t with W:=V }:St).pl z=((a:Int),fr):=hpl
   have hlk:=hv.linked hz.1 hz.2 hpl'
   have htk:=tk_some hz.1 hz.2 hpl' hlk
   obtain ⟨x',h1,h2⟩:=hok.2 _ a htk
   obtain ⟨V',hV'⟩:=takeF_words t V z
   rw [hV'] at h2
   have hu:=(St.InvU.takeF ⟨V,hv⟩ hl hz.1 hz.2 hpl).2.2 3 0 (by omega) (by omega)
   have hsm:=takeF_same t z
   refine .inr ⟨(t.takeF z).put a 3 z 0,x',?_,h1,⟨h2.P,h2.low,h2.n,h2.cnt⟩,hu,?_,hsm.1,?_⟩
   ·unfold St.rfStep
    rw [if_neg (by omega),hpl,if_neg hp,Int.toNat_natCast]
   ·show (t.takeF z).low ≤ (t.takeF z).n
    rw [hsm.1];exact takeF_low hl z
   ·show (t.takeF z).acts + 2 ≤ _
    rw [hsm.2.2.2.2.2.2.2];exact Nat.le_refl _
 ·refine .inl ⟨?_,x.step_bad s hz⟩
  unfold St.rfStep
  rw [if_pos (by omega)]
theorem rf_both {s:St} (hi:s.InvU) (hl:s.low ≤ s.n) (zs:Nat → Int):∀ k,(s.rfTo zs k=none ∧ s.simTo zs k=none) ∨ ∃ t x,s.rfTo zs k=some t ∧ s.simTo zs k=some x ∧ x.Ok s t ∧ t.InvU ∧ t.low ≤ t.n ∧ t.n=s.n ∧ t.acts ≤ s.acts + 2 * k
 | 0 => .inr ⟨s,s.sim0,rfl,rfl,Sim.Ok.start s,hi,hl,rfl,Nat.le_refl _⟩
 | k + 1 => by
  rcases rf_both hi hl zs k with ⟨e1,e2⟩ | ⟨t,x,e1,e2,hx,ht,htl,htn,hta⟩
  ·refine .inl ⟨?_,?_⟩
   ·show (s.rfTo zs k).bind _=none;rw [e1];rfl
   ·show (s.simTo zs k).bind _=none;rw [e2];rfl
  ·have r1:s.rfTo zs (k + 1)=t.rfStep (zs k):=by show (s.rfTo zs k).bind _=_;rw [e1];rfl
   have r2:s.simTo zs (k + 1)=x.step s (zs k):=by show (s.simTo zs k).bind _=_;rw [e2];rfl
   rw [r1,r2]
   rcases rfStep_sim hx ht htl (zs k) with h | ⟨t',x',a1,a2,a3,a4,a5,a6,a7⟩
   ·exact .inl h
   ·exact .inr ⟨t',x',a1,a2,a3,a4,a5,by omega,by omega⟩
theorem rf_same {s:St} (hi:s.InvU) (hl:s.low ≤ s.n) (zs:Nat → Int) (k:Nat):(s.simTo zs k).isSome=(s.rfTo zs k).isSome:=by
 rcases rf_both hi hl zs k with ⟨e1,e2⟩ | ⟨t,x,e1,e2,_⟩ <;> rw [e1,e2] <;> rfl
theorem rf_stop {s:St} (zs:Nat → Int) {k:Nat} (h:s.rfTo zs k=none):∀ j,s.rfTo zs (k + j)=none
 | 0 => h
 | j + 1 => by show (s.rfTo zs (k + j)).bind _=none;rw [rf_stop zs h j];rfl
end Go.Proofs.YtfbcdmhmpfijjaaGreatDoor
namespace Go.Proofs.YtfbcdmhmpfijjaaGreatDoor
open Go Go.RowKit
theorem rowB_of {w:World} {base:Nat} {T:TypeId} {k n:Nat} {v:Value} {xs:List Value} {f:Nat → Nat → Int} (h:w.ownsRow base T k v n xs) (hn:0 < n) (hx:∀ i,i < n → ∀ d,d < k → xs[i * k + d]?=some (.int .i64 (f i d))) :
 ∃ g cap,v=.slice (some ⟨g,0,none⟩) n cap ∧ base ≤ g ∧ g < w.heap.size ∧ RowB w g T n k f:=by
 rcases h.2 with ⟨_,h2⟩ | ⟨g,cap,cur,hv,hb,hg,_,_,_,ht⟩
 ·omega
 ·refine ⟨g,cap,hv,hb,(Array.getElem?_eq_some_iff.1 hg).1,cur,hg,fun i hi d hd => ?_⟩
  have h1:=hx i hi d hd
  have hlt:i * k + d < n * k:=by
   have:=Nat.mul_le_mul_right k (show i + 1 ≤ n by omega)
   rw [Nat.add_mul,Nat.one_mul] at this
   omega
  rw [← ht,List.getElem?_take,if_pos hlt,Array.getElem?_toList] at h1
  exact h1
def roCells (s:St):List Value:=(List.range (64 * s.n * 5)).map fun j => .int .i64 (s.ro (j / 5) (j % 5))
theorem roCells_at (s:St):∀ i,i < 64 * s.n → ∀ d,d < 5 → (roCells s)[i * 5 + d]?=some (.int .i64 (s.ro i d)):=fun i hi d hd => by
 unfold roCells
 have h1:(i * 5 + d) / 5=i:=by omega
 have h2:(i * 5 + d) % 5=d:=by omega
 rw [List.getElem?_map,List.getElem?_range (by omega),Option.map_some,h1,h2]
theorem robjs_copy (w:World) (R:RLay) (s:St) (h:RefAt w R s) :
 ∃ v' w',(Builtin.append_ #[62,62] 62 #[.slice none 0 0,.slice (some ⟨R.ob,0,none⟩) (64 * s.n) R.co]).run Tryz.prog w=.ok v' w' ∧
  w'.ownsRow w.heap.size 95 5 v' (64 * s.n) (roCells s) ∧ Still w w':=by
 have h2:=h.n2
 obtain ⟨i0,hi,hz0,hz1,hz2⟩:=info_parts Tryz.infoBlk
 obtain ⟨v',w',a1,a2,a3,_⟩:=run_append_own (P:=Tryz.prog) w w.heap.size 62 62 95 i0 _ 5 40 Tryz.underlying62 hi hz0 hz1 hz2 rfl (by decide) (.slice none 0 0) 0 [] (World.ownsRow_nil _ _ _ _)
  ⟨R.ob,0,none⟩ (64 * s.n) R.co (roCells s) (by unfold roCells;simp) (fun j u hu => by
   rw [add_at]
   have hj:j < 64 * s.n * 5:=by
    have:=(List.getElem?_eq_some_iff.1 hu).1
    unfold roCells at this
    simpa using this
   have e:j=j / 5 * 5 + j % 5:=by omega
   rw [e] at hu ⊢
   rw [h.objs.cell (i:=j / 5) (d:=j % 5) (by omega) (by omega),← hu,roCells_at s _ (by omega) _ (by omega)]) (fun u hu => by
   unfold roCells at hu
   obtain ⟨z,_,rfl⟩:=List.mem_map.1 hu
   rfl) (by unfold maxLen;omega) (by omega) (Nat.le_refl _)
 exact ⟨v',w',a1,by simpa using a2,(Only.refl _ _ w).grown a3 (fun k hk => by cases hk)⟩
theorem words_row (w:World) (R:RLay) (s:St) (h:RefAt w R s) :
 ∃ v' w',(Builtin.append_ #[27,27] 27 #[.slice none 0 0,.slice (some ⟨R.wb,0,none⟩) (64 * s.n) R.cw]).run Tryz.prog w=.ok v' w' ∧
  (∃ g cap,v'=.slice (some ⟨g,0,none⟩) (64 * s.n) cap ∧ w.heap.size ≤ g ∧ g < w'.heap.size ∧ RowB w' g 3 (64 * s.n) 1 (fun i _ => s.W i)) ∧ Still w w':=by
 obtain ⟨v',w',a1,a2,a3⟩:=rwords_copy w R s h
 exact ⟨v',w',a1,rowB_of a2 (by have:=h.n1;omega) (fun i hi d hd => wdF_at s i hi d hd),a3⟩
theorem objs_row (w:World) (R:RLay) (s:St) (h:RefAt w R s) :
 ∃ v' w',(Builtin.append_ #[62,62] 62 #[.slice none 0 0,.slice (some ⟨R.ob,0,none⟩) (64 * s.n) R.co]).run Tryz.prog w=.ok v' w' ∧
  (∃ g cap,v'=.slice (some ⟨g,0,none⟩) (64 * s.n) cap ∧ w.heap.size ≤ g ∧ g < w'.heap.size ∧ RowB w' g 95 (64 * s.n) 5 s.ro) ∧ Still w w':=by
 obtain ⟨v',w',a1,a2,a3⟩:=robjs_copy w R s h
 exact ⟨v',w',a1,rowB_of a2 (by have:=h.n1;omega) (roCells_at s),a3⟩
theorem ref_of {W:World} {s:St} {lo rb tb wb pb ob cw cp co:Nat} (h0:0 < lo) (h1:lo ≤ wb) (h2:wb < tb) (h3:wb < pb) (h4:tb < ob) (h5:pb < ob) (h6:ob < rb) (h7:rb < W.heap.size) (n1:1 ≤ s.n)
 (hh:W.heap[rb]?=some (.cells #[.slice (some ⟨wb,0,none⟩) (64 * s.n) cw,.pointer (some ⟨tb,0,none⟩),.slice (some ⟨ob,0,none⟩) (64 * s.n) co,.int .i64 s.ser] 66 (0,0)))
 (ht:RTabAt W tb pb cp s.n s.P) (hw:RowB W wb 3 (64 * s.n) 1 (fun i _ => s.W i)) (ho:RowB W ob 95 (64 * s.n) 5 s.ro):RefAt W ⟨lo,rb + 1,rb,tb,wb,pb,ob,cw,cp,co⟩ s:=by
 have hne:=ht.ne
 exact ⟨⟨h0,by dsimp only;omega,by dsimp only;omega,by dsimp only;omega,by dsimp only;omega,by dsimp only;omega,by dsimp only;omega,by dsimp only;omega,by dsimp only;omega,by dsimp only;omega,by dsimp only;omega,hne,by dsimp only;omega,by dsimp only;omega,by dsimp only;omega,by dsimp only;omega⟩,h7,n1,ht.n2,hh,ht.head,hw,ht.pages,ho⟩
set_option maxRecDepth 100000 in
set_option maxHeartbeats 6400000 in
theorem rcopy_any (w:World) (R:RLay) (s:St) (h:RefAt w R s) (Q:Ending → World → Prop)
 (hQ:∀ w' R',w.heap.size ≤ R'.lo → RefAt w' R' s → Still w w' → Q (.returned (.pointer (some ⟨R'.rb,0,none⟩))) w') :
 Calls Tryz.prog 69 #[.pointer (some ⟨R.rb,0,none⟩)] w Q:=by
 have HQ:=Lib.hid hQ
 have HR:=Lib.hid h
 have HA:=Lib.hid (fun W (hW:Still w W) => words_row W R s (h.still hW))
 have HB:=Lib.hid (fun W (hW:Still w W) => objs_row W R s (h.still hW))
 have HT:=Lib.hid (fun W (hW:Still w W) => rtcopy_any W R s (h.still hW))
 have hn1:=h.n1
 have h0:0 < w.heap.size:=by have:=h.lts.1;omega
 obtain ⟨N,hN⟩:∃ N,64 * s.n=N:=⟨_,rfl⟩
 have HN:=Lib.hid hN
 have HC:Hid (∀ W,Still w W → W.cell? ⟨R.rb,0,none⟩=some (.slice (some ⟨R.wb,0,none⟩) N R.cw) ∧ W.cell? ⟨R.rb,1,none⟩=some (.pointer (some ⟨R.tb,0,none⟩)) ∧ W.cell? ⟨R.rb,2,none⟩=some (.slice (some ⟨R.ob,0,none⟩) N R.co) ∧ W.cell? ⟨R.rb,3,none⟩=some (.int .i64 s.ser)):=Lib.hid fun W hW => by
  have:=h.still hW
  have h1:=this.c0
  have h2:=this.c2
  rw [hN] at h1 h2
  exact ⟨h1,this.c1,h2,this.c3⟩
 rw [hN] at HA HB
 obtain ⟨ser,hser⟩:∃ x,s.ser=x:=⟨_,rfl⟩
 rw [hser] at HC
 have HSE:=Lib.hid hser
 obtain ⟨l1,l2,l3,l4,l5⟩:=h.lts
 clear h hQ hN hser
 have hsC:Still w w:=Only.refl _ _ _
 obtain ⟨k0,k1,k2,k3⟩:=HC.out _ hsC
 go_enter Tryz.func69,Tryz.ntmps69
 go_upto_region 1 with fail
 go_region_held3 (fun w' => w'.cell? ⟨R.rb,0,none⟩=some (.slice (some ⟨R.wb,0,none⟩) N R.cw) ∧ w'.cell? ⟨R.rb,1,none⟩=some (.pointer (some ⟨R.tb,0,none⟩)) ∧ w'.cell? ⟨R.rb,2,none⟩=some (.slice (some ⟨R.ob,0,none⟩) N R.co) ∧ w'.cell? ⟨R.rb,3,none⟩=some (.int .i64 ser))
  ((refine HC.out _ ?_;(repeat first | with_reducible exact hsC | with_reducible exact Only.refl _ _ _ | with_reducible apply Only.drew | with_reducible apply Only.drewN | with_reducible apply Only.alloc)))
  (first
    | (refine step_append_some rfl _ _ 27 rfl _ _ rfl rfl (HA.out _ (by (repeat first | with_reducible exact hsC | with_reducible exact Only.refl _ _ _ | with_reducible apply Only.drew | with_reducible apply Only.drewN | with_reducible apply Only.alloc))) (fun v1 wa hR => ?_);obtain ⟨⟨g1,p1,rfl,hg1,hl1,hr1⟩,hcall⟩:=hR;have hg1:w.heap.size ≤ g1:=Nat.le_trans (Only.size (lo:=w.heap.size) (hi:=w.heap.size) (w:=w) (by (repeat first | with_reducible exact hsC | with_reducible exact Only.refl _ _ _ | with_reducible apply Only.drew | with_reducible apply Only.drewN | with_reducible apply Only.alloc))) hg1;have hsC:Still w wa:=Still.trans (by (repeat first | with_reducible exact hsC | with_reducible exact Only.refl _ _ _ | with_reducible apply Only.drew | with_reducible apply Only.drewN | with_reducible apply Only.alloc)) hcall;have hsP:Still wa wa:=Only.refl _ _ _)
    | (go_at_call 112;refine (HT.out _ (by (repeat first | with_reducible exact hsC | with_reducible exact Only.refl _ _ _ | with_reducible apply Only.drew | with_reducible apply Only.drewN | with_reducible apply Only.alloc))).mono ?_;rintro e wp ⟨⟨tb,tp,cp,rfl,ht,ht1,ht2⟩,hcall⟩;have ht1:wa.heap.size ≤ tb:=Nat.le_trans (Only.size (lo:=wa.heap.size) (hi:=wa.heap.size) (w:=wa) (by (repeat first | with_reducible exact hsP | with_reducible exact Only.refl _ _ _ | with_reducible apply Only.drew | with_reducible apply Only.drewN | with_reducible apply Only.alloc))) ht1;have ht2:wa.heap.size ≤ tp:=Nat.le_trans (Only.size (lo:=wa.heap.size) (hi:=wa.heap.size) (w:=wa) (by (repeat first | with_reducible exact hsP | with_reducible exact Only.refl _ _ _ | with_reducible apply Only.drew | with_reducible apply Only.drewN | with_reducible apply Only.alloc))) ht2;have hAP:Still wa wp:=Still.trans (by (repeat first | with_reducible exact hsP | with_reducible exact Only.refl _ _ _ | with_reducible apply Only.drew | with_reducible apply Only.drewN | with_reducible apply Only.alloc)) hcall;have hsC:Still w wp:=Still.trans (by (repeat first | with_reducible exact hsC | with_reducible exact Only.refl _ _ _ | with_reducible apply Only.drew | with_reducible apply Only.drewN | with_reducible apply Only.alloc)) hcall;have hsQ:Still wp wp:=Only.refl _ _ _)
    | (refine step_append_some rfl _ _ 62 rfl _ _ rfl rfl (HB.out _ (by (repeat first | with_reducible exact hsC | with_reducible exact Only.refl _ _ _ | with_reducible apply Only.drew | with_reducible apply Only.drewN | with_reducible apply Only.alloc))) (fun v3 wq hR => ?_);obtain ⟨⟨g3,p3,rfl,hg3,hl3,hr3⟩,hcall⟩:=hR;have hg3:wp.heap.size ≤ g3:=Nat.le_trans (Only.size (lo:=wp.heap.size) (hi:=wp.heap.size) (w:=wp) (by (repeat first | with_reducible exact hsQ | with_reducible exact Only.refl _ _ _ | with_reducible apply Only.drew | with_reducible apply Only.drewN | with_reducible apply Only.alloc))) hg3;have hPQ:Still wp wq:=Still.trans (by (repeat first | with_reducible exact hsQ | with_reducible exact Only.refl _ _ _ | with_reducible apply Only.drew | with_reducible apply Only.drewN | with_reducible apply Only.alloc)) hcall;have hsC:Still w wq:=Still.trans (by (repeat first | with_reducible exact hsC | with_reducible exact Only.refl _ _ _ | with_reducible apply Only.drew | with_reducible apply Only.drewN | with_reducible apply Only.alloc)) hcall;have hsQ:Still wq wq:=Only.refl _ _ _))
 all_goals
  rename_i hHeld
  clear hHeld
  have hN:=HN.out
  have hS:=HSE.out
  clear HN HSE HA HB HT HC
  subst hN
  subst hS
  have h1:=Only.size hAP
  have h2:=Only.size hPQ
  have HE:Hid (Q (.returned (.pointer (some ⟨wq.heap.size,0,none⟩))) (wq.alloc (.cells #[.slice (some ⟨g1,0,none⟩) (64 * s.n) p1,.pointer (some ⟨tb,0,none⟩),.slice (some ⟨g3,0,none⟩) (64 * s.n) p3,.int .i64 s.ser] 66))) :=
   Lib.hid (HQ.out _ ⟨w.heap.size,wq.heap.size + 1,wq.heap.size,tb,g1,tp,g3,p1,cp,p3⟩ (Nat.le_refl _) (ref_of h0 hg1 (by omega) (by omega) (by have:=ht.lts.1;omega) (by have:=ht.lts.2;omega) hl3 (by simp) hn1 (heap_alloc_new wq _) ((ht.still hPQ).still ((Only.refl _ _ wq).alloc _)) (((hr1.still hAP).still hPQ).still ((Only.refl _ _ wq).alloc _)) (hr3.still ((Only.refl _ _ wq).alloc _))) (hsC.alloc _))
  go_wp2_with fail
  exact HE.out
set_option maxRecDepth 100000 in
set_option maxHeartbeats 6400000 in
theorem rsfits_any (w:World) (R:RLay) (s:St) (h:RefAt w R s) (hi:s.InvU) (hl:s.low ≤ s.n) (a:Option Addr) (len cap:Nat) (zs:Nat → Int) (hz:IsRowI w a len cap zs) (hlen:len ≤ 400) (hac:s.acts + 2000 ≤ 1000000000000) :
 Calls Tryz.prog 27 #[.pointer (some ⟨R.rb,0,none⟩),.slice a len cap] w fun e w' => e=.returned (.bool (s.rfTo zs len).isSome) ∧ Still w w':=by
 have HZ:=Lib.hid hz
 have HI:=Lib.hid hi
 have HL:=Lib.hid hl
 have HCP:=Lib.hid (fun Q hQ => rcopy_any w R s h Q hQ)
 have hlI:(len:Int) ≤ 400:=by omega
 obtain ⟨acts,hacts⟩:∃ x,s.acts=x:=⟨_,rfl⟩
 have HAC:=Lib.hid hacts
 rw [hacts] at hac
 clear h hz hi hl hacts
 go_enter Tryz.func27,Tryz.ntmps27
 go_wp2_with fail
 refine HCP.out _ (fun w1 R' hlo hr hs1 => ?_)
 have HR1:=Lib.hid hr
 have HS1:=Lib.hid hs1
 have HLO:=Lib.hid hlo
 clear HCP hr hs1 hlo
 go_wp2_with fail
 go_loopw [6] (fun y W => ∃ (i:Nat) (t:St),y=.int .i64 (i:Int) ∧ i ≤ len ∧ s.rfTo zs i=some t ∧ Hid (t.InvU ∧ t.low ≤ t.n ∧ t.acts ≤ acts + 2 * i) ∧ RefAt W R' t ∧ Still w W) (fun y _ => len + 1 - (intOf y).toNat)
 case atStart => exact ⟨0,s,rfl,Nat.zero_le _,rfl,Lib.hid ⟨HI.out,HL.out,by rw [HAC.out];exact Nat.le_refl _⟩,HR1.out,HS1.out⟩
 case round =>
  obtain ⟨i,t,rfl,hi,hrf,HT,hr,hst⟩:=hrel
  have hi0:(0:Int) ≤ (i:Int):=by omega
  have HRF:=Lib.hid hrf
  have HRT:=Lib.hid hr
  have HST:=Lib.hid hst
  have hrl:=hr.lts.1
  by_cases hin:i < len
  ·have hiI:(i:Int) < (len:Int):=by omega
   obtain ⟨ad,rfl,had,hwf⟩:=HZ.out.2 i hin
   have hal:=World.block_lt_of_cell? w _ had
   have had2:wr.cell? (ad.add i)=some (.int .i64 (zs i)):=(hst.cell (p:=ad.add i) hal (.inl hal)).trans had
   have HNX:Hid (s.rfTo zs (i + 1)=t.rfStep (zs i)):=Lib.hid (by show (s.rfTo zs i).bind _=_;rw [hrf];rfl)
   have HNO:Hid (t.rfStep (zs i)=none → s.rfTo zs len=none):=Lib.hid fun e => by
    have:=rf_stop (s:=s) zs (k:=i + 1) (by rw [HNX.out];exact e) (len - (i + 1))
    rwa [show i + 1 + (len - (i + 1))=len by omega] at this
   have HAD:Hid (∀ W,Still w W → W.cell? (ad.add i)=some (.int .i64 (zs i))):=Lib.hid fun W hW => (hW.cell (p:=ad.add i) hal (.inl hal)).trans had
   generalize zs i=z at *
   clear had hal hrf
   by_cases hzz:z < 1 ∨ 1024 < z
   ·have HE:Hid (s.rfTo zs len=none):=Lib.hid (HNO.out (by unfold St.rfStep;rw [if_pos hzz]))
    have HPL:=Lib.hid (rplace_no wr ⟨R'.rb,0,none⟩ z hzz)
    clear HNO HNX hzz hr hst
    go_wp2_with fail
    refine HPL.out.mono ?_
    rintro e w2 ⟨rfl,rfl⟩
    go_wp2_with fail
    go_ret
    exact ⟨by rw [HE.out];rfl,HST.out⟩
   ·have hz1:1 ≤ z:=by omega
    have hz2:z ≤ 1024:=by omega
    have HPL:=Lib.hid (rplace_any wr R' t hr HT.out.1.mid HT.out.1.refOk HT.out.2.1 z hz1 hz2)
    obtain ⟨⟨p,fr⟩,hpl⟩:∃ r,t.pl z=r:=⟨_,rfl⟩
    rw [hpl] at HPL
    by_cases hp:p < 0
    ·have HE:Hid (s.rfTo zs len=none):=Lib.hid (HNO.out (by unfold St.rfStep;rw [if_neg hzz,hpl,if_pos hp]))
     clear HNO HNX hzz hr hst hpl
     go_wp2_with fail
     refine HPL.out.mono ?_
     rintro e w2 ⟨rfl,hs2⟩
     have HS2:=Lib.hid (Still.trans HST.out hs2)
     clear hs2
     go_wp2_with fail
     go_ret
     exact ⟨by rw [HE.out];rfl,HS2.out⟩
    ·obtain ⟨m,rfl⟩:=Int.eq_ofNat_of_zero_le (show 0 ≤ p by omega)
     have hm0:(0:Int) ≤ (m:Int):=by omega
     have htk:=HT.out.1.takeF HT.out.2.1 hz1 hz2 hpl
     have hsm:=takeF_same t z
     have hmid:=HT.out.1.mid
     have hta:=HT.out.2.2
     have HNT:Hid (s.rfTo zs (i + 1)=some ((t.takeF z).put m 3 z 0)):=Lib.hid (by rw [HNX.out];unfold St.rfStep;rw [if_neg hzz,hpl,if_neg (by omega),Int.toNat_natCast])
     have HT2:Hid (((t.takeF z).put m 3 z 0).InvU ∧ ((t.takeF z).put m 3 z 0).low ≤ ((t.takeF z).put m 3 z 0).n ∧ ((t.takeF z).put m 3 z 0).acts ≤ acts + 2 * (i + 1)):=Lib.hid ⟨htk.2.2 3 0 (by omega) (by omega),by
      show (t.takeF z).low ≤ (t.takeF z).n
      rw [hsm.1];exact takeF_low HT.out.2.1 z,by
      show (t.takeF z).acts + 2 ≤ _
      rw [hsm.2.2.2.2.2.2.2];omega⟩
     have HTK:=Lib.hid (fun W (hW:RefAt W R' t) Q hQ => rtake_any W R' t hW hmid HT.out.1.refOk HT.out.2.1 3 z 0 m fr (by omega) (by omega) hz1 hz2 hpl htk.1 ⟨hmid.ser0,by have:=hmid.ser1;omega⟩ Q hQ)
     clear HNO HNX hzz hr hst hpl htk hsm hmid hta hp
     go_wp2_with fail
     refine HPL.out.mono ?_
     rintro e w2 ⟨rfl,hs2⟩
     have had3:=HAD.out w2 (Still.trans HST.out hs2)
     have HR2:=Lib.hid (HRT.out.still hs2)
     have HS2:=Lib.hid (Still.trans HST.out hs2)
     have hrl2:=(HRT.out.still hs2).lts.1
     clear hs2 had2 hrl
     go_wp2_with fail
     refine HTK.out w2 HR2.out _ (fun w3 hr3 ho3 => ?_)
     have HR3:=Lib.hid hr3
     have HS3:Hid (Still w w3):=Lib.hid (HS2.out.trans' ho3 (.inr HLO.out) (.inr HLO.out))
     clear hr3 ho3
     go_wp2_with fail
     exact ⟨⟨i + 1,_,by go_num,hin,HNT.out,HT2,HR3.out,HS3.out⟩,by first | (simp [intOf];done) | (simp [intOf];omega)⟩
  ·obtain rfl:i=len:=by omega
   clear hr hst
   go_wp2_with fail
   go_ret
   exact ⟨by rw [HRF.out];rfl,HST.out⟩
end Go.Proofs.YtfbcdmhmpfijjaaGreatDoor
