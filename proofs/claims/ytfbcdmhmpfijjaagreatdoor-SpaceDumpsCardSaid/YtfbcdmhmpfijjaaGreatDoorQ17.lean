/-
  Taking pages; what Alloc does.
-/
import Derived.Test.YtfbcdmhmpfijjaaGreatDoorQ16
set_option linter.unusedVariables false
set_option linter.unusedSimpArgs false
set_option linter.unusedSectionVars false
namespace Go.Proofs.YtfbcdmhmpfijjaaGreatDoor
open Go Go.RowKit
def sumTo (f:Nat → Int):Nat → Int
 | 0 => 0
 | n + 1 => sumTo f n + f n
theorem sumTo_congr {f g:Nat → Int}:∀ N,(∀ j,j < N → f j=g j) → sumTo f N=sumTo g N
 | 0,_ => rfl
 | n + 1,h => by
  unfold sumTo
  rw [sumTo_congr n (fun j hj => h j (by omega)),h n (by omega)]
theorem sumTo_one {f g:Nat → Int} (a:Nat) (h:∀ j,j ≠ a → g j=f j):∀ N,a < N → sumTo g N=sumTo f N + (g a - f a)
 | 0,ha => by omega
 | n + 1,ha => by
  unfold sumTo
  by_cases e:a=n
  ·subst e
   rw [sumTo_congr a (fun j hj => h j (by omega))]
   omega
  ·rw [sumTo_one a h n (by omega),h n (fun x => e x.symm)]
   omega
theorem sumTo_nn {f:Nat → Int} (h:∀ j,0 ≤ f j):∀ N,0 ≤ sumTo f N
 | 0 => Int.le_refl _
 | n + 1 => by
  unfold sumTo
  have:=sumTo_nn h n
  have:=h n
  omega
def St.Blk (s:St) (c a:Nat):Prop:=∃ p i,p < s.n ∧ i < Sp.bk c ∧ a=p * 64 + i * Sp.cw c ∧ s.P p=⟨1,c,0⟩
def St.Run (s:St) (p r:Nat):Prop:=1 ≤ r ∧ p + r ≤ s.n ∧ s.P p=⟨2,0,r⟩ ∧ ∀ j,p < j → j < p + r → s.P j=⟨3,0,0⟩
def St.Fit (s:St) (z:Int) (a:Nat):Prop:=(∃ c:Nat,c < 8 ∧ Sp.cls z=(c:Int) ∧ s.Blk c a) ∨ (Sp.cls z=8 ∧ ∃ p,a=p * 64 ∧ s.Run p (Sp.pgs z).toNat)
def St.Beg (s:St) (a:Nat):Prop:=(∃ c,c < 8 ∧ s.Blk c a) ∨ ∃ p r,a=p * 64 ∧ s.Run p r
theorem St.Fit.beg {s:St} {z:Int} {a:Nat} (h:s.Fit z a):s.Beg a:=by
 rcases h with ⟨c,hc,_,hb⟩ | ⟨_,p,hp,hr⟩
 ·exact .inl ⟨c,hc,hb⟩
 ·exact .inr ⟨p,_,hp,hr⟩
theorem blk_page {p i c a:Nat} (hc:c < 8) (hi:i < Sp.bk c) (ha:a=p * 64 + i * Sp.cw c):a / 64=p ∧ a + Sp.cw c ≤ p * 64 + 64:=by
 have h1:=Sp.cw_in c hc i hi
 have h2:=Sp.cw_le c hc
 generalize i * Sp.cw c=x at *
 omega
theorem Sp.wide_blk {z:Int} {c:Nat} (hc:c < 8) (h:Sp.cls z=(c:Int)):Sp.wide z=(Sp.cw c:Int):=by
 unfold Sp.wide Sp.pgs
 rw [if_neg (by rw [if_neg (by omega)];omega),h,Sp.cww_nat c hc]
theorem Sp.wide_run {z:Int} (h:Sp.cls z=8):Sp.wide z=Sp.pgs z * 64 ∧ 1 ≤ Sp.pgs z:=by
 have h1:=Sp.cls_8 h
 have h2:Sp.pgs z=(z + 63) / 64:=by unfold Sp.pgs;rw [if_pos h]
 unfold Sp.wide
 rw [if_pos (by omega)]
 exact ⟨rfl,by omega⟩
theorem St.Fit.lt {s:St} {z:Int} {a:Nat} (h:s.Fit z a):a + (Sp.wide z).toNat ≤ 64 * s.n ∧ a < 64 * s.n:=by
 rcases h with ⟨c,hc,hz,p,i,hp,hi,ha,_⟩ | ⟨hz,p,hp,h1,h2,_⟩
 ·have:=blk_page hc hi ha
  have:=Sp.cw_le c hc
  rw [Sp.wide_blk hc hz]
  omega
 ·obtain ⟨hw,hg⟩:=Sp.wide_run hz
  rw [hw]
  omega
theorem mul_same {i j w:Nat} (h1:i * w ≤ j * w) (h2:j * w < i * w + w):i=j:=by
 have hw:0 < w:=by
  rcases Nat.eq_zero_or_pos w with h | h
  ·subst h;omega
  ·exact h
 have h3:i ≤ j:=Nat.le_of_mul_le_mul_right h1 hw
 have h4:j < i + 1:=Nat.lt_of_mul_lt_mul_right (a:=w) (by rw [Nat.add_mul,Nat.one_mul];exact h2)
 omega
theorem St.Fit.apart {s:St} {z:Int} {a x:Nat} (h:s.Fit z a) (hb:s.Beg x) (hx:x ≠ a):x < a ∨ a + (Sp.wide z).toNat ≤ x:=by
 refine Classical.byContradiction fun hn => hx ?_
 rcases h with ⟨c,hc,hz,p,i,hp,hi,ha,hP⟩ | ⟨hz,p,hp,h1,h2,hP,hj⟩
 ·have hpg:=blk_page hc hi ha
  have hcl:=Sp.cw_le c hc
  rw [Sp.wide_blk hc hz,Int.toNat_natCast] at hn
  have hxp:x / 64=p:=by omega
  rcases hb with ⟨c',hc',q,j,hq,hj,hxq,hQ⟩ | ⟨q,r,hq,_,_,hQ,_⟩
  ·have hqg:=blk_page hc' hj hxq
   obtain rfl:q=p:=by omega
   rw [hP] at hQ
   injection hQ with _ e _
   obtain rfl:c=c':=by omega
   have:i=j:=mul_same (w:=Sp.cw c) (by omega) (by omega)
   subst this
   omega
  ·obtain rfl:q=p:=by omega
   rw [hP] at hQ
   injection hQ with e _ _
   omega
 ·obtain ⟨hw,hg⟩:=Sp.wide_run hz
  rw [hw] at hn
  have hP':∀ q,p ≤ q → q < p + (Sp.pgs z).toNat → s.P q=⟨2,0,(Sp.pgs z).toNat⟩ ∧ q=p ∨ s.P q=⟨3,0,0⟩:=fun q h3 h4 => by
   by_cases e:q=p
   ·subst e;exact .inl ⟨hP,rfl⟩
   ·exact .inr (hj q (by omega) h4)
  rcases hb with ⟨c',hc',q,j,hq,hj2,hxq,hQ⟩ | ⟨q,r,hq,_,_,hQ,_⟩
  ·have hqg:=blk_page hc' hj2 hxq
   rcases hP' q (by omega) (by omega) with ⟨e,_⟩ | e <;> rw [e] at hQ <;> injection hQ with e2 _ _ <;> omega
  ·rcases hP' q (by omega) (by omega) with ⟨e,e2⟩ | e
   ·omega
   ·rw [e] at hQ;injection hQ with e2 _ _;omega
theorem St.Blk.same {s:St} {c c' a:Nat} (hc:c < 8) (hc':c' < 8) (h:s.Blk c a) (h':s.Blk c' a):c=c':=by
 obtain ⟨p,i,hp,hi,ha,hP⟩:=h
 obtain ⟨q,j,hq,hj,hb,hQ⟩:=h'
 have h1:=blk_page hc hi ha
 have h2:=blk_page hc' hj hb
 obtain rfl:p=q:=by omega
 rw [hP] at hQ
 injection hQ with _ e _
 omega
def St.Idx (s:St):Prop:=∀ x a:Int,s.Q x=some a ↔ ∃ n:Nat,a=(n:Int) ∧ s.B 0 n=true ∧ (s.sh n).s=x ∧ 1 ≤ x
def St.LowF (s:St):Prop:=∀ p,p < s.low → s.P p ≠ ⟨0,0,0⟩
theorem St.Idx.of {s t:St} (h:s.Idx) (hQ:t.Q=s.Q) (hB:t.B 0=s.B 0) (hS:t.S=s.S):t.Idx:=fun x a => by
 have hsh:∀ x,t.sh x=s.sh x:=fun x => by unfold St.sh;rw [hS]
 rw [hQ,h x a]
 exact ⟨fun ⟨n,h1,h2,h3⟩ => ⟨n,h1,by rw [hB];exact h2,by rw [hsh];exact h3⟩,fun ⟨n,h1,h2,h3⟩ => ⟨n,h1,by rw [← hB];exact h2,by rw [← hsh];exact h3⟩⟩
theorem St.LowF.of {s t:St} (h:s.LowF) (hP:t.P=s.P) (hl:t.low=s.low):t.LowF:=fun p hp => by rw [hP];exact h p (by rw [← hl];exact hp)
structure St.InvX (s:St) (X:Nat → Prop):Prop where
 n1:1 ≤ s.n
 n2:s.n ≤ 4096
 pages:∀ p,p < s.n → s.P p=⟨0,0,0⟩ ∨ (∃ c:Nat,c < 8 ∧ s.P p=⟨1,c,0⟩) ∨ ∃ h r,s.Run h r ∧ h ≤ p ∧ p < h + r
 obj:∀ a:Nat,s.B 0 a=true → s.FineAt a ∧ s.Fit (s.sh a).z a
 runs:∀ p r,s.Run p r → s.B 0 (p * 64)=true ∨ X (p * 64)
 free:∀ c,c < 8 → ∀ a,s.B (c + 1) a=true ↔ (s.Blk c a ∧ s.B 0 a=false ∧ ¬X a)
 hdr:∀ a:Nat,s.B 0 a=true → s.W a=s.hd a
 lnk:∀ c,c < 8 → ∀ a:Nat,s.B (c + 1) a=true → s.W a=s.link c a
 side:∀ x:Int,s.has x=false → s.S x=none
 ser0:0 ≤ s.ser
 ser1:s.ser ≤ s.acts
 sers:∀ a:Nat,s.B 0 a=true → 0 ≤ (s.sh a).s ∧ (s.sh a).s ≤ s.ser
 room:s.room=sumTo (fun a:Nat => if s.B 0 a then Sp.wide (s.sh a).z else 0) (64 * s.n)
 room2:s.room ≤ 512 * s.acts
 idx:s.Idx
 lowf:s.LowF
abbrev St.Inv (s:St):Prop:=s.InvX fun _ => False
theorem St.InvX.room0 {s:St} {X:Nat → Prop} (h:s.InvX X):0 ≤ s.room:=by
 rw [h.room]
 refine sumTo_nn (fun j => ?_) _
 split
 ·exact (Sp.wide_le _).1
 ·exact Int.le_refl _
theorem St.InvX.fine {s:St} {X:Nat → Prop} (h:s.InvX X):s.Fine:=by
 intro a ha
 unfold St.has at ha
 rw [Bool.and_eq_true,decide_eq_true_eq] at ha
 obtain ⟨n,rfl⟩:=Int.eq_ofNat_of_zero_le ha.1
 exact (h.obj n ha.2).1
theorem sh_same (s:St) (a:Nat) (v:Option Sh) (x:Int) (hx:x ≠ a):(updM s.S a v) x=s.S x:=by
 unfold updM;rw [if_neg hx]
theorem put_sh (s:St) (a:Nat) (k z t:Int) (x:Int):(s.put a k z t).sh x=if x=a then ⟨k,z,if Sp.numbered k then s.ser + 1 else 0,t⟩ else s.sh x:=by
 unfold St.put St.sh
 dsimp only
 unfold updM
 split <;> rfl
theorem put_has (s:St) (a:Nat) (k z t:Int) (x:Nat):(s.put a k z t).B 0 x=if x=a then true else s.B 0 x:=rfl
theorem put_B (s:St) (a:Nat) (k z t:Int) (c:Nat):(s.put a k z t).B (c + 1)=s.B (c + 1):=rfl
theorem put_W (s:St) (a:Nat) (k z t:Int) (x:Nat):(s.put a k z t).W x=if x=a then Sp.hdr a k z else if a ≤ x ∧ x < a + (Sp.wide z).toNat then 0 else s.W x:=rfl
theorem St.InvX.put {s:St} {a:Nat} (h:s.InvX (fun x => x=a)) (hB:s.B 0 a=false) {k z t:Int} (hf:s.Fit z a) (hk:1 ≤ k ∧ k ≤ 31) (hz:1 ≤ z ∧ z ≤ 1024):(s.put a k z t).Inv:=by
 have hlt:=hf.lt
 have hne:∀ x:Nat,x ≠ a → (x:Int) ≠ (a:Int):=fun x hx e => hx (by omega)
 have hob:∀ x,(s.put a k z t).B 0 x=true → x=a ∨ (x ≠ a ∧ s.B 0 x=true):=fun x hx => by
  rw [put_has] at hx
  by_cases e:x=a
  ·exact .inl e
  ·rw [if_neg e] at hx;exact .inr ⟨e,hx⟩
 have hW:∀ x,x ≠ a → s.Beg x → (s.put a k z t).W x=s.W x:=fun x hx hb => by
  rw [put_W,if_neg hx,if_neg (by have:=hf.apart hb hx;omega)]
 refine ⟨h.n1,h.n2,h.pages,?_,?_,?_,?_,?_,?_,?_,?_,?_,?_,?_,?_,h.lowf⟩
 ·intro x hx
  rcases hob x hx with rfl | ⟨e,hx⟩
  ·refine ⟨⟨Int.natCast_nonneg _,by show ((x:Nat):Int) < ((64 * s.n:Nat):Int);omega,?_⟩,?_⟩
   ·rw [put_sh,if_pos rfl];exact ⟨hk.1,hk.2,hz.1,hz.2⟩
   ·rw [put_sh,if_pos rfl];exact hf
  ·obtain ⟨h1,h2⟩:=h.obj x hx
   unfold St.FineAt at h1 ⊢
   rw [put_sh,if_neg (hne x e)]
   exact ⟨h1,h2⟩
 ·intro p r hr
  refine .inl ?_
  rw [put_has]
  rcases h.runs p r hr with h1 | h1
  ·rw [h1];split <;> rfl
  ·rw [if_pos h1]
 ·intro c hc x
  rw [put_B,h.free c hc x,put_has]
  constructor
  ·rintro ⟨h1,h2,h3⟩
   exact ⟨h1,by rw [if_neg h3];exact h2,fun e => e⟩
  ·rintro ⟨h1,h2,_⟩
   by_cases e:x=a
   ·rw [if_pos e] at h2;cases h2
   ·rw [if_neg e] at h2;exact ⟨h1,h2,e⟩
 ·intro x hx
  rcases hob x hx with rfl | ⟨e,hx⟩
  ·unfold St.hd
   rw [put_W,put_sh,if_pos rfl,if_pos rfl]
  ·rw [hW x e (h.obj x hx).2.beg,h.hdr x hx]
   unfold St.hd
   rw [put_sh,if_neg (hne x e)]
 ·intro c hc x hx
  rw [put_B] at hx
  obtain ⟨h1,_,h3⟩:=(h.free c hc x).1 hx
  rw [hW x h3 (.inl ⟨c,hc,h1⟩),h.lnk c hc x hx]
  rfl
 ·intro x hx
  have hxa:x ≠ (a:Int):=fun e => by
   subst e
   unfold St.has at hx
   rw [decide_eq_true (by omega),Int.toNat_natCast,put_has,if_pos rfl] at hx
   cases hx
  refine (sh_same s a _ x hxa).trans (h.side x ?_)
  unfold St.has at hx ⊢
  by_cases h0:0 ≤ x
  ·rw [decide_eq_true h0,put_has,if_neg (by omega)] at hx
   rw [decide_eq_true h0];exact hx
  ·rw [decide_eq_false h0];rfl
 ·show 0 ≤ if Sp.numbered k then s.ser + 1 else s.ser
  have:=h.ser0
  split <;> omega
 ·show (if Sp.numbered k then s.ser + 1 else s.ser) ≤ ((s.acts + 2:Nat):Int)
  have:=h.ser1
  split <;> omega
 ·intro x hx
  have h0:=h.ser0
  show _ ∧ _ ≤ if Sp.numbered k then s.ser + 1 else s.ser
  rcases hob x hx with rfl | ⟨e,hx⟩
  ·rw [put_sh,if_pos rfl]
   dsimp only
   split <;> omega
  ·rw [put_sh,if_neg (hne x e)]
   have:=h.sers x hx
   split <;> omega
 ·show s.room + Sp.wide z=sumTo _ (64 * s.n)
  rw [h.room]
  rw [sumTo_one (f:=fun x:Nat => if s.B 0 x then Sp.wide (s.sh x).z else 0) (g:=fun x:Nat => if (s.put a k z t).B 0 x then Sp.wide ((s.put a k z t).sh x).z else 0) a (fun j hj => by
   rw [put_has,if_neg hj,put_sh,if_neg (hne j hj)]) _ hlt.2]
  rw [put_has,if_pos rfl,put_sh,if_pos rfl,hB]
  simp
 ·show s.room + Sp.wide z ≤ 512 * ((s.acts + 2:Nat):Int)
  have:=h.room2
  have:=(Sp.wide_le z).2
  omega
 ·intro x y
  have hQ:(s.put a k z t).Q=if Sp.numbered k then updM s.Q (s.ser + 1) (some (a:Int)) else s.Q:=rfl
  rw [hQ]
  have hsa:((s.put a k z t).sh a).s=if Sp.numbered k then s.ser + 1 else 0:=by rw [put_sh,if_pos rfl]
  have h0:=h.ser0
  have hold:∀ n:Nat,n ≠ a → ((s.put a k z t).B 0 n=true ∧ ((s.put a k z t).sh n).s=x ↔ s.B 0 n=true ∧ (s.sh n).s=x):=fun n hn => by
   rw [put_has,if_neg hn,put_sh,if_neg (hne n hn)]
  cases hk:Sp.numbered k with
  | true =>
   rw [if_pos rfl]
   rw [hk,if_pos rfl] at hsa
   unfold updM
   by_cases ex:x=s.ser + 1
   ·rw [if_pos ex]
    constructor
    ·intro e
     injection e with e
     exact ⟨a,e.symm,by rw [put_has,if_pos rfl],by rw [hsa,ex],by omega⟩
    ·rintro ⟨n,e,h1,h2,_⟩
     by_cases en:n=a
     ·rw [e,en]
     ·have:=(hold n en).1 ⟨h1,h2⟩
      have:=h.sers n this.1
      omega
   ·rw [if_neg ex,h.idx x y]
    constructor
    ·rintro ⟨n,e,h1,h2,h3⟩
     have en:n ≠ a:=fun en => by rw [en,hB] at h1;cases h1
     obtain ⟨g1,g2⟩:=(hold n en).2 ⟨h1,h2⟩
     exact ⟨n,e,g1,g2,h3⟩
    ·rintro ⟨n,e,h1,h2,h3⟩
     have en:n ≠ a:=fun en => by rw [en,hsa] at h2;exact ex h2.symm
     obtain ⟨g1,g2⟩:=(hold n en).1 ⟨h1,h2⟩
     exact ⟨n,e,g1,g2,h3⟩
  | false =>
   rw [if_neg (by decide)]
   rw [hk,if_neg (by decide)] at hsa
   rw [h.idx x y]
   constructor
   ·rintro ⟨n,e,h1,h2,h3⟩
    have en:n ≠ a:=fun en => by rw [en,hB] at h1;cases h1
    obtain ⟨g1,g2⟩:=(hold n en).2 ⟨h1,h2⟩
    exact ⟨n,e,g1,g2,h3⟩
   ·rintro ⟨n,e,h1,h2,h3⟩
    have en:n ≠ a:=fun en => by rw [en,hsa] at h2;omega
    obtain ⟨g1,g2⟩:=(hold n en).1 ⟨h1,h2⟩
    exact ⟨n,e,g1,g2,h3⟩
end Go.Proofs.YtfbcdmhmpfijjaaGreatDoor
namespace Go.Proofs.YtfbcdmhmpfijjaaGreatDoor
open Go Go.RowKit
theorem next_congr {S T:Nat → Bool} (n:Nat) (f:Int) (h:∀ j:Nat,f ≤ (j:Int) → j < n → S j=T j):Bm.next S n f=Bm.next T n f:=by
 rcases Bm.next_spec S n f with ⟨h1,h2⟩ | ⟨i,h1,h2,h3,h4,h5⟩
 ·rw [h1,Bm.next_none (fun j hj hj2 => by rw [← h j hj hj2];exact h2 j hj hj2)]
 ·rw [h1,Bm.next_eq h2 h3 (by rw [← h i h2 h3];exact h4) (fun j hj hj2 => by rw [← h j hj (by omega)];exact h5 j hj hj2)]
theorem firstFree_free (P:Nat → Pg) (n i:Nat) (h:firstFree P n i < n):(P (firstFree P n i)).free=true:=by
 induction hk:n - i generalizing i with
 | zero =>
  rw [firstFree,dif_neg (by omega)] at h
  omega
 | succ k ih =>
  rw [firstFree,dif_pos (by omega)] at h ⊢
  by_cases e:(P i).free=true
  ·rw [if_pos e];exact e
  ·rw [if_neg e] at h ⊢
   exact ih (i + 1) h (by omega)
theorem firstFree_below (P:Nat → Pg) (n i:Nat):∀ p,i ≤ p → p < firstFree P n i → (P p).free=false:=by
 induction hk:n - i generalizing i with
 | zero =>
  intro p h1 h2
  rw [firstFree] at h2
  by_cases h:i < n
  ·omega
  ·rw [dif_neg h] at h2
   omega
 | succ k ih =>
  intro p h1 h2
  rw [firstFree,dif_pos (by omega)] at h2
  by_cases e:(P i).free=true
  ·rw [if_pos e] at h2;omega
  ·rw [if_neg e] at h2
   by_cases ep:p=i
   ·subst ep;simpa using e
   ·exact ih (i + 1) (by omega) p (by omega) h2
theorem St.InvX.ffBelow {s:St} {X:Nat → Prop} (h:s.InvX X):∀ p,p < s.ff → p < s.n → s.P p ≠ ⟨0,0,0⟩:=fun p hp hn e => by
 by_cases hl:p < s.low
 ·exact h.lowf p hl e
 ·have:=firstFree_below s.P s.n s.low p (by omega) hp
  rw [e] at this;exact absurd this (by decide)
theorem St.InvX.low {s:St} {X:Nat → Prop} (h:s.InvX X) (l:Nat) (hl:∀ p,p < l → s.P p ≠ ⟨0,0,0⟩):({ s with low:=l }:St).InvX X :=
 ⟨h.n1,h.n2,h.pages,h.obj,h.runs,h.free,h.hdr,h.lnk,h.side,h.ser0,h.ser1,h.sers,h.room,h.room2,h.idx.of rfl rfl rfl,hl⟩
theorem setB_ne (s:St) (j k:Nat) (S:Nat → Bool) (h:k ≠ j):(s.setB j S).B k=s.B k:=by unfold St.setB;simp [h]
theorem St.InvX.pick {s:St} (h:s.Inv) {c a:Nat} (hc:c < 8) (ha:s.hd0 c=(a:Int)) :
 s.pick c a=(s.setB (c + 1) (setS (s.B (c + 1)) a false),(a:Int),0,0) ∧ (s.setB (c + 1) (setS (s.B (c + 1)) a false)).InvX (fun x => x=a) ∧ s.Blk c a ∧ s.B 0 a=false:=by
 have hn:s.B (c + 1) a=true ∧ ∀ j,j < a → s.B (c + 1) j=false:=by
  unfold St.hd0 at ha
  rcases Bm.next_spec (s.B (c + 1)) (64 * s.n) 0 with ⟨e,_⟩ | ⟨i,e,_,_,h4,h5⟩
  ·omega
  ·obtain rfl:i=a:=by omega
   exact ⟨h4,fun j hj => h5 j (by omega) hj⟩
 obtain ⟨hb,h0,_⟩:=(h.free c hc a).1 hn.1
 refine ⟨?_,?_,hb,h0⟩
 ·unfold St.pick
  rw [if_pos (h.lnk c hc a hn.1)]
 ·have hB0:(s.setB (c + 1) (setS (s.B (c + 1)) a false)).B 0=s.B 0:=setB_ne _ _ _ _ (by omega)
  have hBo:∀ c',c' ≠ c → (s.setB (c + 1) (setS (s.B (c + 1)) a false)).B (c' + 1)=s.B (c' + 1):=fun c' hc' => setB_ne _ _ _ _ (by omega)
  have hBc:(s.setB (c + 1) (setS (s.B (c + 1)) a false)).B (c + 1)=setS (s.B (c + 1)) a false:=St.setB_at _ _ _
  refine ⟨h.n1,h.n2,h.pages,?_,?_,?_,?_,?_,?_,h.ser0,h.ser1,?_,?_,h.room2,h.idx.of rfl hB0 rfl,h.lowf.of rfl rfl⟩
  ·intro x hx
   rw [hB0] at hx
   exact h.obj x hx
  ·intro p r hr
   rw [hB0]
   exact .inl ((h.runs p r hr).resolve_right id)
  ·intro c' hc' x
   rw [hB0]
   by_cases e:c'=c
   ·subst e
    rw [hBc]
    unfold setS
    by_cases ex:x=a
    ·rw [if_pos ex]
     exact ⟨fun hh => (by cases hh),fun hh => absurd ex hh.2.2⟩
    ·rw [if_neg ex,h.free c' hc x]
     exact ⟨fun hh => ⟨hh.1,hh.2.1,ex⟩,fun hh => ⟨hh.1,hh.2.1,id⟩⟩
   ·rw [hBo c' e,h.free c' hc' x]
    refine ⟨fun hh => ⟨hh.1,hh.2.1,fun ex => ?_⟩,fun hh => ⟨hh.1,hh.2.1,id⟩⟩
    subst ex
    exact e (hh.1.same hc' hc hb)
  ·intro x hx
   rw [hB0] at hx
   exact h.hdr x hx
  ·intro c' hc' x hx
   by_cases e:c'=c
   ·subst e
    rw [hBc] at hx
    have hx2:x ≠ a ∧ s.B (c' + 1) x=true:=by
     unfold setS at hx
     by_cases ex:x=a
     ·rw [if_pos ex] at hx;cases hx
     ·rw [if_neg ex] at hx;exact ⟨ex,hx⟩
    show s.W x=_
    rw [h.lnk c' hc' x hx2.2]
    unfold St.link
    rw [hBc]
    refine congrArg Sp.lnk (next_congr _ _ fun j hj _ => ?_)
    have:a ≤ x:=by
     refine Classical.byContradiction fun hlt => ?_
     have:=hn.2 x (by omega)
     rw [hx2.2] at this;cases this
    unfold setS
    rw [if_neg (by omega)]
   ·rw [hBo c' e] at hx
    show s.W x=_
    rw [h.lnk c' hc' x hx]
    unfold St.link
    rw [hBo c' e]
    rfl
  ·intro x hx
   refine h.side x ?_
   unfold St.has at hx ⊢
   rw [hB0] at hx
   exact hx
  ·intro x hx
   rw [hB0] at hx
   exact h.sers x hx
  ·rw [hB0]
   exact h.room
theorem cutB_at (S:Nat → Bool) (f w:Nat) (x:Nat):∀ k,cutB S f w k x=true ↔ S x=true ∨ ∃ i,i < k ∧ x=f + i * w
 | 0 => by
  show S x=true ↔ _
  exact ⟨.inl,fun h => h.elim id fun ⟨i,hi,_⟩ => by omega⟩
 | k + 1 => by
  show setS (cutB S f w k) (f + k * w) true x=true ↔ _
  unfold setS
  by_cases e:x=f + k * w
  ·rw [if_pos e]
   exact ⟨fun _ => .inr ⟨k,by omega,e⟩,fun _ => rfl⟩
  ·rw [if_neg e,cutB_at S f w x k]
   constructor
   ·rintro (h | ⟨i,hi,hx⟩)
    ·exact .inl h
    ·exact .inr ⟨i,by omega,hx⟩
   ·rintro (h | ⟨i,hi,hx⟩)
    ·exact .inl h
    ·by_cases ei:i=k
     ·subst ei;exact absurd hx e
     ·exact .inr ⟨i,by omega,hx⟩
theorem cutW_in (W:Nat → Int) (lk:Nat → Int) (f w:Nat) (hw:0 < w) (i:Nat):∀ k,i < k → cutW W lk f w k (f + i * w)=lk (f + i * w)
 | 0,h => by omega
 | k + 1,h => by
  show setW (cutW W lk f w k) (f + k * w) (lk (f + k * w)) (f + i * w)=_
  unfold setW
  by_cases e:i=k
  ·subst e;rw [if_pos rfl]
  ·have:i * w < k * w:=Nat.mul_lt_mul_of_pos_right (by omega) hw
   rw [if_neg (by omega)]
   exact cutW_in W lk f w hw i k (by omega)
theorem cutW_out (W:Nat → Int) (lk:Nat → Int) (f w x:Nat):∀ k,(∀ i,i < k → x ≠ f + i * w) → cutW W lk f w k x=W x
 | 0,_ => rfl
 | k + 1,h => by
  show setW (cutW W lk f w k) (f + k * w) (lk (f + k * w)) x=_
  unfold setW
  rw [if_neg (h k (by omega))]
  exact cutW_out W lk f w x k (fun i hi => h i (by omega))
theorem Pg.free_eq {g:Pg} (h:g.free=true):g=⟨0,0,0⟩:=by
 unfold Pg.free at h
 simp only [Bool.and_eq_true,beq_iff_eq] at h
 obtain ⟨k,c,r⟩:=g
 obtain ⟨h1,h2,h3⟩:=h
 dsimp only at h1 h2 h3
 subst h1 h2 h3
 rfl
theorem St.Run.back {s t:St} (hn:t.n=s.n) {ff c:Nat} (hP:t.P=setPg s.P ff ⟨1,c,0⟩) {p r:Nat} (h:t.Run p r):s.Run p r:=by
 obtain ⟨h1,h2,h3,h4⟩:=h
 rw [hn] at h2
 rw [hP] at h3 h4
 refine ⟨h1,h2,?_,fun j hj1 hj2 => ?_⟩
 ·unfold setPg at h3
  by_cases e:p=ff
  ·rw [if_pos e] at h3;injection h3 with e2 _ _;omega
  ·rw [if_neg e] at h3;exact h3
 ·have:=h4 j hj1 hj2
  unfold setPg at this
  by_cases e:j=ff
  ·rw [if_pos e] at this;injection this with e2 _ _;omega
  ·rw [if_neg e] at this;exact this
theorem St.Run.on {s t:St} (hn:t.n=s.n) {ff c:Nat} (hP:t.P=setPg s.P ff ⟨1,c,0⟩) (hff:s.P ff=⟨0,0,0⟩) {p r:Nat} (h:s.Run p r):t.Run p r:=by
 obtain ⟨h1,h2,h3,h4⟩:=h
 unfold St.Run
 rw [hn,hP]
 refine ⟨h1,h2,?_,fun j hj1 hj2 => ?_⟩
 ·unfold setPg
  rw [if_neg (fun e => by rw [e,hff] at h3;injection h3 with e2 _ _;omega)];exact h3
 ·have h5:=h4 j hj1 hj2
  unfold setPg
  rw [if_neg (fun e => by rw [e,hff] at h5;injection h5 with e2 _ _;omega)];exact h5
theorem St.Blk.on {s t:St} (hn:t.n=s.n) {ff c c':Nat} (hP:t.P=setPg s.P ff ⟨1,c,0⟩) (hff:s.P ff=⟨0,0,0⟩) {a:Nat} (h:s.Blk c' a):t.Blk c' a:=by
 obtain ⟨p,i,h1,h2,h3,h4⟩:=h
 refine ⟨p,i,by rw [hn];exact h1,h2,h3,?_⟩
 rw [hP]
 unfold setPg
 rw [if_neg (fun e => by rw [e,hff] at h4;injection h4 with e2 _ _;omega)];exact h4
theorem St.Blk.back {s t:St} (hn:t.n=s.n) {ff c c':Nat} (hP:t.P=setPg s.P ff ⟨1,c,0⟩) {a:Nat} (h:t.Blk c' a):s.Blk c' a ∨ c'=c ∧ ∃ i,i < Sp.bk c ∧ a=ff * 64 + i * Sp.cw c:=by
 obtain ⟨p,i,h1,h2,h3,h4⟩:=h
 rw [hP] at h4
 unfold setPg at h4
 by_cases e:p=ff
 ·rw [if_pos e] at h4
  injection h4 with _ e2 _
  obtain rfl:c'=c:=by omega
  subst e
  exact .inr ⟨rfl,i,h2,h3⟩
 ·rw [if_neg e] at h4
  exact .inl ⟨p,i,by rw [← hn];exact h1,h2,h3,h4⟩
theorem St.Beg.page {s:St} {x:Nat} (h:s.Beg x):s.P (x / 64) ≠ ⟨0,0,0⟩:=by
 intro e
 rcases h with ⟨c,hc,p,i,h1,h2,h3,h4⟩ | ⟨p,r,h1,h2,h3,h4,_⟩
 ·have:=(blk_page hc h2 h3).1
  rw [this,h4] at e
  injection e with e2 _ _
  omega
 ·have:x / 64=p:=by omega
  rw [this,h4] at e
  injection e with e2 _ _
  omega
theorem clrW_out (W:Nat → Int) (i k x:Nat) (h:x < i ∨ i + k ≤ x):clrW W i k x=W x:=by unfold clrW;rw [if_neg (by omega)]
theorem St.InvX.open {s:St} (h:s.Inv) {c:Nat} (hc:c < 8) (hff:s.ff < s.n) (hP:s.P s.ff=⟨0,0,0⟩) (he:∀ a,s.B (c + 1) a=false) :
 (s.open c).Inv ∧ (s.open c).hd0 c=((s.ff * 64:Nat):Int) ∧ (s.open c).B 0=s.B 0:=by
 have hcl:=Sp.cw_le c hc
 have hBc:(s.open c).B (c + 1)=cutB (s.B (c + 1)) (s.ff * 64) (Sp.cw c) (Sp.bk c):=St.setB_at _ _ _
 have hBo:∀ j,j ≠ c + 1 → (s.open c).B j=s.B j:=fun j hj => setB_ne _ _ _ _ hj
 have hB0:(s.open c).B 0=s.B 0:=hBo 0 (by omega)
 have hPp:(s.open c).P=setPg s.P s.ff ⟨1,c,0⟩:=rfl
 have hn:(s.open c).n=s.n:=rfl
 have hW:(s.open c).W=cutW (clrW s.W (s.ff * 64) 64) (fun a:Nat => (s.open c).link c a) (s.ff * 64) (Sp.cw c) (Sp.bk c):=rfl
 have hin:∀ i,i < Sp.bk c → s.ff * 64 + i * Sp.cw c + Sp.cw c ≤ s.ff * 64 + 64:=fun i hi => by have:=Sp.cw_in c hc i hi;omega
 have hWo:∀ x,s.Beg x → (s.open c).W x=s.W x:=fun x hx => by
  have hpg:x / 64 ≠ s.ff:=fun e => hx.page (by rw [e];exact hP)
  rw [hW,cutW_out _ _ _ _ _ _ (fun i hi e => by have:=hin i hi;generalize i * Sp.cw c=y at *;omega),clrW_out _ _ _ _ (by omega)]
 have hnb:∀ x,s.B 0 x=true → s.Beg x:=fun x hx => (h.obj x hx).2.beg
 have hff0:∀ i,i < Sp.bk c → s.B 0 (s.ff * 64 + i * Sp.cw c)=false:=fun i hi => by
  cases e:s.B 0 (s.ff * 64 + i * Sp.cw c) with
  | false => rfl
  | true =>
   refine absurd ?_ (hnb _ e).page
   have h1:=hin i hi
   have:(s.ff * 64 + i * Sp.cw c) / 64=s.ff:=by generalize i * Sp.cw c=y at *;omega
   rw [this];exact hP
 have hlowf:(s.open c).LowF:=fun p hp => by
  have hp:p < s.ff:=hp
  rw [hPp]
  unfold setPg
  rw [if_neg (by omega)]
  exact h.ffBelow p hp (by omega)
 refine ⟨⟨h.n1,h.n2,?_,?_,?_,?_,?_,?_,?_,h.ser0,h.ser1,?_,?_,h.room2,h.idx.of rfl hB0 rfl,hlowf⟩,?_,hB0⟩
 ·intro p hp
  rw [hPp]
  unfold setPg
  by_cases e:p=s.ff
  ·rw [if_pos e];exact .inr (.inl ⟨c,hc,rfl⟩)
  ·rw [if_neg e]
   rcases h.pages p hp with h1 | h1 | ⟨q,r,hr,h2⟩
   ·exact .inl h1
   ·exact .inr (.inl h1)
   ·exact .inr (.inr ⟨q,r,hr.on hn hPp hP,h2⟩)
 ·intro x hx
  rw [hB0] at hx
  obtain ⟨h1,h2⟩:=h.obj x hx
  refine ⟨h1,?_⟩
  rcases h2 with ⟨c',hc',hz,hb⟩ | ⟨hz,p,hp,hr⟩
  ·exact .inl ⟨c',hc',hz,hb.on hn hPp hP⟩
  ·exact .inr ⟨hz,p,hp,hr.on hn hPp hP⟩
 ·intro p r hr
  rw [hB0]
  exact h.runs p r (hr.back hn hPp)
 ·intro c' hc' x
  rw [hB0]
  by_cases e:c'=c
  ·subst e
   rw [hBc,cutB_at]
   constructor
   ·rintro (h1 | ⟨i,hi,hx⟩)
    ·rw [he x] at h1;cases h1
    ·refine ⟨⟨s.ff,i,hff,hi,hx,?_⟩,by rw [hx];exact hff0 i hi,id⟩
     rw [hPp];unfold setPg;rw [if_pos rfl]
   ·rintro ⟨h1,h2,_⟩
    rcases h1.back hn hPp with h3 | ⟨_,h3⟩
    ·exact .inl ((h.free c' hc x).2 ⟨h3,h2,id⟩)
    ·exact .inr h3
  ·rw [hBo (c' + 1) (by omega),h.free c' hc' x]
   constructor
   ·rintro ⟨h1,h2,_⟩
    exact ⟨h1.on hn hPp hP,h2,id⟩
   ·rintro ⟨h1,h2,_⟩
    rcases h1.back hn hPp with h3 | ⟨h3,_⟩
    ·exact ⟨h3,h2,id⟩
    ·exact absurd h3 e
 ·intro x hx
  rw [hB0] at hx
  rw [hWo x (hnb x hx)]
  exact h.hdr x hx
 ·intro c' hc' x hx
  by_cases e:c'=c
  ·subst e
   rw [hBc,cutB_at] at hx
   rcases hx with h1 | ⟨i,hi,hx⟩
   ·rw [he x] at h1;cases h1
   ·rw [hx,hW,cutW_in _ _ _ _ (by omega) i _ hi]
  ·rw [hBo (c' + 1) (by omega)] at hx
   have hb:=((h.free c' hc' x).1 hx).1
   rw [hWo x (.inl ⟨c',hc',hb⟩),h.lnk c' hc' x hx]
   unfold St.link
   rw [hBo (c' + 1) (by omega)]
   rfl
 ·intro x hx
  refine h.side x ?_
  unfold St.has at hx ⊢
  rw [hB0] at hx
  exact hx
 ·intro x hx
  rw [hB0] at hx
  exact h.sers x hx
 ·rw [hB0]
  exact h.room
 ·unfold St.hd0
  rw [hBc]
  refine Bm.next_eq (by omega) (by rw [hn];omega) ((cutB_at _ _ _ _ _).2 (.inr ⟨0,by omega,by omega⟩)) (fun j _ hj => ?_)
  cases e:cutB (s.B (c + 1)) (s.ff * 64) (Sp.cw c) (Sp.bk c) j with
  | false => rfl
  | true =>
   rcases (cutB_at _ _ _ _ _).1 e with h1 | ⟨i,_,hx⟩
   ·rw [he j] at h1;cases h1
   ·generalize i * Sp.cw c=y at *;omega
end Go.Proofs.YtfbcdmhmpfijjaaGreatDoor
namespace Go.Proofs.YtfbcdmhmpfijjaaGreatDoor
open Go Go.RowKit
theorem seekRun_free (P:Nat → Pg) (n m:Nat):∀ (d i g:Nat),n - i ≤ d → g ≤ i → (∀ j,i - g ≤ j → j < i → (P j).free=true) → g < m → ∀ h,seekRun P n m i g=some h → ∀ j,h ≤ j → j < h + m → (P j).free=true
 | 0,i,g,hd,hg,hf,hgm,h,e => by
  rw [seekRun,dif_neg (by omega)] at e;cases e
 | d + 1,i,g,hd,hg,hf,hgm,h,e => by
  rw [seekRun] at e
  split at e
  ·split at e
   ·next hfi =>
    split at e
    ·injection e with e
     intro j hj1 hj2
     by_cases ej:j=i
     ·subst ej;exact hfi
     ·exact hf j (by omega) (by omega)
    ·refine seekRun_free P n m d (i + 1) (g + 1) (by omega) (by omega) (fun j hj1 hj2 => ?_) (by omega) h e
     by_cases ej:j=i
     ·subst ej;exact hfi
     ·exact hf j (by omega) (by omega)
   ·exact seekRun_free P n m d (i + 1) 0 (by omega) (by omega) (fun j hj1 hj2 => by omega) (by omega) h e
  ·cases e
theorem St.InvX.run2 {s:St} {X:Nat → Prop} (h:s.InvX X) {p:Nat} {c r:Int} (hp:p < s.n) (hP:s.P p=⟨2,c,r⟩):∃ m:Nat,r=(m:Int) ∧ s.Run p m:=by
 rcases h.pages p hp with h1 | ⟨c,_,h1⟩ | ⟨q,m,hr,h1,h2⟩
 ·rw [h1] at hP;injection hP with e _ _;omega
 ·rw [h1] at hP;injection hP with e _ _;omega
 ·obtain ⟨r1,r2,r3,r4⟩:=hr
  by_cases e:q=p
  ·subst e
   rw [hP] at r3
   injection r3 with _ _ e3
   exact ⟨m,e3,r1,r2,by rw [hP,e3];rename_i e2;rw [e2],r4⟩
  ·have:=r4 p (by omega) h2
   rw [this] at hP
   injection hP with e2 _ _
   omega
theorem St.InvX.pagesTaken {s:St} (h:s.Inv) {q m l:Nat} (hl:∀ p,p < l → p < s.n → s.P p ≠ ⟨0,0,0⟩) (hl2:l ≤ s.n) (hm:1 ≤ m) (hq:q + m ≤ s.n) (hf:∀ j,q ≤ j → j < q + m → s.P j=⟨0,0,0⟩) :
 ({ s with P:=runPg s.P q m,low:=l }:St).InvX (fun x => x=q * 64) ∧ ({ s with P:=runPg s.P q m,low:=l }:St).Run q m ∧ s.B 0 (q * 64)=false:=by
 have hin:∀ j,q ≤ j → j < q + m → runPg s.P q m j=⟨2,0,m⟩ ∧ j=q ∨ runPg s.P q m j=⟨3,0,0⟩:=fun j h1 h2 => by
  unfold runPg
  by_cases e:j=q
  ·rw [if_pos e];exact .inl ⟨rfl,e⟩
  ·rw [if_neg e,if_pos ⟨h1,h2⟩];exact .inr rfl
 have hout:∀ j,s.P j ≠ ⟨0,0,0⟩ → runPg s.P q m j=s.P j:=fun j hj => by
  unfold runPg
  have hno:¬(q ≤ j ∧ j < q + m):=fun hh => hj (hf j hh.1 hh.2)
  rw [if_neg (by omega),if_neg hno]
 have hno:∀ j,¬(q ≤ j ∧ j < q + m) → runPg s.P q m j=s.P j:=fun j hj => by
  unfold runPg
  rw [if_neg (by omega),if_neg hj]
 have hrun:∀ p r,s.Run p r → ({ s with P:=runPg s.P q m,low:=l }:St).Run p r:=fun p r ⟨h1,h2,h3,h4⟩ =>
  ⟨h1,h2,(hout p (by rw [h3];intro e;injection e with e _ _;omega)).trans h3,fun j hj1 hj2 => (hout j (by rw [h4 j hj1 hj2];intro e;injection e with e _ _;omega)).trans (h4 j hj1 hj2)⟩
 have hblk:∀ c x,s.Blk c x → ({ s with P:=runPg s.P q m,low:=l }:St).Blk c x:=fun c x ⟨p,i,h1,h2,h3,h4⟩ =>
  ⟨p,i,h1,h2,h3,(hout p (by rw [h4];intro e;injection e with e _ _;omega)).trans h4⟩
 have hback:∀ c x,({ s with P:=runPg s.P q m,low:=l }:St).Blk c x → s.Blk c x:=fun c x ⟨p,i,h1,h2,h3,h4⟩ => by
  refine ⟨p,i,h1,h2,h3,?_⟩
  have h4:runPg s.P q m p=_:=h4
  by_cases e:q ≤ p ∧ p < q + m
  ·rcases hin p e.1 e.2 with ⟨e2,_⟩ | e2 <;> rw [e2] at h4 <;> injection h4 with e3 _ _ <;> omega
  ·rw [hno p e] at h4;exact h4
 have hB:s.B 0 (q * 64)=false:=by
  cases e:s.B 0 (q * 64) with
  | false => rfl
  | true =>
   refine absurd ?_ (h.obj _ e).2.beg.page
   rw [show q * 64 / 64=q by omega]
   exact hf q (by omega) (by omega)
 have hlow:({ s with P:=runPg s.P q m,low:=l }:St).LowF:=fun p hp => by
  have hp:p < l:=hp
  show runPg s.P q m p ≠ _
  rw [hout p (hl p hp (by omega))]
  exact hl p hp (by omega)
 refine ⟨⟨h.n1,h.n2,?_,?_,?_,?_,h.hdr,h.lnk,h.side,h.ser0,h.ser1,h.sers,h.room,h.room2,h.idx.of rfl rfl rfl,hlow⟩,⟨hm,hq,?_,fun j hj1 hj2 => ?_⟩,hB⟩
 ·intro p hp
  by_cases e:q ≤ p ∧ p < q + m
  ·refine .inr (.inr ⟨q,m,⟨hm,hq,?_,fun j hj1 hj2 => ?_⟩,e⟩)
   ·rcases hin q (by omega) (by omega) with ⟨e2,_⟩ | e2
    ·exact e2
    ·unfold runPg at e2;rw [if_pos rfl] at e2;injection e2 with e3 _ _;omega
   ·rcases hin j (by omega) hj2 with ⟨_,e2⟩ | e2
    ·omega
    ·exact e2
  ·rcases h.pages p hp with h1 | ⟨c,hc,h1⟩ | ⟨x,r,hr,h2⟩
   ·exact .inl ((hno p e).trans h1)
   ·exact .inr (.inl ⟨c,hc,(hno p e).trans h1⟩)
   ·exact .inr (.inr ⟨x,r,hrun x r hr,h2⟩)
 ·intro x hx
  obtain ⟨h1,h2⟩:=h.obj x hx
  refine ⟨h1,?_⟩
  rcases h2 with ⟨c',hc',hz,hb⟩ | ⟨hz,p,hp,hr⟩
  ·exact .inl ⟨c',hc',hz,hblk _ _ hb⟩
  ·exact .inr ⟨hz,p,hp,hrun _ _ hr⟩
 ·intro p r ⟨h1,h2,h3,h4⟩
  have h3:runPg s.P q m p=_:=h3
  by_cases e:q ≤ p ∧ p < q + m
  ·rcases hin p e.1 e.2 with ⟨_,e2⟩ | e2
   ·exact .inr (by rw [e2])
   ·rw [e2] at h3;injection h3 with e3 _ _;omega
  ·rw [hno p e] at h3
   obtain ⟨m2,e2,hr⟩:=h.run2 (show p < s.n from by have:p + r ≤ s.n:=h2;omega) h3
   obtain rfl:r=m2:=by omega
   exact .inl ((h.runs p r hr).resolve_right id)
 ·intro c hc x
  show s.B (c + 1) x=true ↔ _
  rw [h.free c hc x]
  constructor
  ·rintro ⟨h1,h2,_⟩
   refine ⟨hblk c x h1,h2,fun e => ?_⟩
   refine absurd ?_ (St.Beg.page (.inl ⟨c,hc,h1⟩))
   rw [e,show q * 64 / 64=q by omega]
   exact hf q (by omega) (by omega)
  ·rintro ⟨h1,h2,_⟩
   exact ⟨hback c x h1,h2,id⟩
 ·show runPg s.P q m q=_
  unfold runPg;rw [if_pos rfl]
 ·show runPg s.P q m j=_
  unfold runPg;rw [if_neg (by omega),if_pos ⟨by omega,hj2⟩]
structure St.Took (s s1:St) (z:Int) (a:Nat):Prop where
 inv:s1.InvX (fun x => x=a)
 fit:s1.Fit z a
 b0:s1.B 0=s.B 0
 new:s.B 0 a=false
 n:s1.n=s.n
 S:s1.S=s.S
 Q:s1.Q=s.Q
 ser:s1.ser=s.ser
 room:s1.room=s.room
 acts:s1.acts=s.acts
theorem St.InvX.take {s:St} (h:s.Inv) {z:Int} (hz:1 ≤ z ∧ z ≤ 1024) (hlow:s.low ≤ s.n) :
 (∃ l,s.take z=({ s with low:=l },0,20,0) ∧ ({ s with low:=l }:St).Inv) ∨ ∃ s1 a,s.take z=(s1,((a:Nat):Int),0,0) ∧ s.Took s1 z a:=by
 have hffn:s.ff ≤ s.n:=firstFree_le _ _ _ hlow
 unfold St.take
 by_cases h8:Sp.cls z=8
 ·rw [if_pos h8]
  obtain ⟨hw,hg⟩:=Sp.wide_run h8
  cases e:s.runAt (Sp.pgs z).toNat with
  | none => exact .inl ⟨_,rfl,h.low _ (fun p hp => h.ffBelow p hp (by omega))⟩
  | some q =>
   have h1:q + (Sp.pgs z).toNat ≤ s.n:=seekRun_in s.P s.n _ (by omega) _ s.ff 0 (Nat.le_refl _) (by omega) (by omega) q e
   have h2:=seekRun_free s.P s.n _ _ s.ff 0 (Nat.le_refl _) (by omega) (fun j hj1 hj2 => by omega) (by omega) q e
   obtain ⟨t1,t2,t3⟩:=h.pagesTaken (l:=s.ff) h.ffBelow hffn (by omega) h1 (fun j hj1 hj2 => Pg.free_eq (h2 j hj1 hj2))
   exact .inr ⟨_,q * 64,rfl,t1,.inr ⟨h8,q,rfl,t2⟩,rfl,t3,rfl,rfl,rfl,rfl,rfl,rfl⟩
 ·rw [if_neg h8]
  have hci:=Sp.cls_in hz.1 hz.2
  obtain ⟨c,hcz⟩:∃ c:Nat,Sp.cls z=(c:Int):=⟨(Sp.cls z).toNat,by omega⟩
  have hc:c < 8:=by omega
  rw [hcz,Int.toNat_natCast]
  by_cases h0:0 ≤ s.hd0 c
  ·rw [if_pos h0]
   obtain ⟨a,ha⟩:=Int.eq_ofNat_of_zero_le h0
   rw [ha,Int.toNat_natCast]
   obtain ⟨p1,p2,p3,p4⟩:=h.pick hc ha
   exact .inr ⟨_,a,p1,p2,.inl ⟨c,hc,hcz,p3⟩,setB_ne _ _ _ _ (by omega),p4,rfl,rfl,rfl,rfl,rfl,rfl⟩
  ·rw [if_neg h0]
   by_cases hf:s.ff=s.n
   ·rw [if_pos hf]
    exact .inl ⟨_,rfl,h.low _ (fun p hp => h.ffBelow p hp (by omega))⟩
   ·rw [if_neg hf]
    have hP:=Pg.free_eq (firstFree_free s.P s.n s.low (show s.ff < s.n by omega))
    have he:∀ a,s.B (c + 1) a=false:=by
     unfold St.hd0 at h0
     rcases Bm.next_spec (s.B (c + 1)) (64 * s.n) 0 with ⟨_,e⟩ | ⟨i,e,_⟩
     ·intro a
      cases eb:s.B (c + 1) a with
      | false => rfl
      | true =>
       obtain ⟨⟨p,i,h1,h2,h3,_⟩,_⟩:=(h.free c hc a).1 eb
       have:=blk_page hc h2 h3
       have:=e a (by omega) (by omega)
       rw [eb] at this;cases this
     ·omega
    obtain ⟨o1,o2,o3⟩:=h.open hc (by omega) hP he
    obtain ⟨p1,p2,p3,p4⟩:=o1.pick hc o2
    rw [o3] at p4
    exact .inr ⟨_,s.ff * 64,p1,p2,.inl ⟨c,hc,hcz,p3⟩,(setB_ne _ _ _ _ (by omega)).trans o3,p4,rfl,rfl,rfl,rfl,rfl,rfl⟩
theorem Sp.fits_kind {k z:Int} (h:Sp.fits k z=true):1 ≤ k ∧ k ≤ 31:=by
 unfold Sp.fits at h
 rw [Bool.and_eq_true,decide_eq_true_eq] at h
 have h:=h.1
 unfold Sp.base at h
 repeat' split at h
 all_goals omega
theorem alloc_inv (w:World) (L:Lay) (s:St) (h:SpaceAt w L s) (hi:s.Inv) (k z t:Int) (hz:(Lit.int .i64 z).wf=true) (ha:s.acts + 2 ≤ 1000000000000) (Q:Ending → World → Prop)
 (h24:Sp.fits k z=false → ∀ w',SpaceAt w' L s → Only L.lo L.hi w w' → Q (.returned (.tuple #[.int .i64 0,faultV 24 0])) w')
 (h20:∀ l w',Sp.fits k z=true → s.take z=({ s with low:=l },0,20,0) → SpaceAt w' L { s with low:=l } → ({ s with low:=l }:St).Inv → Only L.lo L.hi w w' → Q (.returned (.tuple #[.int .i64 0,faultV 20 0])) w')
 (hok:∀ s1 (a:Nat) w',Sp.fits k z=true → s.take z=(s1,(a:Int),0,0) → s.Took s1 z a → SpaceAt w' L (s1.put a k z t) → (s1.put a k z t).Inv → Only L.lo L.hi w w' → Q (.returned (.tuple #[.int .i64 (a:Int),faultV 0 0])) w') :
 Calls Tryz.prog 19 #[.pointer (some ⟨L.sb,0,none⟩),.int .i64 k,.int .i64 z,.int .i64 t] w Q:=by
 cases hf:Sp.fits k z with
 | false =>
  refine (alloc_shape w L s h k z t hz hf).mono ?_
  rintro e w' ⟨rfl,hs⟩
  exact h24 hf w' (h.still hs) (hs.any _ _)
 | true =>
  have hz2:=Sp.fits_size hf
  have hk:=Sp.fits_kind hf
  rcases hi.take hz2 h.lowle with ⟨l,e,hil⟩ | ⟨s1,a,e,ht⟩
  ·refine alloc_full w L s h k z t hf (by rw [e];exact (by decide:(20:Int) ≠ 0)) Q (fun w' h1 h2 => ?_)
   rw [e] at h1 ⊢
   exact h20 l w' hf e h1 hil h2
  ·have hr:=hi.room0
   have hr2:=hi.room2
   have hs0:=hi.ser0
   have hs1:=hi.ser1
   refine alloc_ok w L s s1 h k z t a hf hk e ht.n (by rw [← ht.n];exact ht.fit.lt.1) (by rw [ht.ser];omega) (by rw [ht.room];omega) (by rw [ht.acts];omega) Q (fun w' h1 h2 => ?_)
   exact hok s1 a w' hf e ht h1 (ht.inv.put (by rw [ht.b0];exact ht.new) ht.fit hk hz2) h2
end Go.Proofs.YtfbcdmhmpfijjaaGreatDoor
