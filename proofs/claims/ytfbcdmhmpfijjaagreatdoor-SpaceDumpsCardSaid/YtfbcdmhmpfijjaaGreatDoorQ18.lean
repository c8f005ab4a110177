/-
  What tidying the pages does to a space.
-/
import Derived.Test.YtfbcdmhmpfijjaaGreatDoorQ17
set_option linter.unusedVariables false
set_option linter.unusedSimpArgs false
set_option linter.unusedSectionVars false
namespace Go.Proofs.YtfbcdmhmpfijjaaGreatDoor
open Go Go.RowKit
structure St.Mid (s:St):Prop where
 n1:1 ≤ s.n
 n2:s.n ≤ 4096
 pages:∀ p,p < s.n → s.P p=⟨0,0,0⟩ ∨ (∃ c:Nat,c < 8 ∧ s.P p=⟨1,c,0⟩) ∨ ∃ h r,s.Run h r ∧ h ≤ p ∧ p < h + r
 obj:∀ a:Nat,s.B 0 a=true → s.FineAt a ∧ s.Fit (s.sh a).z a
 runs:∀ p r,s.Run p r → s.B 0 (p * 64)=true
 side:∀ x:Int,s.has x=false → s.S x=none
 ser0:0 ≤ s.ser
 ser1:s.ser ≤ s.acts
 sers:∀ a:Nat,s.B 0 a=true → 0 ≤ (s.sh a).s ∧ (s.sh a).s ≤ s.ser
 room:s.room=sumTo (fun a:Nat => if s.B 0 a then Sp.wide (s.sh a).z else 0) (64 * s.n)
 room2:s.room ≤ 512 * s.acts
 idx:s.Idx
 lowf:s.LowF
theorem St.InvX.mid {s:St} (h:s.Inv):s.Mid:=⟨h.n1,h.n2,h.pages,h.obj,fun p r hr => (h.runs p r hr).resolve_right id,h.side,h.ser0,h.ser1,h.sers,h.room,h.room2,h.idx,h.lowf⟩
theorem St.Mid.room0 {s:St} (h:s.Mid):0 ≤ s.room:=by
 rw [h.room]
 refine sumTo_nn (fun j => ?_) _
 split
 ·exact (Sp.wide_le _).1
 ·exact Int.le_refl _
theorem St.Run.apart {s:St} {h r p m:Nat} (h1:s.Run h r) (h2:s.Run p m) (hne:h ≠ p):h + r ≤ p ∨ p + m ≤ h:=by
 obtain ⟨a1,a2,a3,a4⟩:=h1
 obtain ⟨b1,b2,b3,b4⟩:=h2
 refine Classical.byContradiction fun hn => ?_
 by_cases e:h < p
 ·have:=a4 p e (by omega)
  rw [this] at b3;injection b3 with e2 _ _;omega
 ·have:=b4 h (by omega) (by omega)
  rw [this] at a3;injection a3 with e2 _ _;omega
theorem St.Run.same {s:St} {p r m:Nat} (h1:s.Run p r) (h2:s.Run p m):r=m:=by
 have e:=h1.2.2.1
 rw [h2.2.2.1] at e
 injection e with _ _ e3
 omega
theorem drop_has (s:St) (a x:Nat):(s.drop a).B 0 x=if x=a then false else s.B 0 x:=rfl
theorem drop_sh (s:St) (a:Nat) (x:Int) (hx:x ≠ a):(s.drop a).sh x=s.sh x:=by
 unfold St.drop St.sh
 dsimp only
 unfold updM
 rw [if_neg hx]
theorem drop_small (s:St) (a:Nat) (h:Sp.cls (s.sh a).z ≠ 8):(s.drop a).P=s.P:=by
 unfold St.drop
 dsimp only
 rw [if_neg h]
theorem drop_big (s:St) (a m:Nat) (h:Sp.cls (s.sh a).z=8) (hP:s.P (a / 64)=⟨2,0,m⟩) (hm:1 ≤ m):(s.drop a).P=clrPg s.P (a / 64) m:=by
 unfold St.drop
 dsimp only
 rw [if_pos h,hP]
 show clrPg s.P (a / 64) (max 1 ((m:Nat):Int).toNat)=_
 rw [Int.toNat_natCast,show max 1 m=m by omega]
theorem St.Mid.dropOk {s:St} (h:s.Mid) (hacts:s.acts ≤ 1000000000000) {a:Nat} (ha:s.B 0 a=true):s.DropOk a:=by
 have h0:=h.room0
 have h1:=h.room2
 have h2:=h.sers a ha
 have h3:=h.ser1
 refine ⟨by omega,by omega,fun h8 => ?_⟩
 rcases (h.obj a ha).2 with ⟨c,hc,hz,_⟩ | ⟨_,p,hp,r1,r2,r3,r4⟩
 ·omega
 ·have hpg:a / 64=p:=by omega
  rw [hpg]
  unfold St.Givable
  rw [r3]
  refine ⟨by omega,rfl,(by decide:(2:Int) ≠ 3),by show (0:Int) ≤ (((Sp.pgs (s.sh (a:Int)).z).toNat:Nat):Int);omega,?_⟩
  show p + max 1 ((((Sp.pgs (s.sh (a:Int)).z).toNat:Nat):Int)).toNat ≤ s.n
  rw [Int.toNat_natCast]
  omega
theorem St.Mid.dropP {s:St} (h:s.Mid) {a:Nat} (ha:s.B 0 a=true) :
 (s.drop a).P=s.P ∧ Sp.cls (s.sh a).z ≠ 8 ∨ ∃ p m,a=p * 64 ∧ s.Run p m ∧ (s.drop a).P=clrPg s.P p m:=by
 rcases (h.obj a ha).2 with ⟨c,hc,hz,_⟩ | ⟨h8,p,hp,hr⟩
 ·exact .inl ⟨drop_small s a (by omega),by omega⟩
 ·refine .inr ⟨p,_,hp,hr,?_⟩
  have hpg:a / 64=p:=by omega
  have:=drop_big s a _ h8 (by rw [hpg];exact hr.2.2.1) hr.1
  rw [this,hpg]
theorem clrPg_in {P:Nat → Pg} {p m j:Nat} (h1:p ≤ j) (h2:j < p + m):clrPg P p m j=⟨0,0,0⟩:=by unfold clrPg;rw [if_pos ⟨h1,h2⟩]
theorem clrPg_out {P:Nat → Pg} {p m j:Nat} (h:¬(p ≤ j ∧ j < p + m)):clrPg P p m j=P j:=by unfold clrPg;rw [if_neg h]
theorem St.Run.inside {s:St} {p m j:Nat} (h:s.Run p m) (h1:p ≤ j) (h2:j < p + m):s.P j=⟨2,0,m⟩ ∧ j=p ∨ s.P j=⟨3,0,0⟩:=by
 by_cases e:j=p
 ·subst e;exact .inl ⟨h.2.2.1,rfl⟩
 ·exact .inr (h.2.2.2 j (by omega) h2)
theorem St.Mid.drop {s:St} (h:s.Mid) {a:Nat} (ha:s.B 0 a=true):(s.drop a).Mid ∧ (∀ c x,(s.drop a).Blk c x ↔ s.Blk c x):=by
 have hne:∀ x:Nat,x ≠ a → (x:Int) ≠ (a:Int):=fun x hx e => hx (by omega)
 have hob:∀ x,(s.drop a).B 0 x=true → x ≠ a ∧ s.B 0 x=true:=fun x hx => by
  rw [drop_has] at hx
  by_cases e:x=a
  ·rw [if_pos e] at hx;cases hx
  ·rw [if_neg e] at hx;exact ⟨e,hx⟩
 have hP:=h.dropP ha
 have hblk:∀ c x,(s.drop a).Blk c x ↔ s.Blk c x:=fun c x => by
  rcases hP with ⟨hP,_⟩ | ⟨p,m,hp,hr,hP⟩
  ·unfold St.Blk;rw [hP];exact Iff.rfl
  ·constructor
   ·rintro ⟨q,i,h1,h2,h3,h4⟩
    rw [hP] at h4
    refine ⟨q,i,h1,h2,h3,?_⟩
    by_cases e:p ≤ q ∧ q < p + m
    ·rw [clrPg_in e.1 e.2] at h4;injection h4 with e2 _ _;omega
    ·rw [clrPg_out e] at h4;exact h4
   ·rintro ⟨q,i,h1,h2,h3,h4⟩
    refine ⟨q,i,h1,h2,h3,?_⟩
    rw [hP,clrPg_out (fun e => ?_)]
    ·exact h4
    ·rcases hr.inside e.1 e.2 with ⟨e2,_⟩ | e2 <;> rw [e2] at h4 <;> injection h4 with e3 _ _ <;> omega
 have hrun:∀ q r,s.Run q r → q * 64 ≠ a → (s.drop a).Run q r:=fun q r hq hqa => by
  rcases hP with ⟨hP,_⟩ | ⟨p,m,hp,hr,hP⟩
  ·unfold St.Run;rw [hP];exact hq
  ·have hap:=hq.apart hr (by omega)
   obtain ⟨h1,h2,h3,h4⟩:=hq
   refine ⟨h1,h2,?_,fun j hj1 hj2 => ?_⟩
   ·rw [hP,clrPg_out (by omega)];exact h3
   ·rw [hP,clrPg_out (by omega)];exact h4 j hj1 hj2
 have hback:∀ q r,(s.drop a).Run q r → s.Run q r ∧ q * 64 ≠ a:=fun q r hq => by
  rcases hP with ⟨hP,h8⟩ | ⟨p,m,hp,hr,hP⟩
  ·unfold St.Run at hq;rw [hP] at hq
   refine ⟨hq,fun e => ?_⟩
   rcases (h.obj a ha).2 with ⟨c,hc,hz,b,i,h1,h2,h3,h4⟩ | ⟨h9,_⟩
   ·have:=(blk_page hc h2 h3).1
    obtain rfl:b=q:=by omega
    rw [hq.2.2.1] at h4;injection h4 with e3 _ _;omega
   ·exact h8 h9
  ·obtain ⟨h1,h2,h3,h4⟩:=hq
   rw [hP] at h3 h4
   have hq:¬(p ≤ q ∧ q < p + m):=fun e => by rw [clrPg_in e.1 e.2] at h3;injection h3 with e2 _ _;omega
   rw [clrPg_out hq] at h3
   refine ⟨⟨h1,h2,h3,fun j hj1 hj2 => ?_⟩,fun e => hq ⟨by omega,by have:=hr.1;omega⟩⟩
   have:=h4 j hj1 hj2
   by_cases e:p ≤ j ∧ j < p + m
   ·rw [clrPg_in e.1 e.2] at this;injection this with e2 _ _;omega
   ·rw [clrPg_out e] at this;exact this
 refine ⟨⟨h.n1,h.n2,?_,?_,?_,?_,h.ser0,h.ser1,?_,?_,?_,?_,?_⟩,hblk⟩
 ·intro j hj
  rcases hP with ⟨hP,_⟩ | ⟨p,m,hp,hr,hP2⟩
  ·rcases h.pages j hj with h1 | h1 | ⟨q,r,h1,h2⟩
   ·exact .inl (by rw [hP];exact h1)
   ·exact .inr (.inl (by rw [hP];exact h1))
   ·exact .inr (.inr ⟨q,r,by unfold St.Run;rw [hP];exact h1,h2⟩)
  ·by_cases e:p ≤ j ∧ j < p + m
   ·exact .inl (by rw [hP2,clrPg_in e.1 e.2])
   ·rcases h.pages j hj with h1 | ⟨c,hc,h1⟩ | ⟨q,r,h1,h2⟩
    ·exact .inl (by rw [hP2,clrPg_out e];exact h1)
    ·exact .inr (.inl ⟨c,hc,by rw [hP2,clrPg_out e];exact h1⟩)
    ·refine .inr (.inr ⟨q,r,hrun q r h1 (fun e2 => ?_),h2⟩)
     obtain rfl:q=p:=by omega
     have:=h1.same hr
     omega
 ·intro x hx
  obtain ⟨e,hx⟩:=hob x hx
  obtain ⟨h1,h2⟩:=h.obj x hx
  unfold St.FineAt at h1 ⊢
  rw [drop_sh s a x (hne x e)]
  refine ⟨h1,?_⟩
  rcases h2 with ⟨c,hc,hz,hb⟩ | ⟨hz,q,hq,hr⟩
  ·exact .inl ⟨c,hc,hz,(hblk c x).2 hb⟩
  ·exact .inr ⟨hz,q,hq,hrun q _ hr (by omega)⟩
 ·intro q r hq
  obtain ⟨h1,h2⟩:=hback q r hq
  rw [drop_has,if_neg h2]
  exact h.runs q r h1
 ·intro x hx
  by_cases e:x=(a:Int)
  ·show updM s.S (a:Int) none x=none
   unfold updM;rw [if_pos e]
  ·refine (sh_same s a none x e).trans (h.side x ?_)
   unfold St.has at hx ⊢
   by_cases h0:0 ≤ x
   ·rw [decide_eq_true h0,drop_has,if_neg (by omega)] at hx
    rw [decide_eq_true h0];exact hx
   ·rw [decide_eq_false h0];rfl
 ·intro x hx
  obtain ⟨e,hx⟩:=hob x hx
  rw [drop_sh s a x (hne x e)]
  exact h.sers x hx
 ·show s.room - Sp.wide (s.sh (a:Int)).z=sumTo _ (64 * s.n)
  rw [h.room,sumTo_one (f:=fun x:Nat => if s.B 0 x then Sp.wide (s.sh x).z else 0) (g:=fun x:Nat => if (s.drop a).B 0 x then Sp.wide ((s.drop a).sh x).z else 0) a (fun j hj => by
   rw [drop_has,if_neg hj,drop_sh s a j (hne j hj)]) _ (h.obj a ha).2.lt.2]
  rw [drop_has,if_pos rfl,ha]
  simp
  omega
 ·show s.room - Sp.wide (s.sh (a:Int)).z ≤ 512 * (s.acts:Int)
  have:=h.room2
  have:=(Sp.wide_le (s.sh (a:Int)).z).1
  omega
 ·intro x y
  have hQ:(s.drop a).Q=if 0 < (s.sh a).s then updM s.Q (s.sh a).s none else s.Q:=rfl
  rw [hQ]
  have hold:∀ n:Nat,(s.drop a).B 0 n=true ∧ ((s.drop a).sh n).s=x ↔ n ≠ a ∧ s.B 0 n=true ∧ (s.sh n).s=x:=fun n => by
   rw [drop_has]
   by_cases en:n=a
   ·rw [if_pos en];exact ⟨fun hh => (by cases hh.1),fun hh => absurd en hh.1⟩
   ·rw [if_neg en,drop_sh s a n (hne n en)];exact ⟨fun hh => ⟨en,hh⟩,fun hh => hh.2⟩
  by_cases hs:0 < (s.sh a).s
  ·rw [if_pos hs]
   unfold updM
   by_cases ex:x=(s.sh a).s
   ·rw [if_pos ex]
    refine ⟨fun e => (by cases e),?_⟩
    rintro ⟨n,e,h1,h2,h3⟩
    obtain ⟨g1,g2,g3⟩:=(hold n).1 ⟨h1,h2⟩
    have e1:=(h.idx x n).2 ⟨n,rfl,g2,g3,h3⟩
    have e2:=(h.idx x a).2 ⟨a,rfl,ha,ex.symm,h3⟩
    rw [e1] at e2
    injection e2 with e2
    exact absurd e2 (hne n g1)
   ·rw [if_neg ex,h.idx x y]
    constructor
    ·rintro ⟨n,e,h1,h2,h3⟩
     obtain ⟨g1,g2⟩:=(hold n).2 ⟨fun en => ex (by rw [← h2,en]),h1,h2⟩
     exact ⟨n,e,g1,g2,h3⟩
    ·rintro ⟨n,e,h1,h2,h3⟩
     obtain ⟨g1,g2,g3⟩:=(hold n).1 ⟨h1,h2⟩
     exact ⟨n,e,g2,g3,h3⟩
  ·rw [if_neg hs,h.idx x y]
   constructor
   ·rintro ⟨n,e,h1,h2,h3⟩
    obtain ⟨g1,g2⟩:=(hold n).2 ⟨fun en => by rw [en] at h2;omega,h1,h2⟩
    exact ⟨n,e,g1,g2,h3⟩
   ·rintro ⟨n,e,h1,h2,h3⟩
    obtain ⟨g1,g2,g3⟩:=(hold n).1 ⟨h1,h2⟩
    exact ⟨n,e,g2,g3,h3⟩
 ·intro q hq
  have hlow:(s.drop a).low=if Sp.cls (s.sh a).z=8 then min s.low (a / 64) else s.low:=rfl
  rw [hlow] at hq
  rcases (h.obj a ha).2 with ⟨c,hc,hz,_⟩ | ⟨h8,p,hp,hr⟩
  ·rw [if_neg (by omega)] at hq
   rw [drop_small s a (by omega)]
   exact h.lowf q hq
  ·rw [if_pos h8] at hq
   have hpg:a / 64=p:=by omega
   have:=drop_big s a _ h8 (by rw [hpg];exact hr.2.2.1) hr.1
   rw [this,clrPg_out (by omega)]
   exact h.lowf q (by omega)
structure St.Drop (s t:St) (stay:Nat → Bool) (a:Nat):Prop where
 mid:t.Mid
 b0:∀ x,t.B 0 x=(s.B 0 x && (decide (a ≤ x) || stay x))
 S:∀ x:Nat,t.B 0 x=true → t.S x=s.S x
 W:t.W=s.W
 B:∀ c,t.B (c + 1)=s.B (c + 1)
 n:t.n=s.n
 ser:t.ser=s.ser
 acts:t.acts=s.acts
 back:∀ p,t.P p=s.P p ∨ t.P p=⟨0,0,0⟩
theorem St.Mid.dropTo {s:St} (h:s.Mid) (stay:Nat → Bool):∀ a,s.Drop (s.dropTo stay a) stay a
 | 0 => ⟨h,fun x => by simp [St.dropTo],fun _ _ => rfl,rfl,fun _ => rfl,rfl,rfl,rfl,fun _ => .inl rfl⟩
 | a + 1 => by
  have ih:=h.dropTo stay a
  have e:s.dropTo stay (a + 1)=if (s.dropTo stay a).B 0 a && !stay a then (s.dropTo stay a).drop a else s.dropTo stay a:=rfl
  rw [e]
  generalize s.dropTo stay a=t at *
  by_cases hc:(t.B 0 a && !stay a)=true
  ·rw [if_pos hc]
   rw [Bool.and_eq_true] at hc
   have hst:stay a=false:=by simpa using hc.2
   have hpb:∀ p,(t.drop a).P p=s.P p ∨ (t.drop a).P p=⟨0,0,0⟩:=fun p => by
    rcases ih.mid.dropP hc.1 with ⟨e,_⟩ | ⟨q,m,_,_,e⟩
    ·rw [e];exact ih.back p
    ·rw [e]
     by_cases e2:q ≤ p ∧ p < q + m
     ·exact .inr (clrPg_in e2.1 e2.2)
     ·rw [clrPg_out e2];exact ih.back p
   refine ⟨(ih.mid.drop hc.1).1,fun x => ?_,fun x hx => ?_,ih.W,ih.B,ih.n,ih.ser,ih.acts,hpb⟩
   ·rw [drop_has]
    by_cases ex:x=a
    ·subst ex
     rw [if_pos rfl,hst,decide_eq_false (by omega)];simp
    ·rw [if_neg ex,ih.b0 x]
     congr 2
     exact decide_eq_decide.2 (by omega)
   ·rw [drop_has] at hx
    by_cases ex:x=a
    ·rw [if_pos ex] at hx;cases hx
    ·rw [if_neg ex] at hx
     exact (sh_same t a none x (by omega)).trans (ih.S x hx)
  ·rw [if_neg hc]
   refine ⟨ih.mid,fun x => ?_,ih.S,ih.W,ih.B,ih.n,ih.ser,ih.acts,ih.back⟩
   rw [ih.b0 x]
   by_cases ex:x=a
   ·subst ex
    have hb:=ih.b0 x
    rw [decide_eq_true (Nat.le_refl _)] at hb
    rw [decide_eq_true (Nat.le_refl _),decide_eq_false (by omega)]
    cases hb1:s.B 0 x with
    | false => rfl
    | true =>
     rw [hb1] at hb
     rw [hb] at hc
     simpa using hc
   ·congr 2
    exact decide_eq_decide.2 (by omega)
end Go.Proofs.YtfbcdmhmpfijjaaGreatDoor
namespace Go.Proofs.YtfbcdmhmpfijjaaGreatDoor
open Go Go.RowKit
theorem Pg.k23 {g:Pg} {r:Int} (h:g=⟨2,0,r⟩ ∨ g=⟨3,0,0⟩):g.k ≠ 0 ∧ g.k ≠ 1:=by
 rcases h with rfl | rfl
 ·exact ⟨(by decide:(2:Int) ≠ 0),(by decide:(2:Int) ≠ 1)⟩
 ·exact ⟨(by decide:(3:Int) ≠ 0),(by decide:(3:Int) ≠ 1)⟩
def St.InRoom (s:St) (x:Nat):Prop:=∃ a:Nat,s.B 0 a=true ∧ a ≤ x ∧ x < a + (Sp.wide (s.sh a).z).toNat
theorem St.Mid.roomPage {s:St} (h:s.Mid) {x:Nat} (hx:s.InRoom x) :
 (∃ c j:Nat,c < 8 ∧ s.P (x / 64)=⟨1,c,0⟩ ∧ j < Sp.bk c ∧ s.B 0 (x / 64 * 64 + j * Sp.cw c)=true ∧ x / 64 * 64 + j * Sp.cw c ≤ x ∧ x < x / 64 * 64 + j * Sp.cw c + Sp.cw c) ∨
 ((s.P (x / 64)).k ≠ 0 ∧ (s.P (x / 64)).k ≠ 1):=by
 obtain ⟨a,ha,h1,h2⟩:=hx
 rcases (h.obj a ha).2 with ⟨c,hc,hz,p,i,hp,hi,hai,hP⟩ | ⟨h8,p,hp,hr⟩
 ·rw [Sp.wide_blk hc hz,Int.toNat_natCast] at h2
  have hpg:=blk_page hc hi hai
  have hxp:x / 64=p:=by omega
  rw [hxp]
  exact .inl ⟨c,i,hc,hP,hi,by rw [← hai];exact ha,by omega,by omega⟩
 ·obtain ⟨hw,hg⟩:=Sp.wide_run h8
  rw [hw] at h2
  refine .inr ?_
  rcases hr.inside (j:=x / 64) (by omega) (by omega) with ⟨e,_⟩ | e
  ·exact Pg.k23 (.inl e)
  ·exact Pg.k23 (r:=0) (.inr e)
theorem tidyLoop_same (t:St) (p c:Nat):∀ i,(t.tidyLoop p c i).P=t.P ∧ (t.tidyLoop p c i).B 0=t.B 0 ∧ (t.tidyLoop p c i).S=t.S ∧ (t.tidyLoop p c i).Q=t.Q ∧ (t.tidyLoop p c i).ser=t.ser ∧ (t.tidyLoop p c i).room=t.room ∧ (t.tidyLoop p c i).acts=t.acts ∧ (t.tidyLoop p c i).low=t.low ∧ ∀ c',c' ≠ c → (t.tidyLoop p c i).B (c' + 1)=t.B (c' + 1)
 | 0 => ⟨rfl,rfl,rfl,rfl,rfl,rfl,rfl,rfl,fun _ _ => rfl⟩
 | i + 1 => by
  obtain ⟨h1,h2,h3,h4,h5,h6,h7,h8,h9⟩:=tidyLoop_same t p c i
  unfold St.tidyLoop
  split
  ·exact ⟨h1,h2,h3,h4,h5,h6,h7,h8,h9⟩
  ·have e0:∀ k,k ≠ c + 1 → (((t.tidyLoop p c i).setB (c + 1) (setS ((t.tidyLoop p c i).B (c + 1)) (p * 64 + i * Sp.cw c) true)).setWs (clrW (t.tidyLoop p c i).W (p * 64 + i * Sp.cw c) (Sp.cw c))).B k=(t.tidyLoop p c i).B k:=fun k hk => setB_ne (t.tidyLoop p c i) (c + 1) k (setS ((t.tidyLoop p c i).B (c + 1)) (p * 64 + i * Sp.cw c) true) hk
   exact ⟨h1,(e0 0 (by omega)).trans h2,h3,h4,h5,h6,h7,h8,fun c' hc' => (e0 (c' + 1) (by omega)).trans (h9 c' hc')⟩
theorem tidyLoop_B (t:St) (p c x:Nat):∀ i,(t.tidyLoop p c i).B (c + 1) x=true ↔ t.B (c + 1) x=true ∨ ∃ j,j < i ∧ x=p * 64 + j * Sp.cw c ∧ t.B 0 x=false
 | 0 => ⟨.inl,fun h => h.elim id fun ⟨j,hj,_⟩ => by omega⟩
 | i + 1 => by
  have ih:=tidyLoop_B t p c x i
  have h0:=(tidyLoop_same t p c i).2.1
  unfold St.tidyLoop
  split
  ·next hb =>
   rw [ih]
   constructor
   ·rintro (h | ⟨j,hj,hx⟩)
    ·exact .inl h
    ·exact .inr ⟨j,by omega,hx⟩
   ·rintro (h | ⟨j,hj,hx,hx2⟩)
    ·exact .inl h
    ·by_cases e:j=i
     ·subst e
      rw [h0,← hx,hx2] at hb;cases hb
     ·exact .inr ⟨j,by omega,hx,hx2⟩
  ·next hb =>
   rw [h0] at hb
   show ((t.tidyLoop p c i).setB (c + 1) (setS ((t.tidyLoop p c i).B (c + 1)) (p * 64 + i * Sp.cw c) true)).B (c + 1) x=true ↔ _
   rw [St.setB_at]
   unfold setS
   by_cases e:x=p * 64 + i * Sp.cw c
   ·rw [if_pos e]
    exact ⟨fun _ => .inr ⟨i,by omega,e,by rw [e];simpa using hb⟩,fun _ => rfl⟩
   ·rw [if_neg e,ih]
    constructor
    ·rintro (h | ⟨j,hj,hx⟩)
     ·exact .inl h
     ·exact .inr ⟨j,by omega,hx⟩
    ·rintro (h | ⟨j,hj,hx,hx2⟩)
     ·exact .inl h
     ·by_cases e2:j=i
      ·subst e2;exact absurd hx e
      ·exact .inr ⟨j,by omega,hx,hx2⟩
theorem tidyLoop_zero (t:St) (p c x:Nat):∀ i j,j < i → t.B 0 (p * 64 + j * Sp.cw c)=false → p * 64 + j * Sp.cw c ≤ x → x < p * 64 + j * Sp.cw c + Sp.cw c → (t.tidyLoop p c i).W x=0
 | 0,j,hj,_,_,_ => by omega
 | i + 1,j,hj,hb,h1,h2 => by
  have h0:=(tidyLoop_same t p c i).2.1
  unfold St.tidyLoop
  by_cases e:j=i
  ·subst e
   rw [if_neg (by rw [h0,hb];decide)]
   show clrW _ _ _ x=0
   unfold clrW;rw [if_pos ⟨h1,h2⟩]
  ·have ih:=tidyLoop_zero t p c x i j (by omega) hb h1 h2
   split
   ·exact ih
   ·show clrW _ _ _ x=0
    unfold clrW
    split
    ·rfl
    ·exact ih
theorem tidyLoop_keep (t:St) (p c x:Nat):∀ i,(∀ j,j < i → t.B 0 (p * 64 + j * Sp.cw c)=false → ¬(p * 64 + j * Sp.cw c ≤ x ∧ x < p * 64 + j * Sp.cw c + Sp.cw c)) → (t.tidyLoop p c i).W x=t.W x
 | 0,_ => rfl
 | i + 1,h => by
  have h0:=(tidyLoop_same t p c i).2.1
  have ih:=tidyLoop_keep t p c x i (fun j hj => h j (by omega))
  unfold St.tidyLoop
  split
  ·exact ih
  ·next hb =>
   rw [h0] at hb
   show clrW _ _ _ x=_
   unfold clrW
   rw [if_neg (h i (by omega) (by simpa using hb))]
   exact ih
structure St.Tidied (s t:St) (p:Nat):Prop where
 b0:t.B 0=s.B 0
 S:t.S=s.S
 Q:t.Q=s.Q
 n:t.n=s.n
 ser:t.ser=s.ser
 rm:t.room=s.room
 acts:t.acts=s.acts
 pg:∀ q,t.P q=s.P q ∨ (q < p ∧ t.P q=⟨0,0,0⟩ ∧ (∃ c:Nat,c < 8 ∧ s.P q=⟨1,c,0⟩) ∧ ∀ x,x / 64=q → s.B 0 x=false)
 used:∀ q c:Nat,q < p → t.P q=⟨1,c,0⟩ → ∃ x,x / 64=q ∧ s.B 0 x=true
 free:∀ c,c < 8 → ∀ a,t.B (c + 1) a=true ↔ (t.Blk c a ∧ s.B 0 a=false ∧ a < 64 * p)
 room:∀ x,s.InRoom x → t.W x=s.W x
 zero:∀ x,x < 64 * p → ¬s.InRoom x → t.W x=0
 lowf:s.LowF → t.LowF
theorem St.Tidied.start {s:St} (hB:∀ c,c < 8 → ∀ a,s.B (c + 1) a=false):s.Tidied s 0 :=
 ⟨rfl,rfl,rfl,rfl,rfl,rfl,rfl,fun _ => .inl rfl,fun q c hq => by omega,fun c hc a => by rw [hB c hc a];exact ⟨fun h => (by cases h),fun h => by omega⟩,fun _ _ => rfl,fun x hx => by omega,id⟩
theorem Pg.one {g:Pg} {c:Nat} (h:g=⟨1,c,0⟩):g.k=1 ∧ g.c=c ∧ g.r=0:=by rw [h];exact ⟨rfl,rfl,rfl⟩
theorem St.Mid.tidyOk {s t:St} {p:Nat} (h:s.Mid) (ht:s.Tidied t p) (hp:p < s.n):t.TidyOk p:=by
 have hP:t.P p=s.P p:=(ht.pg p).resolve_right fun hh => by omega
 have hc:(t.P p).k=1 → ∃ c:Nat,c < 8 ∧ t.P p=⟨1,c,0⟩:=fun hk => by
  rw [hP] at hk ⊢
  rcases h.pages p hp with h1 | h1 | ⟨q,r,hr,h1,h2⟩
  ·rw [h1] at hk;exact absurd hk (by decide)
  ·exact h1
  ·rcases hr.inside h1 h2 with ⟨e,_⟩ | e <;> rw [e] at hk <;> exact absurd hk (by simp)
 refine ⟨fun hk => ?_,fun he => ?_⟩
 ·obtain ⟨c,h1,h2⟩:=hc hk
  exact ⟨c,h1,by rw [h2]⟩
 ·obtain ⟨c,h1,h2⟩:=hc he.1
  unfold St.Givable
  rw [h2,ht.n]
  exact ⟨hp,rfl,(by decide:(1:Int) ≠ 3),Int.le_refl _,by show p + max 1 (0:Int).toNat ≤ s.n;simp;omega⟩
theorem Bm_count_zero {S:Nat → Bool} {n f t:Nat} (h:Bm.count S n (f:Int) (t:Int)=0) (x:Nat) (h1:f ≤ x) (h2:x < t) (h3:x < n):S x=false:=by
 have:=Bm.cnt_eq_zero (S:=fun i => S i && (decide ((f:Int) ≤ (i:Int)) && decide ((i:Int) < (t:Int)))) h x (Nat.zero_le _) (by omega)
 have:(S x && (decide ((f:Int) ≤ (x:Int)) && decide ((x:Int) < (t:Int))))=false:=this
 rw [decide_eq_true (by omega),decide_eq_true (by omega)] at this
 simpa using this
theorem Bm_count_pos {S:Nat → Bool} {n f t:Nat} (h:Bm.count S n (f:Int) (t:Int) ≠ 0):∃ x,f ≤ x ∧ x < t ∧ x < n ∧ S x=true:=by
 refine Classical.byContradiction fun hn => h ?_
 refine Bm.cnt_zero (fun i _ hi => ?_)
 show (S i && (decide ((f:Int) ≤ (i:Int)) && decide ((i:Int) < (t:Int))))=false
 by_cases h1:f ≤ i
 ·by_cases h2:i < t
  ·cases e:S i with
   | false => rfl
   | true => exact absurd ⟨i,h1,h2,by omega,e⟩ hn
  ·rw [decide_eq_false (p:=(i:Int) < (t:Int)) (by omega)];simp
 ·rw [decide_eq_false (p:=(f:Int) ≤ (i:Int)) (by omega)];simp
theorem clrW_in (W:Nat → Int) (i k x:Nat) (h:i ≤ x ∧ x < i + k):clrW W i k x=0:=by unfold clrW;rw [if_pos h]
theorem idx_of {y w:Nat} (hw:0 < w):y / w * w ≤ y ∧ y < y / w * w + w:=⟨Nat.div_mul_le_self y w,by
 have:=Nat.lt_div_mul_add (a:=y) hw;omega⟩
theorem mul_apart {i j w:Nat} (h:i ≠ j):i * w + w ≤ j * w ∨ j * w + w ≤ i * w:=by
 rcases Nat.lt_or_gt_of_ne h with h | h
 ·left
  have:=Nat.mul_le_mul_right w (show i + 1 ≤ j from h)
  rwa [Nat.add_mul,Nat.one_mul] at this
 ·right
  have:=Nat.mul_le_mul_right w (show j + 1 ≤ i from h)
  rwa [Nat.add_mul,Nat.one_mul] at this
theorem Sp.cls_room {s:St} (h:s.Mid) {a c p j:Nat} (hc:c < 8) (ha:s.B 0 a=true) (hP:s.P p=⟨1,c,0⟩) (haj:a=p * 64 + j * Sp.cw c) (hj:j < Sp.bk c):Sp.wide (s.sh a).z=(Sp.cw c:Int):=by
 have hpg:=blk_page hc hj haj
 rcases (h.obj a ha).2 with ⟨c',hc',hz,q,i,_,hi,hai,hQ⟩ | ⟨_,q,hq,hr⟩
 ·have:=blk_page hc' hi hai
  obtain rfl:q=p:=by omega
  rw [hP] at hQ
  injection hQ with _ e _
  obtain rfl:c=c':=by omega
  exact Sp.wide_blk hc hz
 ·obtain rfl:q=p:=by omega
  have:=hr.2.2.1
  rw [hP] at this;injection this with e _ _;omega
theorem St.Mid.tidyStep {s t:St} {p:Nat} (h:s.Mid) (ht:s.Tidied t p) (hp:p < s.n):s.Tidied (t.tidy p) (p + 1):=by
 have hP:t.P p=s.P p:=(ht.pg p).resolve_right fun hh => by omega
 unfold St.tidy
 rcases h.pages p hp with h1 | ⟨c,hc,h1⟩ | ⟨q,r,hr,hq1,hq2⟩
 ·
  have hk:(t.P p).k=0:=by rw [hP,h1]
  rw [if_neg (fun he => by have:=he.1;omega),if_pos hk]
  refine ⟨ht.b0,ht.S,ht.Q,ht.n,ht.ser,ht.rm,ht.acts,fun q => ?_,fun q c hq hqP => ?_,fun c hc a => ?_,fun x hx => ?_,fun x hx hxr => ?_,fun hl => (ht.lowf hl).of rfl rfl⟩
  ·rcases ht.pg q with h2 | ⟨h2,h3⟩
   ·exact .inl h2
   ·exact .inr ⟨by omega,h3⟩
  ·have hqQ:t.P q=⟨1,c,0⟩:=hqP
   clear hqP
   refine ht.used q c ?_ hqQ
   refine Classical.byContradiction fun hn => ?_
   obtain rfl:q=p:=by omega
   rw [hqQ] at hk;exact absurd hk (by simp)
  ·show t.B (c + 1) a=true ↔ (t.Blk c a ∧ _)
   rw [ht.free c hc a]
   refine ⟨fun hh => ⟨hh.1,hh.2.1,by omega⟩,fun hh => ⟨hh.1,hh.2.1,?_⟩⟩
   obtain ⟨q,i,_,hi,hai,hQ⟩:=hh.1
   have:=blk_page hc hi hai
   refine Classical.byContradiction fun hn => ?_
   obtain rfl:q=p:=by omega
   rw [hQ] at hk;exact absurd hk (by simp)
  ·show clrW t.W (p * 64) 64 x=_
   rw [clrW_out _ _ _ _ (Classical.byContradiction fun hn => ?_)]
   ·exact ht.room x hx
   ·have e:x / 64=p:=by omega
    rcases h.roomPage hx with ⟨c,j,_,h2,_⟩ | ⟨h2,_⟩
    ·rw [e,h1] at h2;injection h2 with e2 _ _;omega
    ·rw [e,h1] at h2;exact h2 rfl
  ·show clrW t.W (p * 64) 64 x=0
   by_cases e:p * 64 ≤ x
   ·exact clrW_in _ _ _ _ ⟨e,by omega⟩
   ·rw [clrW_out _ _ _ _ (by omega)]
    exact ht.zero x (by omega) hxr
 ·
  have hP1:t.P p=⟨1,c,0⟩:=hP.trans h1
  have hcl:=Sp.cw_le c hc
  by_cases he:t.Empty p
  ·rw [if_pos he]
   have hno:∀ x,x / 64=p → s.B 0 x=false:=fun x hx => by
    have:=he.2
    rw [ht.b0] at this
    exact Bm_count_zero this x (by omega) (by omega) (by rw [ht.n];omega)
   have hPn:clrPg t.P p (max 1 (t.P p).r.toNat)=clrPg t.P p 1:=by rw [hP1];rfl
   refine ⟨ht.b0,ht.S,ht.Q,ht.n,ht.ser,ht.rm,ht.acts,fun q => ?_,fun q c' hq hqP => ?_,fun c' hc' a => ?_,fun x hx => ?_,fun x hx hxr => ?_,fun hl q hq => by
    have hq:q < min t.low p:=hq
    show clrPg t.P p (max 1 (t.P p).r.toNat) q ≠ _
    rw [hPn,clrPg_out (by omega)]
    exact ht.lowf hl q (by omega)⟩
   ·show clrPg t.P p (max 1 (t.P p).r.toNat) q=_ ∨ _ ∧ clrPg t.P p (max 1 (t.P p).r.toNat) q=_ ∧ _
    rw [hPn]
    by_cases e:q=p
    ·subst e
     exact .inr ⟨by omega,clrPg_in (by omega) (by omega),⟨c,hc,h1⟩,hno⟩
    ·rw [clrPg_out (by omega)]
     rcases ht.pg q with h2 | ⟨h2,h3⟩
     ·exact .inl h2
     ·exact .inr ⟨by omega,h3⟩
   ·have hqP:clrPg t.P p (max 1 (t.P p).r.toNat) q=_:=hqP
    rw [hPn] at hqP
    by_cases e:q=p
    ·subst e
     rw [clrPg_in (by omega) (by omega)] at hqP;injection hqP with e2 _ _;omega
    ·rw [clrPg_out (by omega)] at hqP
     exact ht.used q c' (by omega) hqP
   ·show t.B (c' + 1) a=true ↔ _
    rw [ht.free c' hc' a]
    constructor
    ·rintro ⟨⟨q,i,hq,hi,hai,hQ⟩,h3,h4⟩
     have:=blk_page hc' hi hai
     refine ⟨⟨q,i,hq,hi,hai,?_⟩,h3,by omega⟩
     show clrPg t.P p (max 1 (t.P p).r.toNat) q=_
     rw [hPn,clrPg_out (by omega)];exact hQ
    ·rintro ⟨⟨q,i,hq,hi,hai,hQ⟩,h3,h4⟩
     have:=blk_page hc' hi hai
     have hQ:clrPg t.P p (max 1 (t.P p).r.toNat) q=_:=hQ
     rw [hPn] at hQ
     by_cases e:q=p
     ·subst e
      rw [clrPg_in (by omega) (by omega)] at hQ;injection hQ with e2 _ _;omega
     ·rw [clrPg_out (by omega)] at hQ
      exact ⟨⟨q,i,hq,hi,hai,hQ⟩,h3,by omega⟩
   ·show clrW t.W (p * 64) 64 x=_
    rw [clrW_out _ _ _ _ (Classical.byContradiction fun hn => ?_)]
    ·exact ht.room x hx
    ·have e:x / 64=p:=by omega
     rcases h.roomPage hx with ⟨c',j,hc',h2,hj,h3,_,_⟩ | ⟨_,h2⟩
     ·have:=Sp.cw_in c' hc' j hj
      have:=Sp.cw_le c' hc'
      rw [e] at h3
      rw [hno (p * 64 + j * Sp.cw c') (by generalize j * Sp.cw c'=y at *;omega)] at h3;cases h3
     ·rw [e,h1] at h2;exact h2 rfl
   ·show clrW t.W (p * 64) 64 x=0
    by_cases e:p * 64 ≤ x
    ·exact clrW_in _ _ _ _ ⟨e,by omega⟩
    ·rw [clrW_out _ _ _ _ (by omega)]
     exact ht.zero x (by omega) hxr
  ·obtain ⟨k1,k2,k3⟩:=Pg.one hP1
   rw [if_neg he,if_neg (by omega),if_pos k1,k2,Int.toNat_natCast]
   obtain ⟨l1,l2,l3,l4,l5,l6,l7,l8,l9⟩:=tidyLoop_same t p c (Sp.bk c)
   have hbk:=Sp.bkcw c hc
   have hWd:∀ x,(x < p * 64 ∨ p * 64 + 64 ≤ x) → clrW (t.tidyLoop p c (Sp.bk c)).W (p * 64 + Sp.bk c * Sp.cw c) (64 - Sp.bk c * Sp.cw c) x=t.W x:=fun x hx => by
    rw [clrW_out _ _ _ _ (by omega)]
    refine tidyLoop_keep t p c x _ (fun j hj _ => ?_)
    have:=Sp.cw_in c hc j hj
    generalize j * Sp.cw c=y at *;omega
   refine ⟨l2.trans ht.b0,l3.trans ht.S,l4.trans ht.Q,(St.tidyLoop_n _ _ _ _).trans ht.n,l5.trans ht.ser,l6.trans ht.rm,l7.trans ht.acts,fun q => ?_,fun q c' hq hqP => ?_,fun c' hc' a => ?_,fun x hx => ?_,fun x hx hxr => ?_,fun hl => (ht.lowf hl).of l1 l8⟩
   ·show (t.tidyLoop p c (Sp.bk c)).P q=_ ∨ _ ∧ (t.tidyLoop p c (Sp.bk c)).P q=_ ∧ _
    rw [l1]
    rcases ht.pg q with h2 | ⟨h2,h3⟩
    ·exact .inl h2
    ·exact .inr ⟨by omega,h3⟩
   ·have hqP:(t.tidyLoop p c (Sp.bk c)).P q=_:=hqP
    rw [l1] at hqP
    by_cases e:q=p
    ·subst e
     have hcn:Bm.count (t.B 0) (64 * t.n) ((q * 64:Nat):Int) ((q * 64 + 64:Nat):Int) ≠ 0:=fun e2 => he ⟨k1,e2⟩
     obtain ⟨x,x1,x2,_,x4⟩:=Bm_count_pos hcn
     exact ⟨x,by omega,by rw [← ht.b0];exact x4⟩
    ·exact ht.used q c' (by omega) hqP
   ·have hbb:∀ y,((t.tidyLoop p c (Sp.bk c)).setWs (clrW (t.tidyLoop p c (Sp.bk c)).W (p * 64 + Sp.bk c * Sp.cw c) (64 - Sp.bk c * Sp.cw c))).Blk c' y ↔ t.Blk c' y:=fun y => by
     show (∃ q i,q < (t.tidyLoop p c (Sp.bk c)).n ∧ i < Sp.bk c' ∧ y=q * 64 + i * Sp.cw c' ∧ (t.tidyLoop p c (Sp.bk c)).P q=_) ↔ _
     rw [l1,St.tidyLoop_n];exact Iff.rfl
    rw [hbb a]
    show (t.tidyLoop p c (Sp.bk c)).B (c' + 1) a=true ↔ _
    by_cases e:c'=c
    ·subst e
     rw [tidyLoop_B,ht.free c' hc' a]
     constructor
     ·rintro (⟨h2,h3,h4⟩ | ⟨j,hj,hx,h3⟩)
      ·exact ⟨h2,h3,by omega⟩
      ·have:=Sp.cw_in c' hc' j hj
       refine ⟨⟨p,j,by rw [ht.n];exact hp,hj,hx,hP1⟩,by rw [← ht.b0];exact h3,by generalize j * Sp.cw c'=y at *;omega⟩
     ·rintro ⟨h2,h3,h4⟩
      by_cases h5:a < 64 * p
      ·exact .inl ⟨h2,h3,h5⟩
      ·obtain ⟨q,i,hq,hi,hai,hQ⟩:=h2
       have:=blk_page hc' hi hai
       obtain rfl:q=p:=by omega
       exact .inr ⟨i,hi,hai,by rw [ht.b0];exact h3⟩
    ·rw [l9 c' e,ht.free c' hc' a]
     refine ⟨fun hh => ⟨hh.1,hh.2.1,by omega⟩,fun hh => ⟨hh.1,hh.2.1,?_⟩⟩
     obtain ⟨q,i,_,hi,hai,hQ⟩:=hh.1
     have:=blk_page hc' hi hai
     refine Classical.byContradiction fun hn => ?_
     obtain rfl:q=p:=by omega
     rw [hP1] at hQ;injection hQ with _ e2 _;omega
   ·show clrW (t.tidyLoop p c (Sp.bk c)).W (p * 64 + Sp.bk c * Sp.cw c) (64 - Sp.bk c * Sp.cw c) x=_
    by_cases hxp:x < p * 64 ∨ p * 64 + 64 ≤ x
    ·rw [hWd x hxp];exact ht.room x hx
    ·have e:x / 64=p:=by omega
     rcases h.roomPage hx with ⟨c',j,hc',h2,hj,h3,h4,h5⟩ | ⟨_,h2⟩
     ·rw [e,h1] at h2
      injection h2 with _ e2 _
      obtain rfl:c'=c:=by omega
      rw [e] at h3 h4 h5
      have hj2:(j + 1) * Sp.cw c' ≤ Sp.bk c' * Sp.cw c':=Nat.mul_le_mul_right _ hj
      rw [Nat.add_mul,Nat.one_mul] at hj2
      rw [clrW_out _ _ _ _ (by omega),tidyLoop_keep t p c' x _ (fun i hi hb hh => ?_)]
      ·exact ht.room x hx
      ·by_cases eij:i=j
       ·subst eij;rw [ht.b0,h3] at hb;cases hb
       ·have:=mul_apart (w:=Sp.cw c') eij;omega
     ·rw [e,h1] at h2;exact absurd rfl h2
   ·show clrW (t.tidyLoop p c (Sp.bk c)).W (p * 64 + Sp.bk c * Sp.cw c) (64 - Sp.bk c * Sp.cw c) x=0
    by_cases hxp:x < p * 64
    ·rw [hWd x (.inl hxp)];exact ht.zero x (by omega) hxr
    ·obtain ⟨y,rfl⟩:=Nat.exists_eq_add_of_le (show p * 64 ≤ x by omega)
     obtain ⟨i1,i2⟩:=idx_of (y:=y) (w:=Sp.cw c) (by omega)
     by_cases hj:y / Sp.cw c < Sp.bk c
     ·have hb:t.B 0 (p * 64 + y / Sp.cw c * Sp.cw c)=false:=by
       cases eb:t.B 0 (p * 64 + y / Sp.cw c * Sp.cw c) with
       | false => rfl
       | true =>
        rw [ht.b0] at eb
        refine absurd ⟨_,eb,by omega,?_⟩ hxr
        rw [Sp.cls_room h hc eb h1 rfl hj,Int.toNat_natCast]
        omega
      have hj2:(y / Sp.cw c + 1) * Sp.cw c ≤ Sp.bk c * Sp.cw c:=Nat.mul_le_mul_right _ hj
      rw [Nat.add_mul,Nat.one_mul] at hj2
      rw [clrW_out _ _ _ _ (by omega)]
      exact tidyLoop_zero t p c _ _ _ hj hb (by omega) (by omega)
     ·have:Sp.bk c * Sp.cw c ≤ y / Sp.cw c * Sp.cw c:=Nat.mul_le_mul_right _ (by omega)
      exact clrW_in _ _ _ _ ⟨by omega,by omega⟩
 ·
  have hk:t.P p=⟨2,0,r⟩ ∨ t.P p=⟨3,0,0⟩:=by
   rw [hP]
   rcases hr.inside hq1 hq2 with ⟨e,_⟩ | e
   ·exact .inl e
   ·exact .inr e
  have hk2:(t.P p).k ≠ 0 ∧ (t.P p).k ≠ 1:=Pg.k23 hk
  rw [if_neg (fun he => hk2.2 he.1),if_neg hk2.1,if_neg hk2.2]
  refine ⟨ht.b0,ht.S,ht.Q,ht.n,ht.ser,ht.rm,ht.acts,fun q => ?_,fun q c' hq hqP => ?_,fun c' hc' a => ?_,ht.room,fun x hx hxr => ?_,fun hl => ht.lowf hl⟩
  ·rcases ht.pg q with h2 | ⟨h2,h3⟩
   ·exact .inl h2
   ·exact .inr ⟨by omega,h3⟩
  ·refine ht.used q c' ?_ hqP
   refine Classical.byContradiction fun hn => ?_
   obtain rfl:q=p:=by omega
   rw [hqP] at hk2;exact hk2.2 rfl
  ·rw [ht.free c' hc' a]
   refine ⟨fun hh => ⟨hh.1,hh.2.1,by omega⟩,fun hh => ⟨hh.1,hh.2.1,?_⟩⟩
   obtain ⟨q',i,_,hi,hai,hQ⟩:=hh.1
   have:=blk_page hc' hi hai
   refine Classical.byContradiction fun hn => ?_
   obtain rfl:q'=p:=by omega
   rw [hQ] at hk2;exact hk2.2 rfl
  ·by_cases e:x < 64 * p
   ·exact ht.zero x e hxr
   ·refine absurd ?_ hxr
    have hb:=h.runs q r hr
    refine ⟨q * 64,hb,by omega,?_⟩
    rcases (h.obj _ hb).2 with ⟨c',hc',_,q',i,_,hi,hai,hQ⟩ | ⟨h8,q',hq',hr'⟩
    ·have:=blk_page hc' hi hai
     obtain rfl:q'=q:=by omega
     have:=hr.2.2.1
     rw [hQ] at this;injection this with e2 _ _;omega
    ·obtain rfl:q=q':=by omega
     have:=hr.same hr'
     obtain ⟨hw,hg⟩:=Sp.wide_run h8
     rw [hw]
     omega
end Go.Proofs.YtfbcdmhmpfijjaaGreatDoor
