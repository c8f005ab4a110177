/-
  The walk of hearthlaw8.alive.
-/
import Derived.Test.YtfbcdmhmpfijjaaGreatDoorQ18
set_option linter.unusedVariables false
set_option linter.unusedSimpArgs false
set_option linter.unusedSectionVars false
namespace Go.Proofs.YtfbcdmhmpfijjaaGreatDoor
open Go Go.RowKit
theorem St.Mid.of {s t:St} (h:s.Mid) (hn:t.n=s.n) (hP:t.P=s.P) (hB:t.B 0=s.B 0) (hS:t.S=s.S) (h1:t.ser=s.ser) (h2:t.room=s.room) (h3:t.acts=s.acts) (hQ:t.Q=s.Q) (hl:t.low=s.low):t.Mid:=by
 have hsh:∀ x,t.sh x=s.sh x:=fun x => by unfold St.sh;rw [hS]
 have hrun:∀ p r,t.Run p r ↔ s.Run p r:=fun p r => by unfold St.Run;rw [hn,hP]
 have hblk:∀ c x,t.Blk c x ↔ s.Blk c x:=fun c x => by unfold St.Blk;rw [hn,hP]
 refine ⟨by rw [hn];exact h.n1,by rw [hn];exact h.n2,fun p hp => ?_,fun a ha => ?_,fun p r hr => ?_,fun x hx => ?_,by rw [h1];exact h.ser0,by rw [h1,h3];exact h.ser1,fun a ha => ?_,?_,by rw [h2,h3];exact h.room2,h.idx.of hQ hB hS,h.lowf.of hP hl⟩
 ·rw [hn] at hp
  rw [hP]
  rcases h.pages p hp with e | e | ⟨q,r,e1,e2⟩
  ·exact .inl e
  ·exact .inr (.inl e)
  ·exact .inr (.inr ⟨q,r,(hrun q r).2 e1,e2⟩)
 ·rw [hB] at ha
  obtain ⟨e1,e2⟩:=h.obj a ha
  unfold St.FineAt at e1 ⊢
  rw [hsh,hn]
  refine ⟨e1,?_⟩
  rcases e2 with ⟨c,hc,hz,hb⟩ | ⟨hz,p,hp,hr⟩
  ·exact .inl ⟨c,hc,hz,(hblk c a).2 hb⟩
  ·exact .inr ⟨hz,p,hp,(hrun p _).2 hr⟩
 ·rw [hB];exact h.runs p r ((hrun p r).1 hr)
 ·rw [hS]
  refine h.side x ?_
  unfold St.has at hx ⊢
  rw [hB] at hx
  exact hx
 ·rw [hB] at ha
  rw [hsh,h1]
  exact h.sers a ha
 ·rw [h2,h.room,hn,hB]
  exact sumTo_congr _ fun j _ => by rw [hsh]
theorem reset_B0 (s:St) (i:Nat):(s.reset i).B 0=s.B 0:=by unfold St.reset;dsimp only;rw [if_neg (by omega)]
theorem reset_B (s:St) (c:Nat) (hc:c < 8) (a:Nat):(s.reset 8).B (c + 1) a=false:=by unfold St.reset;dsimp only;rw [if_pos (by omega)]
theorem linkTo_W (s:St) (c x:Nat):∀ a,(s.linkTo c a).W x=if decide (x < a) && s.B (c + 1) x then s.link c x else s.W x
 | 0 => by
  rw [decide_eq_false (by omega)];rfl
 | a + 1 => by
  have ih:=linkTo_W s c x a
  have e:s.linkTo c (a + 1)=if s.B (c + 1) a then (s.linkTo c a).setWs (setW (s.linkTo c a).W a (s.link c a)) else s.linkTo c a:=rfl
  rw [e]
  by_cases ex:x=a
  ·subst ex
   cases hb:s.B (c + 1) x with
   | true =>
    rw [if_pos rfl,decide_eq_true (by omega)]
    show setW _ x _ x=_
    unfold setW;rw [if_pos rfl];rfl
   | false =>
    rw [if_neg (by decide),ih,hb];simp
  ·have ed:decide (x < a + 1)=decide (x < a):=decide_eq_decide.2 (by omega)
   rw [ed,← ih]
   split
   ·show setW _ a _ x=_
    unfold setW;rw [if_neg ex]
   ·rfl
theorem links_W (s:St) (hex:∀ c c' x,c < 8 → c' < 8 → s.B (c + 1) x=true → s.B (c' + 1) x=true → c=c') (hlt:∀ c x,c < 8 → s.B (c + 1) x=true → x < 64 * s.n) :
 ∀ k,k ≤ 8 → (∀ c x,c < k → s.B (c + 1) x=true → (s.links k).W x=s.link c x) ∧ (∀ x,(∀ c,c < k → s.B (c + 1) x=false) → (s.links k).W x=s.W x)
 | 0,_ => ⟨fun c x hc => by omega,fun _ _ => rfl⟩
 | k + 1,hk => by
  obtain ⟨h1,h2⟩:=links_W s hex hlt k (by omega)
  obtain ⟨W,hW⟩:=St.links_form s k
  have hB:(s.links k).B=s.B:=by rw [hW];rfl
  have hL:∀ c x,(s.links k).link c x=s.link c x:=fun c x => by rw [hW];rfl
  have e:∀ x,(s.links (k + 1)).W x=if decide (x < 64 * s.n) && s.B (k + 1) x then s.link k x else (s.links k).W x:=fun x => by
   show ((s.links k).linkTo k (64 * s.n)).W x=_
   rw [linkTo_W,hB,hL]
  refine ⟨fun c x hc hb => ?_,fun x hx => ?_⟩
  ·rw [e x]
   by_cases ec:c=k
   ·subst ec
    rw [hb,decide_eq_true (hlt c x (by omega) hb)];rfl
   ·have:s.B (k + 1) x=false:=by
     cases eb:s.B (k + 1) x with
     | false => rfl
     | true => exact absurd (hex c k x (by omega) (by omega) hb eb) ec
    rw [this,Bool.and_false,if_neg (by decide)]
    exact h1 c x (by omega) hb
  ·rw [e x,hx k (by omega),Bool.and_false,if_neg (by decide)]
   exact h2 x fun c hc => hx c (by omega)
theorem St.Mid.tidyTo {s:St} (h:s.Mid) (hB:∀ c,c < 8 → ∀ a,s.B (c + 1) a=false):∀ p,p ≤ s.n → s.Tidied (s.tidyTo p) p
 | 0,_ => .start hB
 | p + 1,hp => h.tidyStep (h.tidyTo hB p (by omega)) (by omega)
theorem Go_fit_run {s t:St} {p:Nat} (ht:s.Tidied t p) {q r:Nat} (h:s.Run q r):t.Run q r:=by
 obtain ⟨h1,h2,h3,h4⟩:=h
 refine ⟨h1,by rw [ht.n];exact h2,?_,fun j hj1 hj2 => ?_⟩
 ·rcases ht.pg q with e | ⟨_,_,⟨c,_,e⟩,_⟩
  ·rw [e];exact h3
  ·rw [h3] at e;injection e with e2 _ _;omega
 ·rcases ht.pg j with e | ⟨_,_,⟨c,_,e⟩,_⟩
  ·rw [e];exact h4 j hj1 hj2
  ·rw [h4 j hj1 hj2] at e;injection e with e2 _ _;omega
theorem Go_back_run {s t:St} {p:Nat} (ht:s.Tidied t p) {q r:Nat} (h:t.Run q r):s.Run q r:=by
 obtain ⟨h1,h2,h3,h4⟩:=h
 refine ⟨h1,by rw [← ht.n];exact h2,?_,fun j hj1 hj2 => ?_⟩
 ·rcases ht.pg q with e | ⟨_,e,_⟩
  ·rw [← e];exact h3
  ·rw [h3] at e;injection e with e2 _ _;omega
 ·have h5:=h4 j hj1 hj2
  rcases ht.pg j with e | ⟨_,e,_⟩
  ·rw [← e];exact h5
  ·rw [h5] at e;injection e with e2 _ _;omega
theorem St.Mid.tidied {s t:St} (h:s.Mid) (ht:s.Tidied t s.n):t.Mid:=by
 have hsh:∀ x,t.sh x=s.sh x:=fun x => by unfold St.sh;rw [ht.S]
 refine ⟨by rw [ht.n];exact h.n1,by rw [ht.n];exact h.n2,fun p hp => ?_,fun a ha => ?_,fun p r hr => ?_,fun x hx => ?_,by rw [ht.ser];exact h.ser0,by rw [ht.ser,ht.acts];exact h.ser1,fun a ha => ?_,?_,by rw [ht.rm,ht.acts];exact h.room2,h.idx.of ht.Q ht.b0 ht.S,ht.lowf h.lowf⟩
 ·rw [ht.n] at hp
  rcases ht.pg p with e | ⟨_,e,_⟩
  ·rw [e]
   rcases h.pages p hp with e | e | ⟨q,r,e1,e2⟩
   ·exact .inl e
   ·exact .inr (.inl e)
   ·exact .inr (.inr ⟨q,r,Go_fit_run ht e1,e2⟩)
  ·exact .inl e
 ·rw [ht.b0] at ha
  obtain ⟨e1,e2⟩:=h.obj a ha
  unfold St.FineAt at e1 ⊢
  rw [hsh,ht.n]
  refine ⟨e1,?_⟩
  rcases e2 with ⟨c,hc,hz,q,i,hq,hi,hai,hQ⟩ | ⟨hz,p,hp,hr⟩
  ·refine .inl ⟨c,hc,hz,q,i,by rw [ht.n];exact hq,hi,hai,?_⟩
   have:=blk_page hc hi hai
   rcases ht.pg q with e | ⟨_,_,_,e⟩
   ·rw [e];exact hQ
   ·rw [e a (by omega)] at ha;cases ha
  ·exact .inr ⟨hz,p,hp,Go_fit_run ht hr⟩
 ·rw [ht.b0];exact h.runs p r (Go_back_run ht hr)
 ·rw [ht.S]
  refine h.side x ?_
  unfold St.has at hx ⊢
  rw [ht.b0] at hx
  exact hx
 ·rw [ht.b0] at ha
  rw [hsh,ht.ser]
  exact h.sers a ha
 ·rw [ht.rm,h.room,ht.n,ht.b0]
  exact sumTo_congr _ fun j _ => by rw [hsh]
theorem inRoom_congr {s t:St} (hB:t.B 0=s.B 0) (hS:t.S=s.S) (x:Nat):t.InRoom x ↔ s.InRoom x:=by
 have hsh:∀ x,t.sh x=s.sh x:=fun x => by unfold St.sh;rw [hS]
 unfold St.InRoom
 rw [hB]
 exact ⟨fun ⟨a,h1,h2,h3⟩ => ⟨a,h1,h2,by rw [← hsh];exact h3⟩,fun ⟨a,h1,h2,h3⟩ => ⟨a,h1,h2,by rw [hsh];exact h3⟩⟩
structure St.KeptU (s t:St) (stay:Nat → Bool):Prop where
 mid:t.Mid
 free:∀ c,c < 8 → ∀ a,t.B (c + 1) a=true ↔ (t.Blk c a ∧ t.B 0 a=false)
 lnk:∀ c,c < 8 → ∀ a:Nat,t.B (c + 1) a=true → t.W a=t.link c a
 b0:∀ x,t.B 0 x=(s.B 0 x && stay x)
 S:∀ x:Nat,t.B 0 x=true → t.S x=s.S x
 n:t.n=s.n
 ser:t.ser=s.ser
 acts:t.acts=s.acts
 room:∀ x,t.InRoom x → t.W x=s.W x
 zero:∀ x,x < 64 * s.n → ¬t.InRoom x → (∀ c,c < 8 → t.B (c + 1) x=false) → t.W x=0
 used:∀ p c:Nat,p < s.n → t.P p=⟨1,c,0⟩ → ∃ x,x / 64=p ∧ t.B 0 x=true
 apart:∀ x,t.InRoom x → ∀ c,c < 8 → t.B (c + 1) x=false
 back:∀ p,p < s.n → t.P p=s.P p ∨ t.P p=⟨0,0,0⟩
theorem St.Mid.keep {s:St} (h:s.Mid) (stay:Nat → Bool):s.KeptU (s.keep stay) stay:=by
 have hd:=h.dropTo stay (64 * s.n)
 unfold St.keep
 generalize s.dropTo stay (64 * s.n)=s1 at *
 have hr:(s1.reset 8).Mid:=hd.mid.of rfl rfl (reset_B0 _ _) rfl rfl rfl rfl rfl rfl
 have hrB:=reset_B s1
 have hrW:(s1.reset 8).W=s.W:=hd.W
 have hrS:(s1.reset 8).S=s1.S:=rfl
 have hrB0:(s1.reset 8).B 0=s1.B 0:=reset_B0 _ _
 have hrn:(s1.reset 8).n=s.n:=hd.n
 have hrs:(s1.reset 8).ser=s.ser:=hd.ser
 have hra:(s1.reset 8).acts=s.acts:=hd.acts
 have hrP:(s1.reset 8).P=s1.P:=rfl
 generalize s1.reset 8=s2 at *
 rw [← hrn]
 have ht:=hr.tidyTo hrB s2.n (Nat.le_refl _)
 have hm:=hr.tidied ht
 generalize s2.tidyTo s2.n=t at *
 have hfree:∀ c,c < 8 → ∀ a,t.B (c + 1) a=true ↔ (t.Blk c a ∧ t.B 0 a=false):=fun c hc a => by
  rw [ht.free c hc a,ht.b0]
  refine ⟨fun hh => ⟨hh.1,hh.2.1⟩,fun hh => ⟨hh.1,hh.2,?_⟩⟩
  obtain ⟨q,i,hq,hi,hai,_⟩:=hh.1
  have:=blk_page hc hi hai
  rw [ht.n] at hq
  omega
 have hex:∀ c c' x,c < 8 → c' < 8 → t.B (c + 1) x=true → t.B (c' + 1) x=true → c=c':=fun c c' x hc hc' h1 h2 => ((hfree c hc x).1 h1).1.same hc hc' ((hfree c' hc' x).1 h2).1
 have hlt:∀ c x,c < 8 → t.B (c + 1) x=true → x < 64 * t.n:=fun c x hc h1 => by
  obtain ⟨q,i,hq,hi,hai,_⟩:=((hfree c hc x).1 h1).1
  have:=blk_page hc hi hai
  omega
 obtain ⟨l1,l2⟩:=links_W t hex hlt 8 (Nat.le_refl _)
 obtain ⟨W,hW⟩:=St.links_form t 8
 have hWW:(t.links 8).W=W:=by rw [hW];rfl
 rw [hWW] at l1 l2
 rw [hW]
 have hm2:(t.setWs W).Mid:=hm.of rfl rfl rfl rfl rfl rfl rfl rfl rfl
 have hs20:∀ x,(t.setWs W).B 0 x=(s.B 0 x && stay x):=fun x => by
  show t.B 0 x=_
  rw [ht.b0,hrB0,hd.b0]
  by_cases hx:x < 64 * s.n
  ·rw [decide_eq_false (by omega)];rfl
  ·have:s.B 0 x=false:=by
    cases e:s.B 0 x with
    | false => rfl
    | true => have:=(h.obj x e).2.lt;omega
   rw [this];rfl
 -- where a room is,no free block begins
 have hroomfree:∀ x,t.InRoom x → ∀ c,c < 8 → t.B (c + 1) x=false:=fun x ⟨a,ha,h1,h2⟩ c hc => by
  cases e:t.B (c + 1) x with
  | false => rfl
  | true =>
   obtain ⟨hb,h0⟩:=(hfree c hc x).1 e
   have hne:x ≠ a:=fun e2 => by rw [e2,ha] at h0;cases h0
   have:=(hm.obj a ha).2.apart (.inl ⟨c,hc,hb⟩) hne
   omega
 refine ⟨hm2,fun c hc a => hfree c hc a,fun c hc a ha => l1 c a hc ha,hs20,fun x hx => ?_,ht.n.trans hrn,ht.ser.trans hrs,ht.acts.trans hra,fun x hx => ?_,fun x hx1 hx2 hx3 => ?_,fun p c hp hP => ?_,hroomfree,fun p hp => ?_⟩
 ·show t.S x=_
  rw [ht.S,hrS]
  refine hd.S x ?_
  have hx:t.B 0 x=true:=hx
  rw [ht.b0,hrB0] at hx
  exact hx
 ·have hx:t.InRoom x:=hx
  show W x=_
  rw [l2 x (hroomfree x hx),ht.room x ((inRoom_congr ht.b0 ht.S x).1 hx),hrW]
 ·have hx2:¬t.InRoom x:=hx2
  show W x=0
  rw [l2 x hx3]
  exact ht.zero x (by rw [hrn];exact hx1) (fun e => hx2 ((inRoom_congr ht.b0 ht.S x).2 e))
 ·obtain ⟨x,h1,h2⟩:=ht.used p c (by omega) hP
  exact ⟨x,h1,by show t.B 0 x=true;rw [ht.b0];exact h2⟩
 ·rcases ht.pg p with e | ⟨_,e,_⟩
  ·rw [hrP] at e
   exact (hd.back p).imp e.trans e.trans
  ·exact .inr e
theorem St.Mid.keepOk {s:St} (h:s.Mid) (hacts:s.acts ≤ 1000000000000) (stay:Nat → Bool) :
 (∀ a,a < 64 * s.n → (s.dropTo stay a).B 0 a=true → stay a=false → (s.dropTo stay a).DropOk a) ∧ ∀ p,p < s.n → (((s.dropTo stay (64 * s.n)).reset 8).tidyTo p).TidyOk p:=by
 refine ⟨fun a _ hb _ => ?_,fun p hp => ?_⟩
 ·have hd:=h.dropTo stay a
  exact hd.mid.dropOk (by rw [hd.acts];exact hacts) hb
 ·have hd:=h.dropTo stay (64 * s.n)
  have hr:((s.dropTo stay (64 * s.n)).reset 8).Mid:=hd.mid.of rfl rfl (reset_B0 _ _) rfl rfl rfl rfl rfl rfl
  have hn:((s.dropTo stay (64 * s.n)).reset 8).n=s.n:=hd.n
  exact hr.tidyOk (hr.tidyTo (reset_B _) p (by omega)) (by omega)
theorem St.dropN_cnt {s:St} (h:s.Mid) (stay:Nat → Bool):∀ a,s.dropN stay a=Bm.cnt (fun x => s.B 0 x && !stay x) 0 a
 | 0 => rfl
 | a + 1 => by
  have ih:=St.dropN_cnt h stay a
  have hb:=(h.dropTo stay a).b0 a
  rw [decide_eq_true (Nat.le_refl _),Bool.true_or,Bool.and_true] at hb
  have e:s.dropN stay (a + 1)=if (s.dropTo stay a).B 0 a && !stay a then s.dropN stay a + 1 else s.dropN stay a:=rfl
  have e2:Bm.cnt (fun x => s.B 0 x && !stay x) 0 (a + 1)=Bm.cnt (fun x => s.B 0 x && !stay x) 0 a + (s.B 0 (0 + a) && !stay (0 + a)).toNat:=rfl
  rw [e,hb,ih,e2,Nat.zero_add]
  cases s.B 0 a && !stay a <;> rfl
end Go.Proofs.YtfbcdmhmpfijjaaGreatDoor
namespace Go.Proofs.YtfbcdmhmpfijjaaGreatDoor
open Go Go.RowKit
theorem ret_int {a b:Int} (h:a=b):Ending.returned (.int .i64 a)=.returned (.int .i64 b):=by rw [h]
set_option maxRecDepth 100000 in
set_option maxHeartbeats 800000 in
theorem within_any (x n:Int) (w:World) (hx1:-9223372036854775808 ≤ x) (hx2:x ≤ 9223372036854775807) (hn:0 < n) (hn2:n ≤ 1000000000000) :
 Calls Tryz.prog 60 #[.int .i64 x,.int .i64 n] w fun e w' => e=.returned (.int .i64 (wi x n)) ∧ w=w':=by
 have hn0:(n == 0)=false:=by simp;omega
 by_cases h:x < 0
 ·have e:wi x n=(-(x + 1)) % n:=by unfold wi;rw [if_pos h]
  have E:=Lib.hid e;clear e
  go_enter Tryz.func60,Tryz.ntmps60
  go_wp2
  go_ret
  exact ⟨ret_int (by rw [E.out,← Int.neg_tmod,Int.tmod_eq_emod_of_nonneg (by omega)]),rfl⟩
 ·have e:wi x n=x % n:=by unfold wi;rw [if_neg h]
  have E:=Lib.hid e;clear e
  have h0:0 ≤ x:=by omega
  go_enter Tryz.func60,Tryz.ntmps60
  go_wp2
  go_ret
  exact ⟨ret_int (by rw [E.out]),rfl⟩
def IsRowI (w:World) (a:Option Addr) (len _:Nat) (zs:Nat → Int):Prop :=
 len ≤ 9223372036854775807 ∧ ∀ i,i < len → ∃ x,a=some x ∧ w.cell? (x.add i)=some (.int .i64 (zs i)) ∧ (Lit.int .i64 (zs i)).wf=true
structure OpV where
 k:Int
 a:Int
 b:Int
 c:Int
 la:Option Addr
 ll:Nat
 lc:Nat
 zs:Nat → Int
def OpAt (w:World) (x:Addr) (o:OpV):Prop :=
 (∃ who,w.cell? x=some (.int .i64 who)) ∧ w.cell? ⟨x.block,x.off + 1,none⟩=some (.int .i64 o.k) ∧ w.cell? ⟨x.block,x.off + 2,none⟩=some (.int .i64 o.a) ∧ w.cell? ⟨x.block,x.off + 3,none⟩=some (.int .i64 o.b) ∧ w.cell? ⟨x.block,x.off + 4,none⟩=some (.int .i64 o.c) ∧
   w.cell? ⟨x.block,x.off + 5,none⟩=some (.slice o.la o.ll o.lc) ∧ (Lit.int .i64 o.a).wf=true ∧ (Lit.int .i64 o.b).wf=true ∧ (Lit.int .i64 o.c).wf=true ∧ IsRowI w o.la o.ll o.lc o.zs
def IsOps (w:World) (a:Option Addr) (len:Nat) (os:Nat → OpV):Prop :=
 len ≤ 9223372036854775807 ∧ ∀ i,i < len → ∃ x,a=some x ∧ OpAt w (x.add (i * 6)) (os i)
def smTo (os:Nat → OpV):Nat → Nat
 | 0 => 0
 | i + 1 => smTo os i + (os i).ll
def smallB (os:Nat → OpV) (len:Nat):Bool:=(List.range (min len 120)).all (fun i => decide ((os i).ll ≤ 400)) && decide (smTo os (min len 120) ≤ 8000)
theorem smTo_le (os:Nat → OpV):∀ i k,smTo os i ≤ smTo os (i + k)
 | _,0 => Nat.le_refl _
 | i,k + 1 => Nat.le_trans (smTo_le os i k) (Nat.le_add_right _ _)
theorem smTo_mono (os:Nat → OpV) {i j:Nat} (h:i ≤ j):smTo os i ≤ smTo os j:=by
 have:=smTo_le os i (j - i)
 rwa [show i + (j - i)=j by omega] at this
theorem smallB_ll {os:Nat → OpV} {len:Nat} (h:smallB os len=true):∀ i,i < len → i < 120 → (os i).ll ≤ 400:=by
 unfold smallB at h
 rw [Bool.and_eq_true,List.all_eq_true] at h
 intro i h1 h2
 have:=h.1 i (List.mem_range.2 (by omega))
 simpa using this
theorem smallB_true {os:Nat → OpV} {len i:Nat} (h:∀ j,j < i → (os j).ll ≤ 400) (hi:i=min len 120) (hs:smTo os i ≤ 8000):smallB os len=true:=by
 unfold smallB
 subst hi
 rw [Bool.and_eq_true,List.all_eq_true]
 exact ⟨fun j hj => decide_eq_true (h j (List.mem_range.1 hj)),decide_eq_true hs⟩
theorem smallB_far {os:Nat → OpV} {len i:Nat} (hi:i ≤ min len 120) (hs:8000 < smTo os i):smallB os len=false:=by
 unfold smallB
 rw [decide_eq_false (by have:=smTo_mono os hi;omega),Bool.and_false]
theorem smallB_long {os:Nat → OpV} {len i:Nat} (hi:i < min len 120) (hs:400 < (os i).ll):smallB os len=false:=by
 cases h:smallB os len with
 | false => rfl
 | true => have:=smallB_ll h i (by omega) (by omega);omega
set_option maxRecDepth 100000 in
set_option maxHeartbeats 1600000 in
theorem small_any (a:Option Addr) (len cap:Nat) (os:Nat → OpV) (w:World) (h:IsOps w a len os) :
 Calls Tryz.prog 42 #[.slice a len cap] w fun e w' => e=.returned (.bool (smallB os len)) ∧ w=w':=by
 have hle:(len:Int) ≤ 9223372036854775807:=by have:=h.1;omega
 have H:=Lib.hid h;clear h
 obtain ⟨b,hb⟩:∃ b,smallB os len=b:=⟨_,rfl⟩
 rw [hb]
 have HB:=Lib.hid hb;clear hb
 go_enter Tryz.func42,Tryz.ntmps42
 go_wp2_with fail
 go_loopw [3,4] (fun y z wr => ∃ (n i:Nat),y=.int .i64 (n:Int) ∧ z=.int .i64 (i:Int) ∧ i ≤ len ∧ i ≤ 120 ∧ n ≤ 8400 ∧ (n=smTo os i ∧ ∀ j,j < i → (os j).ll ≤ 400) ∧ wr=w) (fun _ z _ => 200 - (intOf z).toNat)
 case atStart => exact ⟨0,0,rfl,rfl,by omega,by omega,by omega,⟨rfl,fun j hj => by omega⟩,rfl⟩
 case round =>
  obtain ⟨n,i,rfl,rfl,hi,hi2,hn,hall,rfl⟩:=hrel
  have HALL:=Lib.hid hall;clear hall
  have hi0:(0:Int) ≤ (i:Int):=by omega
  have hn0:(n:Int) ≤ 8400:=by omega
  have hn1:(0:Int) ≤ (n:Int):=by omega
  by_cases hg:i < len ∧ i < 120 ∧ n ≤ 8000
  ·have g1:decide ((i:Int) < (len:Int))=true:=decide_eq_true (by omega)
   have g2:decide ((i:Int) < 120)=true:=decide_eq_true (by omega)
   have g3:decide ((n:Int) ≤ 8000)=true:=decide_eq_true (by omega)
   have g4:(i:Int) < (len:Int):=by omega
   obtain ⟨x,rfl,hop⟩:=H.out.2 i hg.1
   obtain ⟨_,_,_,_,_,hl,_,_,_,hr⟩:=hop
   have hll:((os i).ll:Int) ≤ 9223372036854775807:=by have:=hr.1;omega
   have hll0:(0:Int) ≤ ((os i).ll:Int):=by omega
   obtain ⟨l,hlq⟩:∃ l,(os i).ll=l:=⟨_,rfl⟩
   rw [hlq] at hl hll hll0
   have HLQ:=Lib.hid hlq
   have HG:=Lib.hid hg
   clear hlq hr hg
   have e1:(x.add (i * 6)).block=x.block ∧ (x.add (i * 6)).off=x.off + i * 6:=by unfold Addr.add;split <;> simp_all
   rw [e1.1,e1.2] at hl
   by_cases h4:l ≤ 400
   ·have h4d:decide ((400:Int) < (l:Int))=false:=decide_eq_false (by omega)
    have hw1:IntKind.i64.wrap ((n:Int) + (l:Int))=(n:Int) + (l:Int):=by rw [IntKind.wrap_i64];omega
    go_wp2
    go_roundw
    case rel =>
     refine ⟨n + l,i + 1,by go_num,by go_num,by have:=HG.out;omega,by have:=HG.out;omega,by have:=HG.out;omega,?_,trivial⟩
     refine ⟨by show n + l=smTo os i + (os i).ll;rw [HALL.out.1,HLQ.out],fun j hj => ?_⟩
     by_cases ej:j=i
     ·subst ej;rw [HLQ.out];exact h4
     ·exact HALL.out.2 j (by omega)
    case measure => have:=HG.out;simp [intOf];omega
   ·have h4d:decide ((400:Int) < (l:Int))=true:=decide_eq_true (by omega)
    go_wp2
    go_ret
    exact ⟨by have h:=smallB_long (os:=os) (len:=len) (i:=i) (by have:=HG.out;omega) (by rw [HLQ.out];omega);rw [HB.out] at h;rw [h];rfl,rfl⟩
  ·have HG:=Lib.hid hg
   by_cases g1:i < len
   ·have d1:decide ((i:Int) < (len:Int))=true:=decide_eq_true (by omega)
    by_cases g2:i < 120
    ·have d2:decide ((i:Int) < 120)=true:=decide_eq_true (by omega)
     have d3:decide ((n:Int) ≤ 8000)=false:=decide_eq_false (by omega)
     clear hg
     go_wp2
     go_ret
     exact ⟨by have h:=smallB_far (os:=os) (len:=len) (i:=i) (by omega) (by have:=HG.out;rw [← HALL.out.1];omega);rw [HB.out] at h;rw [h];rfl,rfl⟩
    ·have d2:decide ((i:Int) < 120)=false:=decide_eq_false (by omega)
     clear hg
     have hfin:i=120:=by omega
     have hbb:decide ((n:Int) ≤ 8000)=b:=by
      rw [← HB.out]
      by_cases h8:n ≤ 8000
      ·rw [decide_eq_true (by omega),smallB_true HALL.out.2 (by omega) (by rw [← HALL.out.1];exact h8)]
      ·rw [decide_eq_false (by omega),smallB_far (i:=i) (by omega) (by rw [← HALL.out.1];omega)]
     go_wp2
     go_ret
     exact ⟨rfl,rfl⟩
   ·have d1:decide ((i:Int) < (len:Int))=false:=decide_eq_false (by omega)
    clear hg
    have hfin:i=len:=by omega
    have hbb:decide ((n:Int) ≤ 8000)=b:=by
     rw [← HB.out]
     by_cases h8:n ≤ 8000
     ·rw [decide_eq_true (by omega),smallB_true HALL.out.2 (by omega) (by rw [← HALL.out.1];exact h8)]
     ·rw [decide_eq_false (by omega),smallB_far (i:=i) (by omega) (by rw [← HALL.out.1];omega)]
    go_wp2
    go_ret
    exact ⟨rfl,rfl⟩
end Go.Proofs.YtfbcdmhmpfijjaaGreatDoor
namespace Go.Proofs.YtfbcdmhmpfijjaaGreatDoor
open Go Go.RowKit
theorem new_inv (n:Nat) (h1:1 ≤ n) (h2:n ≤ 4096):(St.new n).Inv:=by
 have hP:∀ p,(St.new n).P p=⟨0,0,0⟩:=fun _ => rfl
 refine ⟨h1,h2,fun p _ => .inl rfl,fun a ha => ?_,fun p r hr => ?_,fun c hc a => ?_,fun a ha => ?_,fun c hc a ha => ?_,fun _ _ => rfl,Int.le_refl _,Int.le_refl _,fun a ha => ?_,?_,Int.le_refl _,fun x a => ⟨fun h => (by cases h),fun ⟨n,_,h,_⟩ => (by cases h)⟩,fun p hp => (by exact absurd hp (Nat.not_lt_zero p))⟩
 ·cases ha
 ·have:=hr.2.2.1
  rw [hP] at this;injection this with e _ _;omega
 ·refine ⟨fun ha => (by cases ha),fun hh => ?_⟩
  obtain ⟨p,i,_,_,_,h⟩:=hh.1
  rw [hP] at h;injection h with e _ _;omega
 ·cases ha
 ·cases ha
 ·cases ha
 ·show (0:Int)=_
  have:∀ N,sumTo (fun a:Nat => if (St.new n).B 0 a=true then Sp.wide ((St.new n).sh a).z else 0) N=0:=fun N => by
   induction N with
   | zero => rfl
   | succ N ih =>
    unfold sumTo
    rw [ih]
    rfl
  rw [this]
theorem St.InvX.takeSmall {s:St} (h:s.Inv) {z:Int} {c:Nat} (hc:c < 8) (hcz:Sp.cls z=(c:Int)) (hlow:s.low ≤ s.n) :
 (∃ a:Nat,s.hd0 c=(a:Int) ∧ s.take z=(s.setB (c + 1) (setS (s.B (c + 1)) a false),(a:Int),0,0)) ∨
 ((∀ a,s.B (c + 1) a=false) ∧ s.ff=s.n ∧ s.take z=({ s with low:=s.ff },0,20,0)) ∨
 ((∀ a,s.B (c + 1) a=false) ∧ s.ff < s.n ∧ s.P s.ff=⟨0,0,0⟩ ∧ s.take z=((s.open c).setB (c + 1) (setS ((s.open c).B (c + 1)) (s.ff * 64) false),((s.ff * 64:Nat):Int),0,0)):=by
 have hffn:s.ff ≤ s.n:=firstFree_le _ _ _ hlow
 unfold St.take
 rw [if_neg (by omega),hcz,Int.toNat_natCast]
 by_cases h0:0 ≤ s.hd0 c
 ·rw [if_pos h0]
  obtain ⟨a,ha⟩:=Int.eq_ofNat_of_zero_le h0
  rw [ha,Int.toNat_natCast]
  exact .inl ⟨a,rfl,(h.pick hc ha).1⟩
 ·have he:∀ a,s.B (c + 1) a=false:=by
   unfold St.hd0 at h0
   rcases Bm.next_spec (s.B (c + 1)) (64 * s.n) 0 with ⟨_,e⟩ | ⟨i,e,_⟩
   ·intro a
    cases eb:s.B (c + 1) a with
    | false => rfl
    | true =>
     obtain ⟨⟨p,i,h1,h2,h3,_⟩,_⟩:=(h.free c hc a).1 eb
     have:=blk_page hc h2 h3
     have:=e a (by omega) (by omega)
     rw [eb] at this;cases this
   ·omega
  rw [if_neg h0]
  by_cases hf:s.ff=s.n
  ·rw [if_pos hf]
   exact .inr (.inl ⟨he,hf,rfl⟩)
  ·rw [if_neg hf]
   have hP:=Pg.free_eq (firstFree_free s.P s.n s.low (show s.ff < s.n by omega))
   obtain ⟨o1,o2,o3⟩:=h.open hc (by omega) hP he
   exact .inr (.inr ⟨he,by omega,hP,(o1.pick hc o2).1⟩)
theorem first_take:∃ s1,(St.new 1).take 3=(s1,((0:Nat):Int),0,0) ∧ s1.P 0=⟨1,((1:Nat):Int),0⟩ ∧ s1.n=1:=by
 have h:=new_inv 1 (by omega) (by omega)
 have hff:(St.new 1).ff=0:=by
  show firstFree _ 1 0=0
  rw [firstFree,dif_pos (by omega)]
  rfl
 rcases h.takeSmall (z:=3) (c:=1) (by omega) (by decide) (Nat.zero_le _) with ⟨a,ha,_⟩ | ⟨_,hf,_⟩ | ⟨_,_,_,ht⟩
 ·exfalso
  have:(St.new 1).hd0 1=-1:=Bm.next_none fun _ _ _ => rfl
  omega
 ·rw [hff] at hf;exact absurd hf (by decide)
 ·rw [hff] at ht
  refine ⟨_,ht,?_,rfl⟩
  show setPg (St.new 1).P (St.new 1).ff ⟨1,((1:Nat):Int),0⟩ 0=_
  rw [hff];rfl
theorem blk_one {s:St} (hn:s.n=1) (hP:s.P 0=⟨1,((1:Nat):Int),0⟩) (x:Nat):s.Blk 1 x ↔ ∃ i,i < 16 ∧ x=i * 4:=by
 constructor
 ·rintro ⟨p,i,h1,h2,h3,_⟩
  obtain rfl:p=0:=by omega
  exact ⟨i,h2,by rw [h3];show 0 * 64 + i * 4=_;omega⟩
 ·rintro ⟨i,h1,h2⟩
  exact ⟨0,i,by omega,h1,by rw [h2];show _=0 * 64 + i * 4;omega,hP⟩
theorem free_one {s:St} (h:s.Inv) (hn:s.n=1) (hP:s.P 0=⟨1,((1:Nat):Int),0⟩) (x:Nat):s.B 2 x=true ↔ (∃ i,i < 16 ∧ x=i * 4) ∧ s.B 0 x=false:=by
 rw [h.free 1 (by omega) x,blk_one hn hP]
 exact ⟨fun hh => ⟨hh.1,hh.2.1⟩,fun hh => ⟨hh.1,hh.2,id⟩⟩
theorem next_one {s:St} (h:s.Inv) (hn:s.n=1) (hP:s.P 0=⟨1,((1:Nat):Int),0⟩) (i f:Nat) (hi:i < 16) (hf:f ≤ i * 4) (hb:s.B 0 (i * 4)=false) (hno:∀ j,f ≤ j * 4 → j < i → s.B 0 (j * 4)=true):Bm.next (s.B 2) 64 (f:Int)=((i * 4:Nat):Int):=by
 refine Bm.next_eq (by omega) (by omega) ((free_one h hn hP _).2 ⟨⟨i,hi,rfl⟩,hb⟩) (fun j hj hj2 => ?_)
 cases e:s.B 2 j with
 | false => rfl
 | true =>
  obtain ⟨⟨k,hk,rfl⟩,h2⟩:=(free_one h hn hP _).1 e
  rw [hno k (by omega) (by omega)] at h2;cases h2
end Go.Proofs.YtfbcdmhmpfijjaaGreatDoor
namespace Go.Proofs.YtfbcdmhmpfijjaaGreatDoor
open Go Go.RowKit
theorem two_taken (s1:St) (a:Nat) (t1:(St.new 1).take 3=(s1,(a:Int),0,0)) (k1:(St.new 1).Took s1 3 a) (i2:(s1.put a 1 3 0).Inv) :
 a=0 ∧ ∃ s3,(s1.put a 1 3 0).take 3=(s3,((4:Nat):Int),0,0) ∧ ((s1.put a 1 3 0).Took s3 3 4 → (s3.put 4 1 3 0).Inv → (s3.put 4 1 3 0).W 8=100 ∧ 8 < 64 * (s3.put 4 1 3 0).n):=by
 obtain ⟨s1',e1,e2,e3⟩:=first_take
 rw [t1] at e1
 injection e1 with e4 e5
 injection e5 with e5 _
 subst e4
 obtain rfl:a=0:=by omega
 refine ⟨rfl,?_⟩
 have hb0:∀ x,(s1.put 0 1 3 0).B 0 x=if x=0 then true else false:=fun x => by
  rw [put_has,k1.b0];rfl
 have hn:(s1.put 0 1 3 0).n=1:=e3
 have hP:(s1.put 0 1 3 0).P 0=⟨1,((1:Nat):Int),0⟩:=e2
 have hh:(s1.put 0 1 3 0).hd0 1=((1 * 4:Nat):Int):=by
  unfold St.hd0
  rw [hn]
  exact next_one i2 hn hP 1 0 (by omega) (by omega) (by rw [hb0];rfl) (fun j _ hj => by rw [hb0];obtain rfl:j=0:=by omega
                                                                                        rfl)
 have hlow:(s1.put 0 1 3 0).low ≤ (s1.put 0 1 3 0).n:=by
  show s1.low ≤ s1.n
  rw [e3]
  have:s1=((St.new 1).take 3).1:=by rw [t1]
  rw [this]
  rcases (new_inv 1 (by omega) (by omega)).takeSmall (z:=3) (c:=1) (by omega) (by decide) (Nat.zero_le _) with ⟨b,hb,ht⟩ | ⟨_,_,ht⟩ | ⟨_,hf,_,ht⟩
  ·rw [ht];exact Nat.zero_le _
  ·rw [t1] at ht;injection ht with _ e;injection e with _ e;injection e with e _;exact absurd e (by decide)
  ·rw [ht];show (St.new 1).ff ≤ 1;have hf:(St.new 1).ff < 1:=hf;omega
 rcases i2.takeSmall (z:=3) (c:=1) (by omega) (by decide) hlow with ⟨b,hb,ht⟩ | ⟨he,_,_⟩ | ⟨he,_⟩
 ·rw [hh] at hb
  obtain rfl:b=4:=by omega
  refine ⟨_,ht,fun k3 i3 => ?_⟩
  generalize (s1.put 0 1 3 0).setB 2 _=s3 at *
  have hb3:∀ x,(s3.put 4 1 3 0).B 0 x=if x=4 then true else if x=0 then true else false:=fun x => by
   rw [put_has,k3.b0,hb0]
  have hn3:(s3.put 4 1 3 0).n=1:=k3.n.trans hn
  have hP3:(s3.put 4 1 3 0).P 0=⟨1,((1:Nat):Int),0⟩:=by
   show s3.P 0=_
   have hs3:s3=((s1.put 0 1 3 0).take 3).1:=by rw [ht]
   rw [hs3]
   rcases i2.takeSmall (z:=3) (c:=1) (by omega) (by decide) hlow with ⟨b,_,ht'⟩ | ⟨he,_,_⟩ | ⟨he,_⟩
   ·rw [ht'];exact hP
   ·have:=(free_one i2 hn hP 4).2 ⟨⟨1,by omega,rfl⟩,by rw [hb0];rfl⟩
    rw [he 4] at this;cases this
   ·have:=(free_one i2 hn hP 4).2 ⟨⟨1,by omega,rfl⟩,by rw [hb0];rfl⟩
    rw [he 4] at this;cases this
  have hf8:(s3.put 4 1 3 0).B 2 8=true:=(free_one i3 hn3 hP3 8).2 ⟨⟨2,by omega,rfl⟩,by rw [hb3];rfl⟩
  refine ⟨?_,by rw [hn3];omega⟩
  rw [i3.lnk 1 (by omega) 8 hf8]
  unfold St.link
  rw [hn3]
  have:=next_one i3 hn3 hP3 3 9 (by omega) (by omega) (by rw [hb3];rfl) (fun j hj hj2 => by omega)
  show Sp.lnk (Bm.next ((s3.put 4 1 3 0).B 2) 64 ((9:Nat):Int))=100
  rw [this]
  decide
 ·have:=(free_one i2 hn hP 4).2 ⟨⟨1,by omega,rfl⟩,by rw [hb0];rfl⟩
  rw [he 4] at this;cases this
 ·have:=(free_one i2 hn hP 4).2 ⟨⟨1,by omega,rfl⟩,by rw [hb0];rfl⟩
  rw [he 4] at this;cases this
set_option maxRecDepth 100000 in
set_option maxHeartbeats 1600000 in
theorem alive_any (w:World) (hT:Tab w) (h0:0 < w.heap.size) :
 Calls Tryz.prog 12 #[] w fun e w' => e=.returned (.bool true) ∧ Still w w':=by
 have HNW:=Lib.hid (snew_yes 1 w (by omega) (by omega) hT h0)
 clear hT h0
 go_enter Tryz.func12,Tryz.ntmps12
 go_wp2_with fail
 refine HNW.out _ (fun w1 L hlo hs hst => ?_)
 have HS:=Lib.hid hs
 have HST:=Lib.hid hst
 have HLO:=Lib.hid hlo
 clear hs hst HNW hlo
 go_wp2_with fail
 have hf13:Sp.fits 1 3=true:=by decide
 obtain ⟨s1',e1,e2,e3⟩:=first_take
 refine alloc_inv w1 L (St.new 1) HS.out (new_inv 1 (by omega) (by omega)) 1 3 0 (by decide) (by decide) _ (fun hf => absurd hf13 (by rw [hf];decide)) (fun l w' _ e => ?_) (fun s1 a w2 _ ht hk hsp hi ho => ?_)
 ·rw [e1] at e;injection e with _ e;injection e with _ e;injection e with e _;exact absurd e (by decide)
 obtain ⟨rfl,s3,ht3,hlast⟩:=two_taken s1 a ht hk hi
 have HS2:=Lib.hid hsp
 have HI2:=Lib.hid hi
 have HST2:Hid (Still w w2):=Lib.hid (HST.out.trans' ho (.inr (Nat.le_of_eq HLO.out.symm)) (.inr (Nat.le_of_eq HLO.out.symm)))
 have HT3:=Lib.hid ht3
 have HLAST:=Lib.hid hlast
 have hacts:(s1.put 0 1 3 0).acts + 2 ≤ 1000000000000:=by show s1.acts + 2 + 2 ≤ _;rw [hk.acts];decide
 have hls:=hsp.sblt
 have HLH:=Lib.hid hsp.top
 clear hsp hi ho ht3 hlast ht hk e1 e2 e3 HS HST
 generalize s1.put 0 1 3 0=s2 at *
 go_wp2_with fail
 have hB0:=heap_alloc_new w2 (.cells #[.int .i64 0,.int .i64 0] 50)
 have HS3:=Lib.hid (HS2.out.alloc (.cells #[.int .i64 0,.int .i64 0] 50))
 have HST3:=Lib.hid (HST2.out.alloc (.cells #[.int .i64 0,.int .i64 0] 50))
 have HL3:Hid (w2.heap.size < (w2.alloc (.cells #[.int .i64 0,.int .i64 0] 50)).heap.size):=Lib.hid (by simp)
 generalize w2.alloc (.cells #[.int .i64 0,.int .i64 0] 50)=w3 at *
 clear HS2 HST2
 refine alloc_inv w3 L s2 HS3.out HI2.out 1 3 0 (by decide) hacts _ (fun hf => absurd hf13 (by rw [hf];decide)) (fun l w' _ e => ?_) (fun s4 a w4 _ ht hk hsp hi ho => ?_)
 ·rw [HT3.out] at e;injection e with _ e;injection e with _ e;injection e with e _;exact absurd e (by decide)
 rw [HT3.out] at ht
 injection ht with es ea
 injection ea with ea _
 subst es
 obtain rfl:a=4:=by omega
 obtain ⟨hW,h8⟩:=HLAST.out hk hi
 have HS4:=Lib.hid hsp
 have HST4:Hid (Still w w4):=Lib.hid (HST3.out.trans' ho (.inr (Nat.le_of_eq HLO.out.symm)) (.inr (Nat.le_of_eq HLO.out.symm)))
 have hB1:w4.heap[w2.heap.size]?=some (.cells #[.int .i64 0,.int .i64 0] 50):=(ho.block _ HL3.out (.inr HLH.out)).trans hB0
 have HB1:=Lib.hid hB1
 have hlB1:=(Array.getElem?_eq_some_iff.1 hB1).1
 clear hsp hi ho hk hB0 hB1 HS3 HST3 HL3 HLAST
 generalize s3.put 4 1 3 0=s5 at *
 go_wp2_with fail
 have hB4:=heap_alloc_new w4 (.cells #[.int .i64 0,.int .i64 0] 50)
 have hB5:(w4.alloc (.cells #[.int .i64 0,.int .i64 0] 50)).heap[w2.heap.size]?=some (.cells #[.int .i64 0,.int .i64 0] 50):=by rw [Below.heap_alloc _ _ _ hlB1];exact HB1.out
 have HS6:=Lib.hid (HS4.out.alloc (.cells #[.int .i64 0,.int .i64 0] 50))
 have HST6:=Lib.hid (HST4.out.alloc (.cells #[.int .i64 0,.int .i64 0] 50))
 generalize w4.alloc (.cells #[.int .i64 0,.int .i64 0] 50)=w6 at *
 refine (peek_in w6 L s5 HS6.out 8 h8).mono ?_
 rintro e w7 ⟨rfl,rfl⟩
 rw [hW]
 have c0:=cell_of (v:=.int .i64 0) hB5 0 rfl
 have c1:=cell_of (v:=.int .i64 0) hB5 1 rfl
 have d0:=cell_of (v:=.int .i64 0) hB4 0 rfl
 have d1:=cell_of (v:=.int .i64 0) hB4 1 rfl
 have l0:=(Array.getElem?_eq_some_iff.1 hB5).1
 have l1:=(Array.getElem?_eq_some_iff.1 hB4).1
 clear hB4 hB5
 go_wp2_with fail
 go_ret
 exact ⟨rfl,HST6.out⟩
end Go.Proofs.YtfbcdmhmpfijjaaGreatDoor
