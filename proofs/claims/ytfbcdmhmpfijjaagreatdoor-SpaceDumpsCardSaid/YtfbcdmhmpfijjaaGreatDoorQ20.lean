/-
  The walk of world.takes.
-/
import Derived.Test.YtfbcdmhmpfijjaaGreatDoorQ19
import Derived.Test.YtfbcdmhmpfijjaaGreatDoorQ09
import Derived.Test.YtfbcdmhmpfijjaaGreatDoorQ05
import Derived.Shelf.Abstract
set_option linter.unusedVariables false
set_option linter.unusedSimpArgs false
set_option linter.unusedSectionVars false
namespace Go.Proofs.YtfbcdmhmpfijjaaGreatDoor
open Go Go.RowKit
structure Ob where
 at':Nat
 sh:Sh
def Ob.cells (o:Ob):List Value:=[.int .i64 (o.at':Int),.int .i64 o.sh.k,.int .i64 o.sh.z,.int .i64 o.sh.s,.int .i64 o.sh.t]
def obCells (os:List Ob):List Value:=os.flatMap Ob.cells
structure Agree (s:St) (os:List Ob):Prop where
 here:∀ o ∈ os,s.B 0 o.at'=true ∧ s.sh o.at'=o.sh
 all:∀ a,s.B 0 a=true → ∃ o ∈ os,o.at'=a
 once:(os.map Ob.at').Nodup
end Go.Proofs.YtfbcdmhmpfijjaaGreatDoor
namespace Go.Proofs.YtfbcdmhmpfijjaaGreatDoor
open Go Go.RowKit
theorem row_ix {k i d i' d':Nat} (h:d < k) (h':d' < k) (e:i' * k + d'=i * k + d):i'=i ∧ d'=d:=by
 have h1:(i' * k + d') / k=i':=by rw [Nat.mul_comm,Nat.mul_add_div (by omega),Nat.div_eq_of_lt h',Nat.add_zero]
 have h2:(i * k + d) / k=i:=by rw [Nat.mul_comm,Nat.mul_add_div (by omega),Nat.div_eq_of_lt h,Nat.add_zero]
 have h3:i'=i:=by rw [← h1,← h2,e]
 subst h3
 exact ⟨rfl,by omega⟩
def RowB (w:World) (b:Nat) (T:TypeId) (n k:Nat) (f:Nat → Nat → Int):Prop :=
 ∃ cur,w.heap[b]?=some (.cells cur T (0,0)) ∧ ∀ i,i < n → ∀ d,d < k → cur[i * k + d]?=some (.int .i64 (f i d))
section
variable {w w':World} {b:Nat} {T:TypeId} {n k:Nat} {f:Nat → Nat → Int} (h:RowB w b T n k f)
include h
theorem RowB.lt:b < w.heap.size:=by
 obtain ⟨cur,h1,_⟩:=h
 exact (Array.getElem?_eq_some_iff.1 h1).1
theorem RowB.frozen (j:Nat):w.frozen? ⟨b,j,none⟩=false:=by
 obtain ⟨cur,h1,_⟩:=h
 simp [World.frozen?,h1]
theorem RowB.cell {i d:Nat} (hi:i < n) (hd:d < k):w.cell? ⟨b,i * k + d,none⟩=some (.int .i64 (f i d)):=by
 obtain ⟨cur,h1,h2⟩:=h
 simp only [World.cell?,h1]
 exact h2 i hi d hd
theorem RowB.kept {lo hi:Nat} (ho:Only lo hi w w') (hb:b < lo ∨ hi ≤ b):RowB w' b T n k f:=by
 have hl:=h.lt
 obtain ⟨cur,h1,h2⟩:=h
 exact ⟨cur,(ho.block b hl hb).trans h1,h2⟩
theorem RowB.still (ho:Still w w'):RowB w' b T n k f:=h.kept ho (.inl h.lt)
theorem RowB.congr {g:Nat → Nat → Int} (e:∀ i,i < n → ∀ d,d < k → f i d=g i d):RowB w b T n k g:=by
 obtain ⟨cur,h1,h2⟩:=h
 exact ⟨cur,h1,fun i hi d hd => by rw [h2 i hi d hd,e i hi d hd]⟩
theorem RowB.set {i d:Nat} (hi:i < n) (hd:d < k) (v:Int):RowB (w.setCell ⟨b,i * k + d,none⟩ (.int .i64 v)) b T n k (fun i' d' => if i'=i ∧ d'=d then v else f i' d'):=by
 obtain ⟨cur,h1,h2⟩:=h
 refine ⟨cur.setIfInBounds (i * k + d) (.int .i64 v),?_,fun i' hi' d' hd' => ?_⟩
 ·simp only [World.setCell,Array.getElem?_modify,h1,if_pos,Option.map_some,Option.isSome_none,Bool.false_eq_true,if_false]
 ·have hlt:=(Array.getElem?_eq_some_iff.1 (h2 i hi d hd)).1
  rw [Array.getElem?_setIfInBounds]
  dsimp only
  by_cases e:i'=i ∧ d'=d
  ·obtain ⟨rfl,rfl⟩:=e
   rw [if_pos rfl,if_pos hlt,if_pos ⟨rfl,rfl⟩]
  ·rw [if_neg fun e2 => e (row_ix hd hd' e2.symm),if_neg e]
   exact h2 i' hi' d' hd'
end
structure RLay where
 lo:Nat
 hi:Nat
 rb:Nat
 tb:Nat
 wb:Nat
 pb:Nat
 ob:Nat
 cw:Nat
 cp:Nat
 co:Nat
structure RLay.Ok (R:RLay):Prop where
 lo0:0 < R.lo
 rb1:R.lo ≤ R.rb ∧ R.rb < R.hi
 tb1:R.lo ≤ R.tb ∧ R.tb < R.hi
 wb1:R.lo ≤ R.wb ∧ R.wb < R.hi
 pb1:R.lo ≤ R.pb ∧ R.pb < R.hi
 ob1:R.lo ≤ R.ob ∧ R.ob < R.hi
 rt:R.rb ≠ R.tb
 rw':R.rb ≠ R.wb
 rp:R.rb ≠ R.pb
 ro:R.rb ≠ R.ob
 tw:R.tb ≠ R.wb
 tp:R.tb ≠ R.pb
 to':R.tb ≠ R.ob
 wp:R.wb ≠ R.pb
 wo:R.wb ≠ R.ob
 po:R.pb ≠ R.ob
def St.ro (s:St) (a d:Nat):Int :=
 if s.B 0 a then (if d=0 then (a:Int) else if d=1 then (s.sh a).k else if d=2 then (s.sh a).z else if d=3 then (s.sh a).s else (s.sh a).t) else 0
def St.pr (s:St) (i d:Nat):Int:=if d=0 then (s.P i).k else if d=1 then (s.P i).c else (s.P i).r
structure RefAt (w:World) (R:RLay) (s:St):Prop where
 ok:R.Ok
 top:R.hi ≤ w.heap.size
 n1:1 ≤ s.n
 n2:s.n ≤ 4096
 head:w.heap[R.rb]?=some (.cells #[.slice (some ⟨R.wb,0,none⟩) (64 * s.n) R.cw,.pointer (some ⟨R.tb,0,none⟩),.slice (some ⟨R.ob,0,none⟩) (64 * s.n) R.co,.int .i64 s.ser] 66 (0,0))
 thead:w.heap[R.tb]?=some (.cells #[.slice (some ⟨R.pb,0,none⟩) s.n R.cp] 127 (0,0))
 words:RowB w R.wb 3 (64 * s.n) 1 (fun i _ => s.W i)
 pages:RowB w R.pb 146 s.n 3 s.pr
 objs:RowB w R.ob 95 (64 * s.n) 5 s.ro
section
variable {w w':World} {R:RLay} {s:St} (h:RefAt w R s)
include h
theorem RefAt.c0:w.cell? ⟨R.rb,0,none⟩=some (.slice (some ⟨R.wb,0,none⟩) (64 * s.n) R.cw):=by simp [World.cell?,h.head]
theorem RefAt.c1:w.cell? ⟨R.rb,1,none⟩=some (.pointer (some ⟨R.tb,0,none⟩)):=by simp [World.cell?,h.head]
theorem RefAt.c2:w.cell? ⟨R.rb,2,none⟩=some (.slice (some ⟨R.ob,0,none⟩) (64 * s.n) R.co):=by simp [World.cell?,h.head]
theorem RefAt.c3:w.cell? ⟨R.rb,3,none⟩=some (.int .i64 s.ser):=by simp [World.cell?,h.head]
theorem RefAt.t0:w.cell? ⟨R.tb,0,none⟩=some (.slice (some ⟨R.pb,0,none⟩) s.n R.cp):=by simp [World.cell?,h.thead]
theorem RefAt.f (j:Nat):w.frozen? ⟨R.rb,j,none⟩=false:=by simp [World.frozen?,h.head]
theorem RefAt.word {i:Nat} (hi:i < 64 * s.n):w.cell? ⟨R.wb,i,none⟩=some (.int .i64 (s.W i)):=by
 have:=h.words.cell hi (d:=0) (by omega)
 rwa [Nat.mul_one,Nat.add_zero] at this
theorem RefAt.kept {lo hi:Nat} (ho:Only lo hi w w') (hd:R.hi ≤ lo ∨ hi ≤ R.lo):RefAt w' R s:=by
 have o:=h.ok
 have r1:=o.rb1
 have t1:=o.tb1
 have w1:=o.wb1
 have p1:=o.pb1
 have o1:=o.ob1
 have tp:=h.top
 exact ⟨o,Nat.le_trans tp ho.size,h.n1,h.n2,(ho.block _ (by omega) (by omega)).trans h.head,(ho.block _ (by omega) (by omega)).trans h.thead,h.words.kept ho (by omega),h.pages.kept ho (by omega),h.objs.kept ho (by omega)⟩
theorem RefAt.still (ho:Still w w'):RefAt w' R s:=h.kept ho (.inl h.top)
theorem RefAt.alloc (o:Obj):RefAt (w.alloc o) R s:=h.still ((Only.refl _ _ w).alloc o)
theorem RefAt.lts:R.rb < w.heap.size ∧ R.tb < w.heap.size ∧ R.wb < w.heap.size ∧ R.pb < w.heap.size ∧ R.ob < w.heap.size:=by
 have o:=h.ok
 have r1:=o.rb1
 have t1:=o.tb1
 have w1:=o.wb1
 have p1:=o.pb1
 have o1:=o.ob1
 have tp:=h.top
 omega
end
def St.FreeOk (s:St):Prop:=∀ c,c < 8 → ∀ a,s.B (c + 1) a=true ↔ (s.Blk c a ∧ s.B 0 a=false)
theorem St.InvX.freeOk {s:St} (h:s.Inv):s.FreeOk:=fun c hc a => by rw [h.free c hc a];simp
theorem St.Blk.between {s:St} {c x p i:Nat} (hc:c < 8) (h:s.Blk c x) (h1:64 * p + i * Sp.cw c < x) (h2:x < 64 * p + (i + 1) * Sp.cw c) (hi:i < Sp.bk c):False:=by
 obtain ⟨q,j,hq,hj,rfl,_⟩:=h
 have a1:=Sp.cw_in c hc j hj
 have a2:=Sp.cw_in c hc i hi
 rw [Nat.add_mul,Nat.one_mul] at h2
 have hqp:q=p:=by omega
 subst hqp
 by_cases hij:j ≤ i
 ·have:=Nat.mul_le_mul_right (Sp.cw c) hij
  omega
 ·have:=Nat.mul_le_mul_right (Sp.cw c) (show i + 1 ≤ j by omega)
  rw [Nat.add_mul,Nat.one_mul] at this
  omega
theorem St.Blk.behind {s:St} {c x p:Nat} (hc:c < 8) (h:s.Blk c x) (h1:64 * p + Sp.bk c * Sp.cw c ≤ x) (h2:x < 64 * p + 64):False:=by
 obtain ⟨q,j,hq,hj,rfl,_⟩:=h
 have a1:=Sp.cw_in c hc j hj
 have hcw:=(Sp.cw_le c hc).1
 have hqp:q=p:=by omega
 subst hqp
 have:=Nat.mul_le_mul_right (Sp.cw c) (show j + 1 ≤ Sp.bk c by omega)
 rw [Nat.add_mul,Nat.one_mul] at this
 omega
theorem St.Blk.page {s:St} {c x p:Nat} (hc:c < 8) (h:s.Blk c x) (h1:64 * p ≤ x) (h2:x < 64 * p + 64):s.P p=⟨1,c,0⟩:=by
 obtain ⟨q,j,hq,hj,rfl,e⟩:=h
 have a1:=Sp.cw_in c hc j hj
 have hcw:=(Sp.cw_le c hc).1
 have hqp:q=p:=by omega
 subst hqp
 exact e
end Go.Proofs.YtfbcdmhmpfijjaaGreatDoor
namespace Go.Proofs.YtfbcdmhmpfijjaaGreatDoor
open Go Go.RowKit
structure St.RefOk (s:St):Prop where
 free:s.FreeOk
 page:∀ p,p < s.n → ∀ c:Nat,(s.P p).k=1 → (s.P p).c=(c:Int) → s.P p=⟨1,c,0⟩
 fine:∀ a:Nat,s.B 0 a=true → s.FineAt a ∧ s.Fit (s.sh a).z a
theorem St.InvX.refOk {s:St} (h:s.Inv):s.RefOk:=by
 refine ⟨h.freeOk,fun p hp c h1 h2 => ?_,h.obj⟩
 rcases h.pages p hp with e | ⟨c',_,e⟩ | ⟨q,r,⟨_,_,e,e2⟩,h3,h4⟩
 ·rw [e] at h1;cases h1
 ·rw [e] at h2 ⊢
  dsimp only at h2
  rw [h2]
 ·by_cases hq:p=q
  ·rw [hq,e] at h1;cases h1
  ·rw [e2 p (by omega) (by omega)] at h1;cases h1
set_option maxHeartbeats 3200000 in
theorem rnext_any (w:World) (R:RLay) (s:St) (h:RefAt w R s) (hs:s.RefOk) (c:Nat) (hc:c < 8) (f:Nat) (hf:f ≤ 64 * s.n) :
 Calls Tryz.prog 81 #[.pointer (some ⟨R.rb,0,none⟩),.int .i64 (c:Int),.int .i64 (f:Int)] w fun e w' => e=.returned (.int .i64 (Bm.next (s.B (c + 1)) (64 * s.n) f)) ∧ Still w w':=by
 have HR:=Lib.hid (fun W (hw:Still w W) => h.still hw)
 have HS:=Lib.hid hs
 have HB:=Lib.hid (fun W => rblocks_any c hc W)
 have HT:=Lib.hid (fun i hi W => rstart_any c hc i hi W)
 have hn1:=h.n1
 have hn2:=h.n2
 have hbl:=(Sp.cw_le c hc).2.2
 have HW2:=Lib.hid (Sp.cw_le c hc).1
 have HCW:=Lib.hid (fun i hi => Sp.cw_in c hc i hi)
 have hc0:(0:Int) ≤ (c:Int):=by omega
 have hf0:(0:Int) ≤ (f:Int):=by omega
 have hfI:(f:Int) ≤ 262144:=by omega
 obtain ⟨q,hq⟩:∃ q,f / 64=q:=⟨_,rfl⟩
 have htd:(f:Int).tdiv 64=(q:Int):=by rw [Int.tdiv_eq_ediv_of_nonneg (by omega),← hq];rfl
 obtain ⟨b,hb⟩:∃ b,Sp.bk c=b:=⟨_,rfl⟩
 rw [hb] at HB HT hbl HCW
 have hbI:(b:Int) ≤ 32:=by omega
 have HFB:=Lib.hid (And.intro hb hq)
 clear h hs hb
 go_enter Tryz.func81,Tryz.ntmps81
 go_wp2_with fail
 go_loopw [7] (fun y W => ∃ p:Nat,y=.int .i64 (p:Int) ∧ f / 64 ≤ p ∧ p ≤ s.n ∧ (∀ x,f ≤ x → x < 64 * p → s.B (c + 1) x=false) ∧ Still w W) (fun y _ => s.n + 1 - (intOf y).toNat)
 case atStart => exact ⟨q,rfl,by omega,by omega,fun x h1 h2 => by omega,Only.refl _ _ _⟩
 case round =>
  obtain ⟨p,rfl,hp1,hp2,hno,hst⟩:=hrel
  have hp0:(0:Int) ≤ (p:Int):=by omega
  have HNO:=Lib.hid hno
  have HST:=Lib.hid hst
  have hr:=HR.out _ hst
  have c1:=hr.c1
  have t0:=hr.t0
  obtain ⟨l1,l2,l3,l4,l5⟩:=hr.lts
  by_cases hpn:p < s.n
  ·have hpI:(p:Int) < (s.n:Int):=by omega
   have hpM:(p:Int) < 4096:=by omega
   have p0:=hr.pages.cell hpn (d:=0) (by omega)
   have p1:=hr.pages.cell hpn (d:=1) (by omega)
   rw [Nat.add_zero] at p0
   change _=some (Value.int IntKind.i64 (s.P p).k) at p0
   change _=some (Value.int IntKind.i64 (s.P p).c) at p1
   by_cases hpc:(s.P p).k=1 ∧ (s.P p).c=(c:Int)
   ·obtain ⟨e1,e2⟩:=hpc
    have HP:=Lib.hid (HS.out.page p hpn c e1 e2)
    rw [e1] at p0
    rw [e2] at p1
    clear hno hst hr e1 e2
    go_wp2_with fail
    go_loopw [8] (fun y W => ∃ i:Nat,y=.int .i64 (i:Int) ∧ i ≤ b ∧ (∀ x,f ≤ x → x < 64 * p + i * Sp.cw c → s.B (c + 1) x=false) ∧ Still w W) (fun y _ => b + 1 - (intOf y).toNat)
    case atStart => exact ⟨0,rfl,Nat.zero_le _,fun x h1 h2 => HNO.out x h1 (by omega),HST.out⟩
    case round =>
     obtain ⟨i,rfl,hi,hno,hst⟩:=hrel
     have hi0:(0:Int) ≤ (i:Int):=by omega
     have HN2:=Lib.hid hno
     have HS2:=Lib.hid hst
     clear hno hst c1 t0 p0 p1 l1 l2 l3 l4 l5
     go_wp2_with fail
     refine (HB.out _).mono ?_
     rintro e w1 ⟨rfl,rfl⟩
     by_cases hib:i < b
     ·have hibI:(i:Int) < (b:Int):=by omega
      have hin:=HCW.out i hib
      obtain ⟨a,ha⟩:∃ a,64 * p + i * Sp.cw c=a:=⟨_,rfl⟩
      have HA:=Lib.hid ha
      have haI:(p:Int) * 64 + ((i * Sp.cw c:Nat):Int)=(a:Int):=by omega
      have ha1:a < 64 * s.n:=by have:=HW2.out;omega
      have haN:(a:Int) < 64 * (s.n:Int):=by omega
      have haM:(a:Int) < ((64 * s.n:Nat):Int):=by omega
      have ha0:(0:Int) ≤ (a:Int):=by omega
      obtain ⟨I,hI⟩:∃ I,i * Sp.cw c=I:=⟨_,rfl⟩
      have HTT:Hid (∀ W,Calls Tryz.prog 120 #[.int .i64 (c:Int),.int .i64 (i:Int)] W fun e w' => e=.returned (.int .i64 (I:Int)) ∧ W=w'):=Lib.hid fun W => by have:=HT.out i hib W;rwa [hI] at this
      rw [hI] at haI
      have hIM:(I:Int) ≤ 64:=by omega
      have hI0:(0:Int) ≤ (I:Int):=by omega
      have hr:=HR.out _ HS2.out
      have c2:=hr.c2
      obtain ⟨l1,l2,l3,l4,l5⟩:=hr.lts
      have o1:=hr.objs.cell ha1 (d:=1) (by omega)
      have HBK:Hid (s.Blk c a):=Lib.hid ⟨p,i,hpn,by rw [HFB.out.1];exact hib,by rw [← ha];omega,HP.out⟩
      have HNX:Hid (s.B (c + 1) a=false ∨ a < f → ∀ x,f ≤ x → x < 64 * p + (i + 1) * Sp.cw c → s.B (c + 1) x=false):=Lib.hid fun hh x h1 h2 => by
       by_cases e:x < a
       ·exact HN2.out x h1 (by rw [HA.out];exact e)
       ·by_cases e2:x=a
        ·rcases hh with hh | hh
         ·rw [e2];exact hh
         ·omega
        ·cases hbx:s.B (c + 1) x with
         | false => rfl
         | true => exact (((HS.out.free c hc x).1 hbx).1.between hc (p:=p) (i:=i) (by rw [HA.out];omega) h2 (by rw [HFB.out.1];exact hib)).elim
      clear hI ha hr
      by_cases haf:f ≤ a
      ·have hafI:(f:Int) ≤ (a:Int):=by omega
       cases hb0:s.B 0 a with
       | true =>
        have hk:=(HS.out.fine a hb0).1.2.2.1
        have e:s.ro a 1=(s.sh a).k:=by unfold St.ro;rw [hb0];rfl
        rw [e] at o1
        have hkn:((s.sh a).k == 0)=false:=by simp;omega
        have HF2:Hid (s.B (c + 1) a=false):=Lib.hid (by
         cases hbx:s.B (c + 1) a with
         | false => rfl
         | true => have:=((HS.out.free c hc a).1 hbx).2;rw [hb0] at this;cases this)
        generalize (s.sh a).k=kd at *
        clear e hk
        go_wp2_with fail
        refine (HTT.out _).mono ?_
        rintro e w1 ⟨rfl,rfl⟩
        go_wp2_with fail
        exact ⟨⟨i + 1,by go_num,hib,HNX.out (.inl HF2.out),HS2.out⟩,by simp [intOf];omega⟩
       | false =>
        have e:s.ro a 1=0:=by unfold St.ro;rw [hb0];rfl
        rw [e] at o1
        have hbt:s.B (c + 1) a=true:=(HS.out.free c hc a).2 ⟨HBK.out,hb0⟩
        have hres:Bm.next (s.B (c + 1)) (64 * s.n) (f:Int)=(a:Int):=Bm.next_eq hafI ha1 hbt fun j h1 h2 => HN2.out j (by omega) (by rw [HA.out];exact h2)
        have HRES:=Lib.hid hres
        clear e hres hbt
        go_wp2_with fail
        refine (HTT.out _).mono ?_
        rintro e w1 ⟨rfl,rfl⟩
        go_wp2_with fail
        go_ret
        exact ⟨by rw [HRES.out];rfl,HS2.out⟩
      ·have hafI:(a:Int) < (f:Int):=by omega
       generalize s.ro a 1=kd at *
       go_wp2_with fail
       refine (HTT.out _).mono ?_
       rintro e w1 ⟨rfl,rfl⟩
       go_wp2_with fail
       exact ⟨⟨i + 1,by go_num,hib,HNX.out (.inr (by omega)),HS2.out⟩,by simp [intOf];omega⟩
     ·obtain rfl:i=b:=by omega
      have HNX:Hid (∀ x,f ≤ x → x < 64 * (p + 1) → s.B (c + 1) x=false):=Lib.hid fun x h1 h2 => by
       by_cases e:x < 64 * p + i * Sp.cw c
       ·exact HN2.out x h1 e
       ·cases hbx:s.B (c + 1) x with
        | false => rfl
        | true => exact (((HS.out.free c hc x).1 hbx).1.behind hc (p:=p) (by rw [HFB.out.1];omega) (by omega)).elim
      go_wp2_with fail
      exact ⟨⟨p + 1,by go_num,by omega,hpn,HNX.out,HS2.out⟩,by simp [intOf];omega⟩
   ·have HNX:Hid (∀ x,f ≤ x → x < 64 * (p + 1) → s.B (c + 1) x=false):=Lib.hid fun x h1 h2 => by
     by_cases e:x < 64 * p
     ·exact HNO.out x h1 e
     ·cases hbx:s.B (c + 1) x with
      | false => rfl
      | true =>
       have:=((HS.out.free c hc x).1 hbx).1.page hc (p:=p) (by omega) (by omega)
       exact (hpc (by rw [this];exact ⟨rfl,rfl⟩)).elim
    by_cases hk1:(s.P p).k=1
    ·have hcn:((s.P p).c != (c:Int))=true:=by simpa using fun e => hpc ⟨hk1,e⟩
     rw [hk1] at p0
     generalize (s.P p).c=cc at *
     clear hno hst hr hpc hk1
     go_wp2_with fail
     exact ⟨⟨p + 1,by go_num,by omega,hpn,HNX.out,HST.out⟩,by simp [intOf];omega⟩
    ·have hkn:((s.P p).k != 1)=true:=by simpa using hk1
     generalize (s.P p).c=cc at *
     generalize (s.P p).k=kk at *
     clear hno hst hr hpc hk1
     go_wp2_with fail
     exact ⟨⟨p + 1,by go_num,by omega,hpn,HNX.out,HST.out⟩,by simp [intOf];omega⟩
  ·obtain rfl:p=s.n:=by omega
   have hres:Bm.next (s.B (c + 1)) (64 * s.n) (f:Int)=-1:=Bm.next_none fun j h1 h2 => HNO.out j (by omega) h2
   have HRES:=Lib.hid hres
   clear hno hst hr hres
   go_wp2_with fail
   go_ret
   exact ⟨by rw [HRES.out];rfl,HST.out⟩
end Go.Proofs.YtfbcdmhmpfijjaaGreatDoor
namespace Go.Proofs.YtfbcdmhmpfijjaaGreatDoor
open Go Go.RowKit
theorem rlink_any (n:Int) (w:World) (h1:-1 ≤ n) (h2:n < 262144):Calls Tryz.prog 82 #[.int .i64 n] w fun e w' => e=.returned (.int .i64 (Sp.lnk n)) ∧ w=w':=by
 have hr:Sp.lnk n=n * 8 + 4:=by unfold Sp.lnk;rw [if_neg (by omega)]
 rw [hr];clear hr
 go_enter Tryz.func82,Tryz.ntmps82
 go_wp2_with fail
 go_ret
 exact ⟨rfl,rfl⟩
theorem St.RefOk.lt {s:St} (hs:s.RefOk) {a:Nat} (h:s.B 0 a=true):a < 64 * s.n:=by
 have:=(hs.fine a h).1.2.1
 omega
set_option maxRecDepth 100000 in
set_option maxHeartbeats 1600000 in
theorem rblock_no (w:World) (R:RLay) (s:St) (h:RefAt w R s) (a:Int) (hb:s.has a=false) :
 Calls Tryz.prog 54 #[.pointer (some ⟨R.rb,0,none⟩),.int .i64 a] w fun e w' => e=.returned (.tuple #[block0,.bool false]) ∧ Still w w':=by
 have c2:=h.c2
 obtain ⟨l1,l2,l3,l4,l5⟩:=h.lts
 by_cases ha:a < 0
 ·clear h hb
  go_enter Tryz.func54,Tryz.ntmps54
  go_wp2_with fail
  exact bodyPost_ret (v:=.tuple #[block0,.bool false]) (by simp [results,Tryz.results54,go_sem]) rfl ⟨rfl,(Only.refl _ _ w).alloc _⟩
 ·obtain ⟨m,rfl⟩:=Int.eq_ofNat_of_zero_le (show 0 ≤ a by omega)
  have hm0:(0:Int) ≤ (m:Int):=by omega
  by_cases hm:m < 64 * s.n
  ·have hb0:s.B 0 m=false:=by
    unfold St.has at hb
    rw [decide_eq_true hm0,Bool.true_and,Int.toNat_natCast] at hb
    exact hb
   have o1:=h.objs.cell hm (d:=1) (by omega)
   have e:s.ro m 1=0:=by unfold St.ro;rw [hb0];rfl
   rw [e] at o1
   obtain ⟨N,hN⟩:∃ N,64 * s.n=N:=⟨_,rfl⟩
   rw [hN] at hm c2
   have hmI:(m:Int) < (N:Int):=by omega
   have hn2:=h.n2
   have hNM:(N:Int) ≤ 262144:=by omega
   clear h hb hb0 e ha hN hn2
   go_enter Tryz.func54,Tryz.ntmps54
   go_wp2_with fail
   exact bodyPost_ret (v:=.tuple #[block0,.bool false]) (by simp [results,Tryz.results54,go_sem]) rfl ⟨rfl,(Only.refl _ _ w).alloc _⟩
  ·obtain ⟨N,hN⟩:∃ N,64 * s.n=N:=⟨_,rfl⟩
   rw [hN] at hm c2
   have hmI:(N:Int) ≤ (m:Int):=by omega
   clear h hb ha hN
   go_enter Tryz.func54,Tryz.ntmps54
   go_wp2_with fail
   exact bodyPost_ret (v:=.tuple #[block0,.bool false]) (by simp [results,Tryz.results54,go_sem]) rfl ⟨rfl,(Only.refl _ _ w).alloc _⟩
set_option maxRecDepth 100000 in
set_option maxHeartbeats 1600000 in
theorem rblock_yes (w:World) (R:RLay) (s:St) (h:RefAt w R s) (hs:s.RefOk) (m:Nat) (hb:s.B 0 m=true) :
 Calls Tryz.prog 54 #[.pointer (some ⟨R.rb,0,none⟩),.int .i64 (m:Int)] w fun e w' => e=.returned (.tuple #[blockV m (s.sh m),.bool true]) ∧ Still w w':=by
 have c2:=h.c2
 obtain ⟨l1,l2,l3,l4,l5⟩:=h.lts
 have hm:=hs.lt hb
 have hk:=(hs.fine m hb).1.2.2.1
 have o0:=h.objs.cell hm (d:=0) (by omega)
 have o1:=h.objs.cell hm (d:=1) (by omega)
 have o2:=h.objs.cell hm (d:=2) (by omega)
 have o3:=h.objs.cell hm (d:=3) (by omega)
 have o4:=h.objs.cell hm (d:=4) (by omega)
 have e:∀ d,s.ro m d=if d=0 then (m:Int) else if d=1 then (s.sh m).k else if d=2 then (s.sh m).z else if d=3 then (s.sh m).s else (s.sh m).t:=fun d => by unfold St.ro;rw [if_pos hb]
 rw [e,Nat.add_zero] at o0
 rw [e] at o1 o2 o3 o4
 change _=some (Value.int IntKind.i64 (m:Int)) at o0
 change _=some (Value.int IntKind.i64 (s.sh m).k) at o1
 change _=some (Value.int IntKind.i64 (s.sh m).z) at o2
 change _=some (Value.int IntKind.i64 (s.sh m).s) at o3
 change _=some (Value.int IntKind.i64 (s.sh m).t) at o4
 obtain ⟨⟨k,z,r,t⟩,hx⟩:∃ x,s.sh m=x:=⟨_,rfl⟩
 rw [hx] at hk o1 o2 o3 o4 ⊢
 dsimp only at hk o1 o2 o3 o4
 have hkn:(k == 0)=false:=by simp;omega
 have hm0:(0:Int) ≤ (m:Int):=by omega
 obtain ⟨N,hN⟩:∃ N,64 * s.n=N:=⟨_,rfl⟩
 rw [hN] at hm c2
 have hmI:(m:Int) < (N:Int):=by omega
 have hn2:=h.n2
 have hNM:(N:Int) ≤ 262144:=by omega
 clear h hs hb e hx hN hn2
 go_enter Tryz.func54,Tryz.ntmps54
 go_wp2_with fail
 exact bodyPost_ret (v:=.tuple #[blockV m ⟨k,z,r,t⟩,.bool true]) (by simp [results,Tryz.results54,go_sem]) rfl ⟨rfl,by
  repeat first | exact Only.refl _ _ _ | (refine Only.setCell ?_ (.inr (Nat.le_refl _)) _) | apply Only.alloc⟩
set_option maxRecDepth 100000 in
set_option maxHeartbeats 3200000 in
theorem rcheck_any (w:World) (R:RLay) (s:St) (h:RefAt w R s) (hs:s.RefOk) (a:Int) :
 Calls Tryz.prog 59 #[.pointer (some ⟨R.rb,0,none⟩),.int .i64 a] w fun e w' => e=.returned (faultV (s.chk a).1 (s.chk a).2) ∧ Still w w':=by
 cases hh:s.has a with
 | false =>
  have hc:s.chk a=(22,0):=by unfold St.chk;rw [hh];rfl
  rw [hc]
  have HB:=Lib.hid (rblock_no (w.alloc (.cells #[.int .i64 0,.int .i64 0] 100)) R s (h.alloc _) a hh)
  clear hh hc
  have hlt:=h.lts.1
  go_enter Tryz.func59,Tryz.ntmps59
  go_wp2_with fail
  refine HB.out.mono ?_
  rintro e w1 ⟨rfl,hst⟩
  have hb:=still_new hst
  have hl1:=new_lt hst
  have hf0:=frozen_of hb 0
  have hf1:=frozen_of hb 1
  have hz0:=cell_of (v:=.int .i64 0) hb 0 rfl
  have hz1:=cell_of (v:=.int .i64 0) hb 1 rfl
  have HW:=Lib.hid (Still.trans ((Only.refl _ _ w).alloc _:Still w _) hst)
  clear hst hb
  go_wp2_with fail
  exact bodyPost_ret (v:=faultV 22 0) (by simp [results,Tryz.results59,go_sem, *]) rfl ⟨rfl,by
   repeat first | exact HW.out | (refine Only.setCell ?_ (.inr (Nat.le_refl _)) _) | apply Only.alloc⟩
 | true =>
  have hh2:=hh
  unfold St.has at hh2
  rw [Bool.and_eq_true,decide_eq_true_eq] at hh2
  obtain ⟨h0,hb0⟩:=hh2
  obtain ⟨m,rfl⟩:=Int.eq_ofNat_of_zero_le h0
  rw [Int.toNat_natCast] at hb0
  have hm:=hs.lt hb0
  obtain ⟨f1,f2,f3,f4,f5,f6⟩:=(hs.fine m hb0).1
  have hc:s.chk (m:Int)=if s.W m=s.hd m then (0,0) else (21,(m:Int)):=by unfold St.chk;rw [hh,if_pos rfl,Int.toNat_natCast]
  rw [hc]
  have HB:=Lib.hid (rblock_yes (w.alloc (.cells #[.int .i64 0,.int .i64 0] 100)) R s (h.alloc _) hs m hb0)
  have hlt:=h.lts.1
  have hn2:=h.n2
  have HWC:Hid (∀ W,Still w W → W.cell? ⟨R.rb,0,none⟩=some (.slice (some ⟨R.wb,0,none⟩) (64 * s.n) R.cw) ∧ W.cell? ⟨R.wb,m,none⟩=some (.int .i64 (s.W m)) ∧ R.rb < W.heap.size ∧ R.wb < W.heap.size):=Lib.hid fun W hw =>
   ⟨(h.still hw).c0,(h.still hw).word hm,(h.still hw).lts.1,(h.still hw).lts.2.2.1⟩
  unfold St.hd
  obtain ⟨⟨k,z,r,t⟩,hx⟩:∃ x,s.sh m=x:=⟨_,rfl⟩
  rw [hx] at f3 f4 f5 f6 HB ⊢
  dsimp only at f3 f4 f5 f6 ⊢
  obtain ⟨kn,rfl⟩:=Int.eq_ofNat_of_zero_le (show 0 ≤ k by omega)
  obtain ⟨zn,rfl⟩:=Int.eq_ofNat_of_zero_le (show 0 ≤ z by omega)
  have HMK:=Lib.hid (fun w => rmake_any m kn zn (by omega) (by omega) (by omega) (by omega) (by omega) w)
  generalize Sp.hdr m kn zn=hv at *
  generalize s.W m=wa at *
  obtain ⟨N,hN⟩:∃ N,64 * s.n=N:=⟨_,rfl⟩
  rw [hN] at hm HWC
  have hmI:(m:Int) < (N:Int):=by omega
  have hm0:(0:Int) ≤ (m:Int):=by omega
  have hNM:(N:Int) ≤ 262144:=by omega
  clear hh h0 hb0 hx hc hN hn2 h f1 f2
  by_cases he:wa=hv
  ·subst he
   rw [if_pos rfl]
   go_enter Tryz.func59,Tryz.ntmps59
   go_wp2_with fail
   refine HB.out.mono ?_
   rintro e w1 ⟨rfl,hst⟩
   have hb:=still_new hst
   have hl1:=new_lt hst
   have hf0:=frozen_of hb 0
   have hf1:=frozen_of hb 1
   have hz0:=cell_of (v:=.int .i64 0) hb 0 rfl
   have hz1:=cell_of (v:=.int .i64 0) hb 1 rfl
   have HW:=Lib.hid (Still.trans ((Only.refl _ _ w).alloc _:Still w _) hst)
   obtain ⟨x1,x2,x3,x4⟩:=HWC.out w1 HW.out
   clear hst hb HWC
   go_wp2_with fail
   go_quiet (((go_at_call 106;exact quiet_eq (HMK.out _))))
   go_wp2_with fail
   exact bodyPost_ret (v:=faultV 0 0) (by simp [results,Tryz.results59,go_sem, *]) rfl ⟨rfl,by
    repeat first | exact HW.out | (refine Only.setCell ?_ (.inr (Nat.le_refl _)) _) | apply Only.alloc | apply Only.drewN⟩
  ·rw [if_neg he]
   have hbn:(wa == hv)=false:=beq_eq_false_iff_ne.2 he
   have hbn2:(wa != hv)=true:=by simp [bne,hbn]
   clear he
   go_enter Tryz.func59,Tryz.ntmps59
   go_wp2_with fail
   refine HB.out.mono ?_
   rintro e w1 ⟨rfl,hst⟩
   have hb:=still_new hst
   have hl1:=new_lt hst
   have hf0:=frozen_of hb 0
   have hf1:=frozen_of hb 1
   have hz0:=cell_of (v:=.int .i64 0) hb 0 rfl
   have hz1:=cell_of (v:=.int .i64 0) hb 1 rfl
   have HW:=Lib.hid (Still.trans ((Only.refl _ _ w).alloc _:Still w _) hst)
   obtain ⟨x1,x2,x3,x4⟩:=HWC.out w1 HW.out
   clear hst hb HWC
   go_wp2_with fail
   go_quiet (((go_at_call 106;exact quiet_eq (HMK.out _))))
   go_wp2_with fail
   exact bodyPost_ret (v:=faultV 21 m) (by simp [results,Tryz.results59,go_sem, *]) rfl ⟨rfl,by
    repeat first | exact HW.out | (refine Only.setCell ?_ (.inr (Nat.le_refl _)) _) | apply Only.alloc | apply Only.drewN⟩
end Go.Proofs.YtfbcdmhmpfijjaaGreatDoor
namespace Go.Proofs.YtfbcdmhmpfijjaaGreatDoor
open Go Go.RowKit
structure Frm (wb:Nat) (L:Lay) (w:World) (v:Value) (w':World) (v':Value):Prop where
 b:Below wb w w'
 k:∀ k,k < w.heap.size → k ≠ wb → (k < L.lo ∨ L.hi ≤ k) → v.ownBlock ≠ some k → w'.heap[k]?=w.heap[k]? ∧ v'.ownBlock ≠ some k
theorem Frm.trans {wb:Nat} {L:Lay} {w w1 w2:World} {v v1 v2:Value} (h:Frm wb L w v w1 v1) (g:Frm wb L w1 v1 w2 v2):Frm wb L w v w2 v2 :=
 ⟨h.b.trans g.b,fun k h1 h2 h3 h4 => by
  obtain ⟨a1,a2⟩:=h.k k h1 h2 h3 h4
  obtain ⟨b1,b2⟩:=g.k k (Nat.lt_of_lt_of_le h1 h.b.size) h2 h3 a2
  exact ⟨b1.trans a1,b2⟩⟩
theorem Frm.own {wb:Nat} {L:Lay} (w:World) (v:Value) (hb:wb < w.heap.size) (o:Nat) (u:Value):Frm wb L w v (w.setCell ⟨wb,o,none⟩ u) v :=
 ⟨(only_cell w wb o u).below (Nat.le_of_lt hb),fun _k _ h2 _ h4 => ⟨Below.heap_setCell _ _ _ _ h2,h4⟩⟩
section
variable {P:Program} (w:World)
theorem append_block (base:Nat) (t ty e:TypeId) (i:TypeInfo) (z:Value) (size bytes:Nat) (ht:P.underlying t=some (.slice e)) (hi:P.info? e=some i) (hz:i.zero=some z)
 (hsize:i.size=size) (hby:i.bytes=bytes) (v:Value) (n:Nat) (xs:List Value) (hown:w.ownsRow base e size v n xs)
 (a:Addr) (m c:Nat) (news:List Value) (hl:news.length=m * size) (hnews:∀ j u,news[j]?=some u → w.cell? (a.add j)=some u) (h1:∀ u ∈ news,u.oneCell'=true)
 (h63:n + m ≤ maxLen) (hbytes:(n + m) * bytes ≤ 140737488355328) (hm:0 < m) {v':Value} {w':World} (hr:(Builtin.append_ #[t,t] ty #[v,.slice (some a) m c]).run P w=.ok v' w') :
 v'.ownBlock=v.ownBlock ∨ v'.ownBlock=some w.heap.size:=by
 subst hsize
 subst hby
 have hsmall:n + m ≤ 9223372036854775807:=by simp only [maxLen] at h63;omega
 rcases hown.2 with ⟨rfl,rfl⟩ | ⟨g,cap,cur,rfl,hbg,hg,hnc,hcm,hcs,htake⟩
 ·have h2:=run_append_nil (P:=P) w t ty e i z ht hi hz a m c news hl hnews hm (by omega) (by have hb:=hbytes;simp only [Nat.zero_add] at hb;omega)
  rw [hr] at h2
  injection h2 with h2 _
  rw [h2];exact .inr rfl
 ·by_cases hroom:n + m ≤ cap
  ·have hfit:n * i.size + news.length ≤ cur.size:=by rw [hl,hcs,← Nat.add_mul];exact Nat.mul_le_mul_right _ hroom
   have h2:=run_append_room (P:=P) w t ty e i ht hi g n cap cur hg a m c news hl hnews h1 hroom hfit
   rw [hr] at h2
   injection h2 with h2 _
   rw [h2];exact .inl rfl
  ·have holds:∀ j u,xs[j]?=some u → w.cell? ((⟨g,0,none⟩:Addr).add j)=some u:=hown.cells (g:=g) rfl
   have h2:=run_append_grow (P:=P) w t ty e i z ht hi hz ⟨g,0,none⟩ n cap xs hown.1 holds a m c news hl hnews (by omega) (by omega) (growslice_fits (by omega) hbytes)
   rw [hr] at h2
   injection h2 with h2 _
   rw [h2];exact .inr rfl
end
theorem Tryz.infoBlk:(Tryz.prog.info? 95).map (fun i => (i.zero,i.size,i.bytes))=some (some (.agg #[.int .i64 0,.int .i64 0,.int .i64 0,.int .i64 0,.int .i64 0]),5,40):=by kernel_rfl
theorem ob_append (W:World) (base:Nat) (os:List Ob) (v:Value) (hr:W.ownsRow base 95 5 v os.length (obCells os)) (hb:base ≤ W.heap.size) (hl:os.length ≤ 1000000) (o:Ob) :
 ∃ v' w',(Builtin.append_ #[62,62] 62 #[v,.slice (some ⟨W.heap.size,0,none⟩) 1 1]).run Tryz.prog (W.alloc (.cells #[.int .i64 (o.at':Int),.int .i64 o.sh.k,.int .i64 o.sh.z,.int .i64 o.sh.s,.int .i64 o.sh.t] 95))=.ok v' w' ∧
  w'.ownsRow base 95 5 v' (os ++ [o]).length (obCells (os ++ [o])) ∧ Only base W.heap.size W w' ∧ W.heap.size < w'.heap.size ∧ (∀ k,k < W.heap.size → v.ownBlock ≠ some k → w'.heap[k]?=W.heap[k]?) ∧ ∀ k,k < W.heap.size → v.ownBlock ≠ some k → v'.ownBlock ≠ some k:=by
 obtain ⟨i0,hi,hz0,hz1,hz2⟩:=info_parts Tryz.infoBlk
 have hnews:∀ j u,o.cells[j]?=some u → (W.alloc (.cells #[.int .i64 (o.at':Int),.int .i64 o.sh.k,.int .i64 o.sh.z,.int .i64 o.sh.s,.int .i64 o.sh.t] 95)).cell? ((⟨W.heap.size,0,none⟩:Addr).add j)=some u:=fun j u hu => by
  have e:(⟨W.heap.size,0,none⟩:Addr).add j=⟨W.heap.size,j,none⟩:=by unfold Addr.add;split <;> simp_all
  rw [e]
  simp only [World.cell?,heap_alloc_new]
  have hj:j < 5:=by have:=(List.getElem?_eq_some_iff.1 hu).1;exact this
  have:j=0 ∨ j=1 ∨ j=2 ∨ j=3 ∨ j=4:=by omega
  rcases this with rfl | rfl | rfl | rfl | rfl <;> exact hu
 have hones:∀ u ∈ o.cells,u.oneCell'=true:=by
  intro u hu
  unfold Ob.cells at hu
  simp only [List.mem_cons,List.not_mem_nil,or_false] at hu
  rcases hu with rfl | rfl | rfl | rfl | rfl <;> rfl
 obtain ⟨v',w',h1,h2,h3,_⟩:=run_append_own (P:=Tryz.prog) (W.alloc (.cells #[.int .i64 (o.at':Int),.int .i64 o.sh.k,.int .i64 o.sh.z,.int .i64 o.sh.s,.int .i64 o.sh.t] 95)) base 62 62 95 i0 _ 5 40 Tryz.underlying62 hi hz0 hz1 hz2 rfl (by decide) v os.length (obCells os) (hr.alloc _)
  ⟨W.heap.size,0,none⟩ 1 1 o.cells rfl hnews hones (by unfold maxLen;omega) (by omega) (by simp;omega)
 have hblk:=append_block (P:=Tryz.prog) (W.alloc (.cells #[.int .i64 (o.at':Int),.int .i64 o.sh.k,.int .i64 o.sh.z,.int .i64 o.sh.s,.int .i64 o.sh.t] 95)) base 62 62 95 i0 _ 5 40 Tryz.underlying62 hi hz0 hz1 hz2 v os.length (obCells os) (hr.alloc _)
  ⟨W.heap.size,0,none⟩ 1 1 o.cells rfl hnews hones (by unfold maxLen;omega) (by omega) (by omega) h1
 refine ⟨v',w',h1,?_,?_,?_,fun k hk hne => (h3.block k (by simp;omega) (fun e => hne e.symm)).trans (Below.heap_alloc _ _ _ hk),fun k hk hne e => by
  rcases hblk with h | h
  ·rw [h] at e;exact hne e
  ·rw [h] at e;injection e with e;simp at e;omega⟩
 ·rw [List.length_append]
  have e:obCells (os ++ [o])=obCells os ++ o.cells:=by unfold obCells;simp
  rw [e]
  exact h2
 ·have hst:Only base W.heap.size W (W.alloc (.cells #[.int .i64 (o.at':Int),.int .i64 o.sh.k,.int .i64 o.sh.z,.int .i64 o.sh.s,.int .i64 o.sh.t] 95)):=(Only.refl _ _ W).alloc _
  exact hst.grown h3 (fun k hk => .inl (hr.lt k hk))
 ·have:=h3.size
  simp at this
  omega
end Go.Proofs.YtfbcdmhmpfijjaaGreatDoor
