/-
  The walk of the document's place.
-/
import Derived.Laws.Rows
import Derived.Test.YtfbcdmhmpfijjaaGreatDoorQ24
import Derived.Test.YtfbcdmhmpfijjaaGreatDoorQ17
import Derived.Test.YtfbcdmhmpfijjaaGreatDoorQ31
set_option linter.unusedVariables false
set_option linter.unusedSimpArgs false
set_option linter.unusedSectionVars false
namespace Go.Proofs.YtfbcdmhmpfijjaaGreatDoor
open Go Go.RowKit
def prOf (P:Nat → Pg) (i d:Nat):Int:=if d=0 then (P i).k else if d=1 then (P i).c else (P i).r
structure RTabAt (w:World) (tb pb cp n:Nat) (P:Nat → Pg):Prop where
 head:w.heap[tb]?=some (.cells #[.slice (some ⟨pb,0,none⟩) n cp] 127 (0,0))
 pages:RowB w pb 146 n 3 (prOf P)
 ne:tb ≠ pb
 n2:n ≤ 4096
section
variable {w w':World} {tb pb cp n:Nat} {P:Nat → Pg} (h:RTabAt w tb pb cp n P)
include h
theorem RTabAt.c0:w.cell? ⟨tb,0,none⟩=some (.slice (some ⟨pb,0,none⟩) n cp):=cell_of h.head 0 rfl
theorem RTabAt.lts:tb < w.heap.size ∧ pb < w.heap.size:=⟨(Array.getElem?_eq_some_iff.1 h.head).1,h.pages.lt⟩
theorem RTabAt.still (hs:Still w w'):RTabAt w' tb pb cp n P:=⟨(hs.block _ h.lts.1 (.inl h.lts.1)).trans h.head,h.pages.still hs,h.ne,h.n2⟩
theorem RTabAt.kc {i:Nat} (hi:i < n):w.cell? ⟨pb,i * 3,none⟩=some (.int .i64 (P i).k):=h.pages.cell hi (d:=0) (by omega)
theorem RTabAt.rc {i:Nat} (hi:i < n):w.cell? ⟨pb,i * 3 + 2,none⟩=some (.int .i64 (P i).r):=h.pages.cell hi (d:=2) (by omega)
theorem RTabAt.ks {i:Nat} (hi:i < n):w.cell? ⟨pb,i * 3,none⟩=some (.int .i64 (P i).k) ∧ w.cell? ⟨pb,i * 3 + 1,none⟩=some (.int .i64 (P i).c) ∧ w.cell? ⟨pb,i * 3 + 2,none⟩=some (.int .i64 (P i).r):=⟨h.pages.cell hi (d:=0) (by omega),h.pages.cell hi (d:=1) (by omega),h.pages.cell hi (d:=2) (by omega)⟩
theorem RTabAt.set {i:Nat} (hi:i < n) (g:Pg):RTabAt (((w.setCell ⟨pb,i * 3,none⟩ (.int .i64 g.k)).setCell ⟨pb,i * 3 + 1,none⟩ (.int .i64 g.c)).setCell ⟨pb,i * 3 + 2,none⟩ (.int .i64 g.r)) tb pb cp n (setPg P i g):=by
 have hne:=h.ne
 refine ⟨?_,?_,hne,h.n2⟩
 ·rw [Below.heap_setCell _ _ _ _ (by show tb ≠ pb;exact hne),Below.heap_setCell _ _ _ _ (by show tb ≠ pb;exact hne),Below.heap_setCell _ _ _ _ (by show tb ≠ pb;exact hne)]
  exact h.head
 ·have h1:=h.pages.set hi (d:=0) (by omega) g.k
  have h2:=h1.set hi (d:=1) (by omega) g.c
  have h3:=h2.set hi (d:=2) (by omega) g.r
  refine h3.congr fun i' hi' d hd => ?_
  unfold prOf setPg
  by_cases e:i'=i
  ·subst e
   have hd3:d=0 ∨ d=1 ∨ d=2:=by omega
   rcases hd3 with rfl | rfl | rfl <;> simp
  ·simp [e]
end
theorem only_page (w:World) (pb o1 o2 o3:Nat) (u1 u2 u3:Value):Only pb (pb + 1) w (((w.setCell ⟨pb,o1,none⟩ u1).setCell ⟨pb,o2,none⟩ u2).setCell ⟨pb,o3,none⟩ u3) :=
 (((Only.refl pb (pb + 1) w).setCell (p:=⟨pb,o1,none⟩) (.inl ⟨Nat.le_refl _,Nat.lt_succ_self _⟩) _).setCell (p:=⟨pb,o2,none⟩) (.inl ⟨Nat.le_refl _,Nat.lt_succ_self _⟩) _).setCell (p:=⟨pb,o3,none⟩) (.inl ⟨Nat.le_refl _,Nat.lt_succ_self _⟩) _
def PgOk (P:Nat → Pg) (n:Nat):Prop:=∀ i,i < n → (P i).k=0 → P i=⟨0,0,0⟩
theorem PgOk.free {P:Nat → Pg} {n i:Nat} (h:PgOk P n) (hi:i < n):(P i).free=true ↔ (P i).k=0:=by
 constructor
 ·intro e
  rw [Pg.free_eq e]
 ·intro e
  rw [h i hi e];rfl
theorem seek_busy {P:Nat → Pg} {n m i g:Nat} (h:i < n → (P i).free=false) (hi:i < n):seekRun P n m i g=seekRun P n m (i + 1) 0:=by
 rw [seekRun,dif_pos hi,h hi];rfl
theorem seek_skip {P:Nat → Pg} {n m:Nat}:∀ (d i:Nat),(∀ p,i ≤ p → p < i + d → p < n ∧ (P p).free=false) → seekRun P n m i 0=seekRun P n m (i + d) 0
 | 0,_,_ => rfl
 | d + 1,i,h => by
  obtain ⟨h1,h2⟩:=h i (Nat.le_refl _) (by omega)
  rw [seek_busy (fun _ => h2) h1,seek_skip d (i + 1) fun p hp1 hp2 => h p (by omega) (by omega),Nat.add_assoc,Nat.add_comm 1 d]
def runV:Option Nat → Int
 | some h => (h:Int) | none => -1
set_option maxHeartbeats 1600000 in
theorem rrow_any (w:World) (tb pb cp n m:Nat) (P:Nat → Pg) (h:RTabAt w tb pb cp n P) (hp:PgOk P n) (hm:1 ≤ m) (hm2:m ≤ 16) :
 Calls Tryz.prog 136 #[.pointer (some ⟨tb,0,none⟩),.int .i64 (m:Int)] w fun e w' => e=.returned (.int .i64 (runV (seekRun P n m 0 0))) ∧ Still w w':=by
 have HT:=Lib.hid (fun W (hs:Still w W) => h.still hs)
 have HP:=Lib.hid hp
 have hn2:=h.n2
 have hnI:(n:Int) ≤ 4096:=by omega
 have hmI:(m:Int) ≤ 16:=by omega
 have hm1:(1:Int) ≤ (m:Int):=by omega
 obtain ⟨r,hr⟩:∃ r,seekRun P n m 0 0=r:=⟨_,rfl⟩
 rw [hr]
 have HR:=Lib.hid hr
 clear h hp hr
 go_enter Tryz.func136,Tryz.ntmps136
 go_wp2_with fail
 go_loopw [5,6] (fun x y W => ∃ g p:Nat,x=.int .i64 (g:Int) ∧ y=.int .i64 (p:Int) ∧ p ≤ n ∧ g ≤ p ∧ g < m ∧ seekRun P n m p g=r ∧ Still w W) (fun _ y _ => n + 1 - (intOf y).toNat)
 case atStart => exact ⟨0,0,rfl,rfl,Nat.zero_le _,Nat.le_refl _,by omega,HR.out,Only.refl _ _ _⟩
 case round =>
  obtain ⟨g,p,rfl,rfl,hpn,hgp,hgm,hsk,hst⟩:=hrel
  have HST:=Lib.hid hst
  have hg0:(0:Int) ≤ (g:Int):=by omega
  have hp0:(0:Int) ≤ (p:Int):=by omega
  have hgI:(g:Int) < (m:Int):=by omega
  have ht:=HT.out _ hst
  have c0:=ht.c0
  obtain ⟨l1,l2⟩:=ht.lts
  rw [seekRun] at hsk
  by_cases hlt:p < n
  ·have hpI:(p:Int) < (n:Int):=by omega
   have kc:=ht.kc hlt
   have hf:=HP.out.free hlt
   rw [dif_pos hlt] at hsk
   obtain ⟨k,hk⟩:∃ k,(P p).k=k:=⟨_,rfl⟩
   rw [hk] at kc hf
   by_cases hk0:k=0
   ·subst hk0
    rw [hf.2 rfl,if_pos rfl] at hsk
    by_cases hgm1:g + 1=m
    ·have hgmI:((g:Int) + 1 == (m:Int))=true:=by simp;omega
     rw [if_pos hgm1] at hsk
     have HV:Hid (runV r=(p:Int) - (m:Int) + 1):=Lib.hid (by rw [← hsk];show ((p + 1 - m:Nat):Int)=_;omega)
     clear hsk hf ht hst hk
     go_wp2_with fail
     go_ret
     exact ⟨by rw [HV.out];rfl,HST.out⟩
    ·have hgmI:((g:Int) + 1 == (m:Int))=false:=by simp;omega
     rw [if_neg hgm1] at hsk
     have HS:=Lib.hid hsk
     clear hsk hf ht hst hk
     go_wp2_with fail
     exact ⟨⟨g + 1,p + 1,by go_num,by go_num,hlt,by omega,by omega,HS.out,HST.out⟩,by simp [intOf];omega⟩
   ·have hb:(k != 0)=true:=by simp;omega
    have hfr:(P p).free=false:=by
     cases e:(P p).free with
     | false => rfl
     | true => exact absurd (hf.1 e) hk0
    rw [hfr,if_neg (by decide)] at hsk
    have HS:=Lib.hid hsk
    clear hsk hf ht hst hk hfr
    go_wp2_with fail
    exact ⟨⟨0,p + 1,by go_num,by go_num,hlt,by omega,by omega,HS.out,HST.out⟩,by simp [intOf];omega⟩
  ·obtain rfl:n=p:=by omega
   rw [dif_neg hlt] at hsk
   subst hsk
   clear ht hst
   go_wp2_with fail
   go_ret
   exact ⟨rfl,HST.out⟩
set_option maxHeartbeats 1600000 in
theorem rtake_class (w:World) (tb pb cp n c:Nat) (P:Nat → Pg) (h:RTabAt w tb pb cp n P) (hp:PgOk P n) (hc:c < 8) (Q:Ending → World → Prop)
 (hno:firstFree P n 0=n → ∀ w',Still w w' → Q (.returned (.tuple #[.int .i64 0,.int .i64 20])) w')
 (hyes:firstFree P n 0 < n → ∀ w',RTabAt w' tb pb cp n (setPg P (firstFree P n 0) ⟨1,c,0⟩) → Only pb (pb + 1) w w' → Q (.returned (.tuple #[.int .i64 ((firstFree P n 0:Nat):Int),.int .i64 0])) w') :
 Calls Tryz.prog 116 #[.pointer (some ⟨tb,0,none⟩),.int .i64 (c:Int)] w Q:=by
 have HT:=Lib.hid (fun W (hs:Still w W) => h.still hs)
 have HP:=Lib.hid hp
 have HNO:=Lib.hid hno
 have HYES:=Lib.hid hyes
 have hn2:=h.n2
 have hnI:(n:Int) ≤ 4096:=by omega
 have hc0:(0:Int) ≤ (c:Int):=by omega
 have hc8:(c:Int) < 8:=by omega
 have hfl:firstFree P n 0 ≤ n:=firstFree_le _ _ _ (Nat.zero_le _)
 have hfb:∀ p,p < firstFree P n 0 → (P p).free=false:=fun p hp => firstFree_below P n 0 p (Nat.zero_le _) hp
 have hff:firstFree P n 0 < n → (P (firstFree P n 0)).free=true:=firstFree_free P n 0
 have HYF:=Lib.hid hyes
 obtain ⟨f,hf⟩:∃ f,firstFree P n 0=f:=⟨_,rfl⟩
 rw [hf] at HNO HYES hfl hfb hff
 have HFB:=Lib.hid hfb
 have HFF:=Lib.hid hff
 clear h hp hno hyes hf hfb hff HYF
 go_enter Tryz.func116,Tryz.ntmps116
 go_wp2_with fail
 go_loopw [6] (fun y W => ∃ p:Nat,y=.int .i64 (p:Int) ∧ p ≤ f ∧ Still w W) (fun y _ => n + 1 - (intOf y).toNat)
 case atStart => exact ⟨0,rfl,Nat.zero_le _,Only.refl _ _ _⟩
 case round =>
  obtain ⟨p,rfl,hpf,hst⟩:=hrel
  have HST:=Lib.hid hst
  have hp0:(0:Int) ≤ (p:Int):=by omega
  have ht:=HT.out _ hst
  have c0:=ht.c0
  obtain ⟨l1,l2⟩:=ht.lts
  by_cases hlt:p < n
  ·have hpI:(p:Int) < (n:Int):=by omega
   obtain ⟨k1,k2,k3⟩:=ht.ks hlt
   have hfr:=HP.out.free hlt
   by_cases e:p=f
   ·subst e
    have hk0:=hfr.1 (HFF.out hlt)
    rw [hk0] at k1
    have f0:=ht.pages.frozen (p * 3)
    have f1:=ht.pages.frozen (p * 3 + 1)
    have f2:=ht.pages.frozen (p * 3 + 2)
    have HS:Hid (RTabAt (((wr.setCell ⟨pb,p * 3,none⟩ (.int .i64 1)).setCell ⟨pb,p * 3 + 1,none⟩ (.int .i64 (c:Int))).setCell ⟨pb,p * 3 + 2,none⟩ (.int .i64 0)) tb pb cp n (setPg P p ⟨1,c,0⟩)):=Lib.hid (ht.set hlt ⟨1,c,0⟩)
    generalize (P p).c=pc at *
    generalize (P p).r=pr at *
    clear ht hfr hk0 hst
    go_wp2_with fail
    refine HYES.out hlt _ HS.out ?_
    exact (HST.out.any _ _).trans (only_page _ _ _ _ _ _ _ _)
   ·have hk:(P p).k ≠ 0:=fun e2 => by
     have:=HFB.out p (by omega)
     rw [hfr.2 e2] at this
     cases this
    obtain ⟨k,hkk⟩:∃ k,(P p).k=k:=⟨_,rfl⟩
    rw [hkk] at k1 hk
    have hkb:(k == 0)=false:=by simp;omega
    clear ht hfr hst k2 k3 hkk
    go_wp2_with fail
    exact ⟨⟨p + 1,by go_num,by omega,HST.out⟩,by simp [intOf];omega⟩
  ·obtain rfl:n=p:=by omega
   obtain rfl:f=n:=by omega
   clear ht hst
   go_wp2_with fail
   exact HNO.out trivial _ HST.out
def runTo (P:Nat → Pg) (h m i:Nat):Nat → Pg:=fun j => if j=h then ⟨2,0,m⟩ else if h ≤ j ∧ j < h + i then ⟨3,0,0⟩ else P j
theorem runTo_one (P:Nat → Pg) (h m:Nat):setPg P h ⟨2,0,m⟩=runTo P h m 1:=by
 funext j
 unfold setPg runTo
 by_cases e:j=h
 ·rw [if_pos e,if_pos e]
 ·rw [if_neg e,if_neg e,if_neg (by omega)]
theorem runTo_succ (P:Nat → Pg) (h m i:Nat) (hi:1 ≤ i):setPg (runTo P h m i) (h + i) ⟨3,0,0⟩=runTo P h m (i + 1):=by
 funext j
 unfold setPg runTo
 by_cases e:j=h + i
 ·rw [if_pos e,if_neg (by omega),if_pos (by omega)]
 ·rw [if_neg e]
  by_cases e2:j=h
  ·rw [if_pos e2,if_pos e2]
  ·rw [if_neg e2,if_neg e2]
   by_cases e3:h ≤ j ∧ j < h + i
   ·rw [if_pos e3,if_pos (by omega)]
   ·rw [if_neg e3,if_neg (by omega)]
set_option maxHeartbeats 3200000 in
theorem rtake_run (w:World) (tb pb cp n m:Nat) (P:Nat → Pg) (h:RTabAt w tb pb cp n P) (hp:PgOk P n) (hm:1 ≤ m) (hm2:m ≤ 16) (Q:Ending → World → Prop)
 (hno:seekRun P n m 0 0=none → ∀ w',Still w w' → Q (.returned (.tuple #[.int .i64 0,.int .i64 20])) w')
 (hyes:∀ q:Nat,seekRun P n m 0 0=some q → ∀ w',RTabAt w' tb pb cp n (runPg P q m) → Only pb (pb + 1) w w' → Q (.returned (.tuple #[.int .i64 (q:Int),.int .i64 0])) w') :
 Calls Tryz.prog 114 #[.pointer (some ⟨tb,0,none⟩),.int .i64 (m:Int)] w Q:=by
 have HT:=Lib.hid (fun W (hs:Still w W) => h.still hs)
 have HR:=Lib.hid (rrow_any w tb pb cp n m P h hp hm hm2)
 have HNO:=Lib.hid hno
 have HYES:=Lib.hid hyes
 have hn2:=h.n2
 have hnI:(n:Int) ≤ 4096:=by omega
 have hmI:(m:Int) ≤ 16:=by omega
 have hm1:(1:Int) ≤ (m:Int):=by omega
 have hin:=seekRun_in P n m hm n 0 0 (Nat.le_refl _) (Nat.le_refl _) (by omega)
 obtain ⟨r,hr⟩:∃ r,seekRun P n m 0 0=r:=⟨_,rfl⟩
 rw [hr] at HR HNO HYES hin
 clear h hp hno hyes hr
 cases r with
 | none =>
  clear hin
  go_enter Tryz.func114,Tryz.ntmps114
  go_wp2_with fail
  refine HR.out.mono ?_
  rintro e w1 ⟨rfl,hs1⟩
  simp only [runV]
  go_wp2_with fail
  exact HNO.out trivial _ hs1
 | some q =>
  have hqn:=hin q rfl
  have hq0:(0:Int) ≤ (q:Int):=by omega
  have hqI:(q:Int) + (m:Int) ≤ (n:Int):=by omega
  clear hin
  go_enter Tryz.func114,Tryz.ntmps114
  go_wp2_with fail
  refine HR.out.mono ?_
  rintro e w1 ⟨rfl,hs1⟩
  simp only [runV]
  have ht:=HT.out _ hs1
  have c0:=ht.c0
  obtain ⟨l1,l2⟩:=ht.lts
  have hql:q < n:=by omega
  have hqI2:(q:Int) < (n:Int):=by omega
  obtain ⟨k1,k2,k3⟩:=ht.ks hql
  have f0:=ht.pages.frozen (q * 3)
  have f1:=ht.pages.frozen (q * 3 + 1)
  have f2:=ht.pages.frozen (q * 3 + 2)
  have HS:Hid (RTabAt (((w1.setCell ⟨pb,q * 3,none⟩ (.int .i64 2)).setCell ⟨pb,q * 3 + 1,none⟩ (.int .i64 0)).setCell ⟨pb,q * 3 + 2,none⟩ (.int .i64 (m:Int))) tb pb cp n (runTo P q m 1)):=Lib.hid (by rw [← runTo_one];exact ht.set hql ⟨2,0,m⟩)
  have HO:Hid (Only pb (pb + 1) w (((w1.setCell ⟨pb,q * 3,none⟩ (.int .i64 2)).setCell ⟨pb,q * 3 + 1,none⟩ (.int .i64 0)).setCell ⟨pb,q * 3 + 2,none⟩ (.int .i64 (m:Int)))):=Lib.hid ((hs1.any _ _).trans (only_page _ _ _ _ _ _ _ _))
  generalize (P q).c=pc at *
  generalize (P q).k=pk at *
  generalize (P q).r=pr at *
  clear ht hs1
  go_wp2_with fail
  generalize ((w1.setCell ⟨pb,q * 3,none⟩ (.int .i64 2)).setCell ⟨pb,q * 3 + 1,none⟩ (.int .i64 0)).setCell ⟨pb,q * 3 + 2,none⟩ (.int .i64 (m:Int))=w2 at *
  clear c0 l1 l2 k1 k2 k3 f0 f1 f2
  go_loopw [7] (fun y W => ∃ i:Nat,y=.int .i64 (i:Int) ∧ 1 ≤ i ∧ i ≤ m ∧ RTabAt W tb pb cp n (runTo P q m i) ∧ Only pb (pb + 1) w W) (fun y _ => m + 1 - (intOf y).toNat)
  case atStart => exact ⟨1,rfl,Nat.le_refl _,hm,HS.out,HO.out⟩
  case round =>
   obtain ⟨i,rfl,hi1,him,ht,ho⟩:=hrel
   have HO2:=Lib.hid ho
   have HTT:=Lib.hid ht
   have hi0:(1:Int) ≤ (i:Int):=by omega
   have c0:=ht.c0
   obtain ⟨l1,l2⟩:=ht.lts
   by_cases hlt:i < m
   ·have hiI:(i:Int) < (m:Int):=by omega
    obtain ⟨j,hj⟩:∃ j,q + i=j:=⟨_,rfl⟩
    have hjn:j < n:=by omega
    have hjI:(j:Int) < (n:Int):=by omega
    have hj0:(0:Int) ≤ (j:Int):=by omega
    have hji:(q:Int) + (i:Int)=(j:Int):=by omega
    obtain ⟨k1,k2,k3⟩:=ht.ks hjn
    have f0:=ht.pages.frozen (j * 3)
    have f1:=ht.pages.frozen (j * 3 + 1)
    have f2:=ht.pages.frozen (j * 3 + 2)
    have HS2:Hid (RTabAt (((wr.setCell ⟨pb,j * 3,none⟩ (.int .i64 3)).setCell ⟨pb,j * 3 + 1,none⟩ (.int .i64 0)).setCell ⟨pb,j * 3 + 2,none⟩ (.int .i64 0)) tb pb cp n (runTo P q m (i + 1))):=Lib.hid (by rw [← runTo_succ _ _ _ _ hi1,hj];exact ht.set hjn ⟨3,0,0⟩)
    generalize (runTo P q m i j).c=pc at *
    generalize (runTo P q m i j).k=pk at *
    generalize (runTo P q m i j).r=pr at *
    clear ht ho hj
    go_wp2_with fail
    exact ⟨⟨i + 1,by go_num,by omega,hlt,HS2.out,HO2.out.trans (only_page _ _ _ _ _ _ _ _)⟩,by simp [intOf];omega⟩
   ·obtain rfl:m=i:=by omega
    clear ht ho
    go_wp2_with fail
    exact HYES.out q rfl _ HTT.out HO2.out
theorem clrPg_nil (P:Nat → Pg) (p:Nat):clrPg P p 0=P:=by funext j;unfold clrPg;rw [if_neg (by omega)]
theorem clrPg_step (P:Nat → Pg) (p i:Nat):setPg (clrPg P p i) (p + i) ⟨0,0,0⟩=clrPg P p (i + 1):=by
 funext j
 unfold setPg clrPg
 by_cases e:j=p + i
 ·rw [if_pos e,if_pos (by omega)]
 ·rw [if_neg e]
  by_cases e2:p ≤ j ∧ j < p + i
  ·rw [if_pos e2,if_pos (by omega)]
  ·rw [if_neg e2,if_neg (by omega)]
set_option maxHeartbeats 1600000 in
theorem rgive_no (w:World) (tb pb cp n p:Nat) (P:Nat → Pg) (h:RTabAt w tb pb cp n P) (hp:p < n) (hk:(P p).k=0 ∨ (P p).k=3) :
 Calls Tryz.prog 141 #[.pointer (some ⟨tb,0,none⟩),.int .i64 (p:Int)] w fun e w' => e=.returned (.int .i64 1) ∧ Still w w':=by
 have hn2:=h.n2
 have hnI:(n:Int) ≤ 4096:=by omega
 have hpI:(p:Int) < (n:Int):=by omega
 have hp0:(0:Int) ≤ (p:Int):=by omega
 have c0:=h.c0
 obtain ⟨l1,l2⟩:=h.lts
 have k1:=h.kc hp
 rcases hk with hk | hk
 ·rw [hk] at k1
  clear h hk
  go_enter Tryz.func141,Tryz.ntmps141
  go_wp2_with fail
  try go_quiet (fail)
  try go_wp2_with fail
  go_ret
  exact ⟨rfl,by first | exact Only.refl _ _ _ | exact (Only.refl _ _ _).drewN _⟩
 ·rw [hk] at k1
  clear h hk
  go_enter Tryz.func141,Tryz.ntmps141
  go_wp2_with fail
  try go_quiet (fail)
  try go_wp2_with fail
  go_ret
  exact ⟨rfl,by first | exact Only.refl _ _ _ | exact (Only.refl _ _ _).drewN _⟩
set_option maxHeartbeats 3200000 in
theorem rgive_yes (w:World) (tb pb cp n p m:Nat) (P:Nat → Pg) (h:RTabAt w tb pb cp n P) (hm:1 ≤ m) (hpm:p + m ≤ n) (hk:(P p).k=1 ∧ m=1 ∨ (P p).k=2 ∧ (P p).r=(m:Int)) (Q:Ending → World → Prop)
 (hQ:∀ w',RTabAt w' tb pb cp n (clrPg P p m) → Only pb (pb + 1) w w' → Q (.returned (.int .i64 0)) w') :
 Calls Tryz.prog 141 #[.pointer (some ⟨tb,0,none⟩),.int .i64 (p:Int)] w Q:=by
 have HQ:=Lib.hid hQ
 have HT:=Lib.hid h
 have hn2:=h.n2
 have hp:p < n:=by omega
 have hnI:(n:Int) ≤ 4096:=by omega
 have hpI:(p:Int) < (n:Int):=by omega
 have hp0:(0:Int) ≤ (p:Int):=by omega
 have hpmI:(p:Int) + (m:Int) ≤ (n:Int):=by omega
 have hm1:(1:Int) ≤ (m:Int):=by omega
 have c0:=h.c0
 obtain ⟨l1,l2⟩:=h.lts
 have k1:=h.kc hp
 have k3:=h.rc hp
 rcases hk with ⟨hk,rfl⟩ | ⟨hk,hr⟩
 ·rw [hk] at k1
  generalize (P p).r=pr at *
  clear h hk hQ
  go_enter Tryz.func141,Tryz.ntmps141
  go_wp2_with fail
  clear c0 l1 l2 k1 k3
  go_loopw [6] (fun y W => ∃ i:Nat,y=.int .i64 (i:Int) ∧ i ≤ 1 ∧ RTabAt W tb pb cp n (clrPg P p i) ∧ Only pb (pb + 1) w W) (fun y _ => 1 + 1 - (intOf y).toNat)
  case atStart => exact ⟨0,rfl,Nat.zero_le _,by rw [clrPg_nil];exact HT.out,Only.refl _ _ _⟩
  case round =>
   obtain ⟨i,rfl,him,ht,ho⟩:=hrel
   have HO2:=Lib.hid ho
   have HTT:=Lib.hid ht
   have hi0:(0:Int) ≤ (i:Int):=by omega
   have c0:=ht.c0
   obtain ⟨l1,l2⟩:=ht.lts
   by_cases hlt:i < 1
   ·have hiI:(i:Int) < (1:Int):=by omega
    obtain ⟨j,hj⟩:∃ j,p + i=j:=⟨_,rfl⟩
    have hjn:j < n:=by omega
    have hjI:(j:Int) < (n:Int):=by omega
    have hj0:(0:Int) ≤ (j:Int):=by omega
    have hji:(p:Int) + (i:Int)=(j:Int):=by omega
    obtain ⟨k1,k2,k3⟩:=ht.ks hjn
    have f0:=ht.pages.frozen (j * 3)
    have f1:=ht.pages.frozen (j * 3 + 1)
    have f2:=ht.pages.frozen (j * 3 + 2)
    have HS2:Hid (RTabAt (((wr.setCell ⟨pb,j * 3,none⟩ (.int .i64 0)).setCell ⟨pb,j * 3 + 1,none⟩ (.int .i64 0)).setCell ⟨pb,j * 3 + 2,none⟩ (.int .i64 0)) tb pb cp n (clrPg P p (i + 1))):=Lib.hid (by rw [← clrPg_step,hj];exact ht.set hjn ⟨0,0,0⟩)
    generalize (clrPg P p i j).c=pc at *
    generalize (clrPg P p i j).k=pk at *
    generalize (clrPg P p i j).r=pr at *
    clear ht ho hj
    go_wp2_with fail
    exact ⟨⟨i + 1,by go_num,hlt,HS2.out,HO2.out.trans (only_page _ _ _ _ _ _ _ _)⟩,by simp [intOf];omega⟩
   ·obtain rfl:i=1:=by omega
    clear ht ho
    go_wp2_with fail
    exact HQ.out _ HTT.out HO2.out
 ·rw [hk] at k1
  rw [hr] at k3
  clear hr
  clear h hk hQ
  go_enter Tryz.func141,Tryz.ntmps141
  go_wp2_with fail
  clear c0 l1 l2 k1 k3
  go_loopw [6] (fun y W => ∃ i:Nat,y=.int .i64 (i:Int) ∧ i ≤ m ∧ RTabAt W tb pb cp n (clrPg P p i) ∧ Only pb (pb + 1) w W) (fun y _ => m + 1 - (intOf y).toNat)
  case atStart => exact ⟨0,rfl,Nat.zero_le _,by rw [clrPg_nil];exact HT.out,Only.refl _ _ _⟩
  case round =>
   obtain ⟨i,rfl,him,ht,ho⟩:=hrel
   have HO2:=Lib.hid ho
   have HTT:=Lib.hid ht
   have hi0:(0:Int) ≤ (i:Int):=by omega
   have c0:=ht.c0
   obtain ⟨l1,l2⟩:=ht.lts
   by_cases hlt:i < m
   ·have hiI:(i:Int) < (m:Int):=by omega
    obtain ⟨j,hj⟩:∃ j,p + i=j:=⟨_,rfl⟩
    have hjn:j < n:=by omega
    have hjI:(j:Int) < (n:Int):=by omega
    have hj0:(0:Int) ≤ (j:Int):=by omega
    have hji:(p:Int) + (i:Int)=(j:Int):=by omega
    obtain ⟨k1,k2,k3⟩:=ht.ks hjn
    have f0:=ht.pages.frozen (j * 3)
    have f1:=ht.pages.frozen (j * 3 + 1)
    have f2:=ht.pages.frozen (j * 3 + 2)
    have HS2:Hid (RTabAt (((wr.setCell ⟨pb,j * 3,none⟩ (.int .i64 0)).setCell ⟨pb,j * 3 + 1,none⟩ (.int .i64 0)).setCell ⟨pb,j * 3 + 2,none⟩ (.int .i64 0)) tb pb cp n (clrPg P p (i + 1))):=Lib.hid (by rw [← clrPg_step,hj];exact ht.set hjn ⟨0,0,0⟩)
    generalize (clrPg P p i j).c=pc at *
    generalize (clrPg P p i j).k=pk at *
    generalize (clrPg P p i j).r=pr at *
    clear ht ho hj
    go_wp2_with fail
    exact ⟨⟨i + 1,by go_num,hlt,HS2.out,HO2.out.trans (only_page _ _ _ _ _ _ _ _)⟩,by simp [intOf];omega⟩
   ·obtain rfl:m=i:=by omega
    clear ht ho
    go_wp2_with fail
    exact HQ.out _ HTT.out HO2.out
end Go.Proofs.YtfbcdmhmpfijjaaGreatDoor
namespace Go.Proofs.YtfbcdmhmpfijjaaGreatDoor
open Go Go.RowKit
theorem first_skip {P:Nat → Pg} {n l:Nat} (hl:l ≤ n):∀ (d i:Nat),i + d=l → (∀ p,i ≤ p → p < l → (P p).free=false) → firstFree P n i=firstFree P n l
 | 0,i,e,_ => by rw [← e,Nat.add_zero]
 | d + 1,i,e,h => by
  rw [firstFree,dif_pos (by omega),h i (Nat.le_refl _) (by omega),if_neg (by decide)]
  exact first_skip hl d (i + 1) (by omega) fun p hp1 hp2 => h p (by omega) hp2
theorem free_false {g:Pg} (h:g ≠ ⟨0,0,0⟩):g.free=false:=by
 cases e:g.free with
 | false => rfl
 | true => exact absurd (Pg.free_eq e) h
section
variable {s:St} (h:s.Mid)
include h
theorem St.Mid.pgOk:PgOk s.P s.n:=fun i hi hk => by
 rcases h.pages i hi with e | ⟨c,_,e⟩ | ⟨q,r,⟨_,_,e,e2⟩,h3,h4⟩
 ·exact e
 ·rw [e] at hk;cases hk
 ·by_cases hq:i=q
  ·rw [hq,e] at hk;cases hk
  ·rw [e2 i (by omega) (by omega)] at hk;cases hk
theorem St.Mid.ff0 (hl:s.low ≤ s.n):firstFree s.P s.n 0=s.ff:=first_skip hl s.low 0 (Nat.zero_add _) fun p _ hp => free_false (h.lowf p hp)
theorem St.Mid.seek0 (hl:s.low ≤ s.n) (m:Nat):seekRun s.P s.n m 0 0=s.runAt m:=by
 have hff:s.ff ≤ s.n:=firstFree_le _ _ _ hl
 have:=seek_skip (P:=s.P) (n:=s.n) (m:=m) s.ff 0 fun p _ hp => by
  rw [Nat.zero_add] at hp
  refine ⟨by omega,?_⟩
  by_cases e:p < s.low
  ·exact free_false (h.lowf p e)
  ·exact firstFree_below s.P s.n s.low p (by omega) hp
 rw [Nat.zero_add] at this
 exact this
end
theorem RefAt.tab {w:World} {R:RLay} {s:St} (h:RefAt w R s):RTabAt w R.tb R.pb R.cp s.n s.P:=⟨h.thead,h.pages,h.ok.tp,h.n2⟩
def St.pl (s:St) (z:Int):Int × Bool :=
 if Sp.cls z=8 then (match s.runAt (Sp.pgs z).toNat with | none => (-1,false) | some h => (((h * 64:Nat):Int),false))
 else if 0 ≤ s.hd0 (Sp.cls z).toNat then (s.hd0 (Sp.cls z).toNat,false) else if s.ff=s.n then (-1,false) else (((s.ff * 64:Nat):Int),true)
set_option maxHeartbeats 1600000 in
theorem rtcopy_any (w:World) (R:RLay) (s:St) (h:RefAt w R s) :
 Calls Tryz.prog 112 #[.pointer (some ⟨R.tb,0,none⟩)] w fun e w' => (∃ tb pb cp,e=.returned (.pointer (some ⟨tb,0,none⟩)) ∧ RTabAt w' tb pb cp s.n s.P ∧ w.heap.size ≤ tb ∧ w.heap.size ≤ pb) ∧ Still w w':=by
 obtain ⟨v,w1,happ,hrow,hst⟩:=rpages_copy w R s h
 have t0:=h.t0
 have hl:=h.lts.2.1
 have hn1:=h.n1
 have hn2:=h.n2
 obtain ⟨pb,cp,hv,hpb⟩:∃ pb cp,v=.slice (some ⟨pb,0,none⟩) s.n cp ∧ w.heap.size ≤ pb:=by
  rcases hrow.2 with ⟨_,e⟩ | ⟨g,cap,_,e,hg,_⟩
  ·omega
  ·exact ⟨g,cap,e,hg⟩
 have hrb:RowB w1 pb 146 s.n 3 (prOf s.P):=by
  rcases hrow.2 with ⟨_,e⟩ | ⟨g,cap,cur,e,hg,hcur,_,_,_,ht⟩
  ·omega
  ·rw [hv] at e
   injection e with e
   injection e with e
   injection e with e
   subst e
   refine ⟨cur,hcur,fun i hi d hd => ?_⟩
   have:=pgCells_pr s i d hi hd
   rw [← Array.getElem?_toList,← ht,List.getElem?_take_of_lt (by omega),Array.getElem?_toList] at this
   exact this
 have hpl:=hrb.lt
 subst hv
 have HAPP:=Lib.hid happ
 have HF:Hid (RTabAt (w1.alloc (.cells #[.slice (some ⟨pb,0,none⟩) s.n cp] 127)) w1.heap.size pb cp s.n s.P ∧ Still w (w1.alloc (.cells #[.slice (some ⟨pb,0,none⟩) s.n cp] 127)) ∧ w.heap.size ≤ w1.heap.size) :=
  Lib.hid ⟨⟨heap_alloc_new w1 _,hrb.still ((Only.refl _ _ w1).alloc _),by omega,hn2⟩,hst.alloc _,hst.size⟩
 clear happ hrow hst hrb h
 go_enter Tryz.func112,Tryz.ntmps112
 go_wp2_with (first | (at_builtin;refine wpList_append_eq rfl _ _ 70 rfl _ _ _ _ rfl rfl HAPP.out ?_))
 go_ret
 exact ⟨⟨_,_,_,rfl,HF.out.1,HF.out.2.2,hpb⟩,HF.out.2.1⟩
set_option maxHeartbeats 1600000 in
theorem rplace_no (w:World) (p:Addr) (z:Int) (hz:z < 1 ∨ 1024 < z) :
 Calls Tryz.prog 70 #[.pointer (some p),.int .i64 z] w fun e w' => e=.returned (.tuple #[.int .i64 (-1),.bool false]) ∧ w=w':=by
 have HO:=Lib.hid (rof_no z hz w)
 clear hz
 go_enter Tryz.func70,Tryz.ntmps70
 go_wp2_with fail
 refine HO.out.mono ?_
 rintro e w1 ⟨rfl,rfl⟩
 go_wp2_with fail
 go_ret2
 exact ⟨rfl,rfl⟩
set_option maxRecDepth 100000 in
set_option maxHeartbeats 3200000 in
theorem rplace_any (w:World) (R:RLay) (s:St) (h:RefAt w R s) (hm:s.Mid) (hs:s.RefOk) (hl:s.low ≤ s.n) (z:Int) (hz1:1 ≤ z) (hz2:z ≤ 1024) :
 Calls Tryz.prog 70 #[.pointer (some ⟨R.rb,0,none⟩),.int .i64 z] w fun e w' => e=.returned (.tuple #[.int .i64 (s.pl z).1,.bool (s.pl z).2]) ∧ Still w w':=by
 have HR:=Lib.hid (fun W (hw:Still w W) => h.still hw)
 have HO:=Lib.hid (fun W => rof_yes z hz1 hz2 W)
 have HPG:=Lib.hid (fun W => rpages_any z hz1 hz2 W)
 have HCP:=Lib.hid (rtcopy_any w R s h)
 have HPO:=Lib.hid hm.pgOk
 have hff0:=hm.ff0 hl
 have hffn:s.ff ≤ s.n:=firstFree_le _ _ _ hl
 have hn2:=h.n2
 have c1:=h.c1
 have hrl:=h.lts.1
 have hcl:=Sp.cls_in hz1 hz2
 by_cases h8:Sp.cls z=8
 ·obtain ⟨hw,hg⟩:=Sp.wide_run h8
  have hg16:=(Sp.pgs_le z).2
  obtain ⟨m,hmm⟩:=Int.eq_ofNat_of_zero_le (show 0 ≤ Sp.pgs z by omega)
  have hm1:1 ≤ m:=by omega
  have hm2:m ≤ 16:=by omega
  have hsk:seekRun s.P s.n m 0 0=s.runAt m:=hm.seek0 hl m
  have hpl:s.pl z=(match s.runAt m with | none => (-1,false) | some h => (((h * 64:Nat):Int),false)):=by unfold St.pl;rw [if_pos h8,hmm,Int.toNat_natCast]
  have hin:=seekRun_in s.P s.n m hm1 s.n 0 0 (Nat.le_refl _) (Nat.le_refl _) (by omega)
  have HTR:=Lib.hid (fun W tb pb cp (ht:RTabAt W tb pb cp s.n s.P) Q h1 h2 => rtake_run W tb pb cp s.n m s.P ht HPO.out hm1 hm2 Q h1 h2)
  rw [hsk] at HTR hin
  rw [hpl]
  rw [h8] at HO
  rw [hmm] at HPG
  clear hm hs hpl hsk hff0 hffn h8 hw hg hg16 hmm h
  generalize s.runAt m=r at *
  cases r with
  | none =>
   go_enter Tryz.func70,Tryz.ntmps70
   go_wp2_with fail
   refine (HO.out _).mono ?_
   rintro e w1 ⟨rfl,rfl⟩
   go_wp2_with fail
   refine HCP.out.mono ?_
   rintro e w1 ⟨⟨tb,pb,cp,rfl,ht,hb1,hb2⟩,hs1⟩
   have HS1:=Lib.hid hs1
   have HTQ:=Lib.hid (fun Q h1 h2 => HTR.out w1 tb pb cp ht Q h1 h2)
   clear ht hs1
   go_wp2_with fail
   refine (HPG.out _).mono ?_
   rintro e w2 ⟨rfl,rfl⟩
   go_wp2_with fail
   refine HTQ.out _ (fun _ w3 hs3 => ?_) (fun q e => by cases e)
   have HS3:=Lib.hid (Still.trans HS1.out hs3)
   clear hs3
   go_wp2_with fail
   go_ret2
   exact ⟨rfl,HS3.out⟩
  | some q =>
   have hqn:=hin q rfl
   have hqI:(q:Int) ≤ 4096:=by omega
   have hq0:(0:Int) ≤ (q:Int):=by omega
   clear hin
   go_enter Tryz.func70,Tryz.ntmps70
   go_wp2_with fail
   refine (HO.out _).mono ?_
   rintro e w1 ⟨rfl,rfl⟩
   go_wp2_with fail
   refine HCP.out.mono ?_
   rintro e w1 ⟨⟨tb,pb,cp,rfl,ht,hb1,hb2⟩,hs1⟩
   have HS1:=Lib.hid hs1
   have HB:=Lib.hid hb2
   have HTQ:=Lib.hid (fun Q h1 h2 => HTR.out w1 tb pb cp ht Q h1 h2)
   clear ht hs1
   go_wp2_with fail
   refine (HPG.out _).mono ?_
   rintro e w2 ⟨rfl,rfl⟩
   go_wp2_with fail
   refine HTQ.out _ (fun e => by cases e) (fun q' e w3 _ ho => ?_)
   injection e with e
   subst e
   have HS3:Hid (Still w w3):=Lib.hid (HS1.out.trans' ho (.inr HB.out) (.inr HB.out))
   clear ho
   go_wp2_with fail
   go_ret2
   exact ⟨by go_num,HS3.out⟩
 ·obtain ⟨c,hcz⟩:∃ c:Nat,Sp.cls z=(c:Int):=⟨(Sp.cls z).toNat,by omega⟩
  have hc:c < 8:=by omega
  have hpl:s.pl z=if 0 ≤ s.hd0 c then (s.hd0 c,false) else if s.ff=s.n then (-1,false) else (((s.ff * 64:Nat):Int),true):=by unfold St.pl;rw [if_neg h8,hcz,Int.toNat_natCast]
  have HNX:=Lib.hid (fun W (hw:Still w W) => rnext_any W R s (h.still hw) hs c hc 0 (Nat.zero_le _))
  have HTC:=Lib.hid (fun W tb pb cp (ht:RTabAt W tb pb cp s.n s.P) Q h1 h2 => rtake_class W tb pb cp s.n c s.P ht HPO.out hc Q h1 h2)
  have hcI:(c:Int) < 8:=by omega
  have hc0:(0:Int) ≤ (c:Int):=by omega
  have hc8:((c:Int) == 8)=false:=by simp;omega
  rw [hff0] at HTC
  rw [hpl]
  rw [hcz] at HO
  have hd:s.hd0 c=Bm.next (s.B (c + 1)) (64 * s.n) ((0:Nat):Int):=rfl
  rw [← hd] at HNX
  clear hm hs hpl hff0 h8 hcz h hd
  generalize s.hd0 c=x at *
  generalize s.ff=ff at *
  by_cases hx:0 ≤ x
  ·rw [if_pos hx]
   go_enter Tryz.func70,Tryz.ntmps70
   go_wp2_with fail
   refine (HO.out _).mono ?_
   rintro e w1 ⟨rfl,rfl⟩
   go_wp2_with fail
   refine HCP.out.mono ?_
   rintro e w1 ⟨⟨tb,pb,cp,rfl,ht,hb1,hb2⟩,hs1⟩
   have HS1:=Lib.hid hs1
   clear ht hs1
   go_wp2_with fail
   refine (HNX.out _ HS1.out).mono ?_
   rintro e w2 ⟨rfl,hs2⟩
   have HS2:=Lib.hid (Still.trans HS1.out hs2)
   clear hs2
   go_wp2_with fail
   go_ret2
   exact ⟨rfl,HS2.out⟩
  ·rw [if_neg hx]
   have hxn:x < 0:=by omega
   by_cases hf:ff=s.n
   ·rw [if_pos hf]
    go_enter Tryz.func70,Tryz.ntmps70
    go_wp2_with fail
    refine (HO.out _).mono ?_
    rintro e w1 ⟨rfl,rfl⟩
    go_wp2_with fail
    refine HCP.out.mono ?_
    rintro e w1 ⟨⟨tb,pb,cp,rfl,ht,hb1,hb2⟩,hs1⟩
    have HS1:=Lib.hid hs1
    have HT:=Lib.hid ht
    clear ht hs1
    go_wp2_with fail
    refine (HNX.out _ HS1.out).mono ?_
    rintro e w2 ⟨rfl,hs2⟩
    have HS2:=Lib.hid (Still.trans HS1.out hs2)
    have HTQ:=Lib.hid (fun Q h1 h2 => HTC.out w2 tb pb cp (HT.out.still hs2) Q h1 h2)
    clear hs2
    go_wp2_with fail
    refine HTQ.out _ (fun _ w3 hs3 => ?_) (fun e => by omega)
    have HS3:=Lib.hid (Still.trans HS2.out hs3)
    clear hs3
    go_wp2_with fail
    go_ret2
    exact ⟨rfl,HS3.out⟩
   ·rw [if_neg hf]
    have hfI:(ff:Int) ≤ 4096:=by omega
    have hf0:(0:Int) ≤ (ff:Int):=by omega
    go_enter Tryz.func70,Tryz.ntmps70
    go_wp2_with fail
    refine (HO.out _).mono ?_
    rintro e w1 ⟨rfl,rfl⟩
    go_wp2_with fail
    refine HCP.out.mono ?_
    rintro e w1 ⟨⟨tb,pb,cp,rfl,ht,hb1,hb2⟩,hs1⟩
    have HS1:=Lib.hid hs1
    have HB:=Lib.hid hb2
    have HT:=Lib.hid ht
    clear ht hs1
    go_wp2_with fail
    refine (HNX.out _ HS1.out).mono ?_
    rintro e w2 ⟨rfl,hs2⟩
    have HS2:=Lib.hid (Still.trans HS1.out hs2)
    have HTQ:=Lib.hid (fun Q h1 h2 => HTC.out w2 tb pb cp (HT.out.still hs2) Q h1 h2)
    clear hs2
    go_wp2_with fail
    refine HTQ.out _ (fun e => absurd e hf) (fun _ w3 _ ho => ?_)
    have HS3:Hid (Still w w3):=Lib.hid (HS2.out.trans' ho (.inr HB.out) (.inr HB.out))
    clear ho
    go_wp2_with fail
    go_ret2
    exact ⟨by go_num,HS3.out⟩
end Go.Proofs.YtfbcdmhmpfijjaaGreatDoor
