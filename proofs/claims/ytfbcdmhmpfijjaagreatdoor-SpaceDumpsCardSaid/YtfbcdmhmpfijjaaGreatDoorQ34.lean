/-
  The walks of the document's Read and Write.
-/
import Derived.Laws.Rows
import Derived.Test.YtfbcdmhmpfijjaaGreatDoorQ33
set_option linter.unusedVariables false
set_option linter.unusedSimpArgs false
set_option linter.unusedSectionVars false
namespace Go.Proofs.YtfbcdmhmpfijjaaGreatDoor
open Go Go.RowKit
section
variable {w w':World} {R:RLay} {s t:St} (h:RefAt w R s)
include h
theorem RefAt.congr (hn:t.n=s.n) (hW:∀ i,i < 64 * s.n → t.W i=s.W i) (hP:∀ i,i < s.n → t.P i=s.P i) (hB:t.B 0=s.B 0) (hS:∀ a:Nat,s.B 0 a=true → t.sh a=s.sh a) (hse:t.ser=s.ser):RefAt w R t:=by
 refine ⟨h.ok,h.top,by rw [hn];exact h.n1,by rw [hn];exact h.n2,by rw [hn,hse];exact h.head,by rw [hn];exact h.thead,?_,?_,?_⟩
 ·rw [hn]
  exact h.words.congr fun i hi d hd => (hW i hi).symm
 ·rw [hn]
  exact h.pages.congr fun i hi d hd => by unfold St.pr;rw [hP i hi]
 ·rw [hn]
  refine h.objs.congr fun i hi d hd => ?_
  unfold St.ro
  rw [hB]
  by_cases e:s.B 0 i=true
  ·rw [if_pos e,if_pos e,hS i e]
  ·rw [if_neg e,if_neg e]
theorem RefAt.low (l:Nat):RefAt w R { s with low:=l }:=⟨h.ok,h.top,h.n1,h.n2,h.head,h.thead,h.words,h.pages,h.objs⟩
theorem RefAt.ins:∀ g,g=R.rb ∨ g=R.tb ∨ g=R.wb ∨ g=R.pb ∨ g=R.ob → R.lo ≤ g ∧ g < R.hi:=by
 intro g hg
 have o:=h.ok
 rcases hg with rfl | rfl | rfl | rfl | rfl
 ·exact o.rb1
 ·exact o.tb1
 ·exact o.wb1
 ·exact o.pb1
 ·exact o.ob1
theorem RefAt.updP {P:Nat → Pg} (ho:Only R.pb (R.pb + 1) w w') (ht:RTabAt w' R.tb R.pb R.cp s.n P):RefAt w' R { s with P:=P }:=by
 have o:=h.ok
 have l:=h.lts
 refine ⟨o,Nat.le_trans h.top ho.size,h.n1,h.n2,?_,ht.head,h.words.kept ho ?_,ht.pages,h.objs.kept ho ?_⟩
 ·exact (ho.block _ l.1 (by have:=o.rp;omega)).trans h.head
 ·have:=o.wp;omega
 ·have:=o.po;omega
theorem RefAt.setW {i:Nat} (hi:i < 64 * s.n) (v:Int):RefAt (w.setCell ⟨R.wb,i,none⟩ (.int .i64 v)) R { s with W:=setW s.W i v }:=by
 have o:=h.ok
 have ho:=only_cell w R.wb i (.int .i64 v)
 have hw:=h.words.set hi (d:=0) (by omega) v
 rw [Nat.mul_one,Nat.add_zero] at hw
 refine ⟨o,Nat.le_trans h.top ho.size,h.n1,h.n2,?_,?_,hw.congr fun i' _ d hd => ?_,h.pages.kept ho ?_,h.objs.kept ho ?_⟩
 ·exact (ho.block _ h.lts.1 (by have:=o.rw';omega)).trans h.head
 ·exact (ho.block _ h.lts.2.1 (by have:=o.tw;omega)).trans h.thead
 ·unfold _root_.Go.Proofs.YtfbcdmhmpfijjaaGreatDoor.setW
  dsimp only
  by_cases e:i'=i
  ·rw [if_pos ⟨e,by omega⟩,if_pos e]
  ·rw [if_neg fun hh => e hh.1,if_neg e]
 ·have:=o.wp;omega
 ·have:=o.wo;omega
theorem RefAt.setSer (v:Int):RefAt (w.setCell ⟨R.rb,3,none⟩ (.int .i64 v)) R { s with ser:=v }:=by
 have o:=h.ok
 have ho:=only_cell w R.rb 3 (.int .i64 v)
 refine ⟨o,Nat.le_trans h.top ho.size,h.n1,h.n2,?_,?_,h.words.kept ho ?_,h.pages.kept ho ?_,h.objs.kept ho ?_⟩
 ·simp only [World.setCell,Array.getElem?_modify,h.head]
  simp
 ·exact (ho.block _ h.lts.2.1 (by have:=o.rt;omega)).trans h.thead
 ·have:=o.rw';omega
 ·have:=o.rp;omega
 ·have:=o.ro;omega
theorem RefAt.setObj {a:Nat} (ha:a < 64 * s.n) (x:Sh) :
 RefAt (((((w.setCell ⟨R.ob,a * 5,none⟩ (.int .i64 (a:Int))).setCell ⟨R.ob,a * 5 + 1,none⟩ (.int .i64 x.k)).setCell ⟨R.ob,a * 5 + 2,none⟩ (.int .i64 x.z)).setCell ⟨R.ob,a * 5 + 3,none⟩ (.int .i64 x.s)).setCell ⟨R.ob,a * 5 + 4,none⟩ (.int .i64 x.t)) R
  { s with B:=fun j => if j=0 then setS (s.B 0) a true else s.B j,S:=updM s.S (a:Int) (some x) }:=by
 have o:=h.ok
 have ho:Only R.ob (R.ob + 1) w (((((w.setCell ⟨R.ob,a * 5,none⟩ (.int .i64 (a:Int))).setCell ⟨R.ob,a * 5 + 1,none⟩ (.int .i64 x.k)).setCell ⟨R.ob,a * 5 + 2,none⟩ (.int .i64 x.z)).setCell ⟨R.ob,a * 5 + 3,none⟩ (.int .i64 x.s)).setCell ⟨R.ob,a * 5 + 4,none⟩ (.int .i64 x.t)) :=
  ((((only_cell w R.ob _ _).trans (only_cell _ R.ob _ _)).trans (only_cell _ R.ob _ _)).trans (only_cell _ R.ob _ _)).trans (only_cell _ R.ob _ _)
 have h0:=h.objs.set ha (d:=0) (by omega) (a:Int)
 have h1:=h0.set ha (d:=1) (by omega) x.k
 have h2:=h1.set ha (d:=2) (by omega) x.z
 have h3:=h2.set ha (d:=3) (by omega) x.s
 have h4:=h3.set ha (d:=4) (by omega) x.t
 refine ⟨o,Nat.le_trans h.top ho.size,h.n1,h.n2,?_,?_,h.words.kept ho ?_,h.pages.kept ho ?_,h4.congr fun i hi d hd => ?_⟩
 ·exact (ho.block _ h.lts.1 (by have:=o.ro;omega)).trans h.head
 ·exact (ho.block _ h.lts.2.1 (by have:=o.to';omega)).trans h.thead
 ·have:=o.wo;omega
 ·have:=o.po;omega
 ·unfold St.ro setS St.sh updM
  dsimp only
  by_cases e:i=a
  ·subst e
   have hd5:d=0 ∨ d=1 ∨ d=2 ∨ d=3 ∨ d=4:=by omega
   rcases hd5 with rfl | rfl | rfl | rfl | rfl <;> simp
  ·have e2:¬((i:Int)=(a:Int)):=by omega
   simp [e,e2]
end
theorem clrW_one (W:Nat → Int) (a k:Nat):setW (clrW W a k) (a + k) 0=clrW W a (k + 1):=by
 funext j
 unfold setW clrW
 by_cases e:j=a + k
 ·rw [if_pos e,if_pos (by omega)]
 ·rw [if_neg e]
  by_cases e2:a ≤ j ∧ j < a + k
  ·rw [if_pos e2,if_pos (by omega)]
  ·rw [if_neg e2,if_neg (by omega)]
set_option maxHeartbeats 1600000 in
theorem rwipe_any (w:World) (R:RLay) (s:St) (h:RefAt w R s) (a k:Nat) (hak:a + k ≤ 64 * s.n) (Q:Ending → World → Prop)
 (hQ:∀ w',RefAt w' R { s with W:=clrW s.W a k } → Only R.wb (R.wb + 1) w w' → Q (.returned (.tuple #[])) w') :
 Calls Tryz.prog 118 #[.pointer (some ⟨R.rb,0,none⟩),.int .i64 (a:Int),.int .i64 (k:Int)] w Q:=by
 have HQ:=Lib.hid hQ
 have HR:=Lib.hid h
 have hn2:=h.n2
 obtain ⟨N,hN⟩:∃ N,64 * s.n=N:=⟨_,rfl⟩
 have HN:=Lib.hid hN
 have hNM:(N:Int) ≤ 262144:=by omega
 have hakI:(a:Int) + (k:Int) ≤ (N:Int):=by omega
 have ha0:(0:Int) ≤ (a:Int):=by omega
 have hk0:(0:Int) ≤ (k:Int):=by omega
 rw [hN] at hak
 clear h hQ hN
 go_enter Tryz.func118,Tryz.ntmps118
 go_wp2_with fail
 go_loopw [6] (fun y W => ∃ i:Nat,y=.int .i64 (i:Int) ∧ i ≤ k ∧ RefAt W R { s with W:=clrW s.W a i } ∧ Only R.wb (R.wb + 1) w W) (fun y _ => k + 1 - (intOf y).toNat)
 case atStart => exact ⟨0,rfl,Nat.zero_le _,by rw [clrW_zero];exact HR.out,Only.refl _ _ _⟩
 case round =>
  obtain ⟨i,rfl,hi,hr,ho⟩:=hrel
  have HO:=Lib.hid ho
  have HRR:=Lib.hid hr
  have hi0:(0:Int) ≤ (i:Int):=by omega
  have c0:=hr.c0
  obtain ⟨l1,l2,l3,l4,l5⟩:=hr.lts
  rw [show 64 * ({ s with W:=clrW s.W a i }:St).n=N from HN.out] at c0
  by_cases hlt:i < k
  ·have hiI:(i:Int) < (k:Int):=by omega
   obtain ⟨j,hj⟩:∃ j,a + i=j:=⟨_,rfl⟩
   have hjN:j < N:=by omega
   have hjI:(j:Int) < (N:Int):=by omega
   have hj0:(0:Int) ≤ (j:Int):=by omega
   have hji:(a:Int) + (i:Int)=(j:Int):=by omega
   have hjs:j < 64 * s.n:=by rw [HN.out];exact hjN
   have zc:=hr.word (i:=j) hjs
   have zf:=hr.words.frozen j
   have HS:Hid (RefAt (wr.setCell ⟨R.wb,j,none⟩ (.int .i64 0)) R { s with W:=clrW s.W a (i + 1) }):=Lib.hid (by
    have:=hr.setW (i:=j) hjs 0
    dsimp only at this
    rw [← hj,clrW_one] at this
    rw [← hj]
    exact this)
   clear hr ho hj hjs
   go_wp2_with fail
   exact ⟨⟨i + 1,by go_num,hlt,HS.out,HO.out.trans (only_cell _ _ _ _)⟩,by simp [intOf];omega⟩
  ·obtain rfl:k=i:=by omega
   clear hr ho
   go_wp2_with fail
   first | go_end0 | skip
   exact HQ.out _ HRR.out HO.out
end Go.Proofs.YtfbcdmhmpfijjaaGreatDoor
namespace Go.Proofs.YtfbcdmhmpfijjaaGreatDoor
open Go Go.RowKit
theorem Sp.wide_ge {z:Int} (h1:1 ≤ z) (h2:z ≤ 1024):z ≤ Sp.wide z:=by
 have hcl:=Sp.cls_in h1 h2
 unfold Sp.wide
 by_cases h8:Sp.cls z=8
 ·have e:Sp.pgs z=(z + 63) / 64:=by unfold Sp.pgs;rw [if_pos h8]
  have:=Sp.cls_8 h8
  rw [e,if_pos (by omega)]
  omega
 ·have e:Sp.pgs z=0:=by unfold Sp.pgs;rw [if_neg h8]
  rw [e,if_neg (by omega)]
  unfold Sp.cls at h8 ⊢
  repeat' split at h8
  all_goals first | omega | skip
  all_goals
   rename_i g0 _
   first
   | rw [if_neg g0]
   | skip
  all_goals
   repeat' split
   all_goals first | omega | (simp [Sp.cww,Sp.cw];omega)
set_option maxHeartbeats 800000 in
theorem rpeek_in (w:World) (R:RLay) (s:St) (h:RefAt w R s) (a:Nat) (ha:a < 64 * s.n) :
 Calls Tryz.prog 21 #[.pointer (some ⟨R.rb,0,none⟩),.int .i64 (a:Int)] w fun e w' => e=.returned (.tuple #[.int .i64 (s.W a),.bool true]) ∧ Still w w':=by
 have hn2:=h.n2
 have c0:=h.c0
 have l1:=h.lts.1
 have z0:=h.word ha
 obtain ⟨N,hN⟩:∃ N,64 * s.n=N:=⟨_,rfl⟩
 rw [hN] at c0
 have haI:(a:Int) < (N:Int):=by omega
 have ha0:(0:Int) ≤ (a:Int):=by omega
 generalize s.W a=y at *
 clear h hN
 go_enter Tryz.func21,Tryz.ntmps21
 go_wp2_with fail
 go_ret2
 exact ⟨rfl,Only.refl _ _ _⟩
set_option maxHeartbeats 800000 in
theorem rpeek_out (w:World) (R:RLay) (s:St) (h:RefAt w R s) (a:Int) (ha:a < 0 ∨ ((64 * s.n:Nat):Int) ≤ a) :
 Calls Tryz.prog 21 #[.pointer (some ⟨R.rb,0,none⟩),.int .i64 a] w fun e w' => e=.returned (.tuple #[.int .i64 0,.bool false]) ∧ Still w w':=by
 have c0:=h.c0
 have l1:=h.lts.1
 obtain ⟨N,hN⟩:∃ N,64 * s.n=N:=⟨_,rfl⟩
 rw [hN] at c0 ha
 clear h hN
 rcases ha with ha | ha
 ·go_enter Tryz.func21,Tryz.ntmps21
  go_wp2_with fail
  go_ret2
  exact ⟨rfl,Only.refl _ _ _⟩
 ·have hn:¬(a < 0):=by omega
  go_enter Tryz.func21,Tryz.ntmps21
  go_wp2_with fail
  go_ret2
  exact ⟨rfl,Only.refl _ _ _⟩
set_option maxHeartbeats 800000 in
theorem rpoke_in (w:World) (R:RLay) (s:St) (h:RefAt w R s) (a:Nat) (ha:a < 64 * s.n) (x:Int) (Q:Ending → World → Prop)
 (hQ:∀ w',RefAt w' R { s with W:=setW s.W a x } → Only R.lo R.hi w w' → Q (.returned (.bool true)) w') :
 Calls Tryz.prog 95 #[.pointer (some ⟨R.rb,0,none⟩),.int .i64 (a:Int),.int .i64 x] w Q:=by
 have HQ:=Lib.hid hQ
 have hn2:=h.n2
 have c0:=h.c0
 have l1:=h.lts.1
 have z0:=h.word ha
 have f0:=h.words.frozen a
 have wb1:=h.ok.wb1
 have HF:Hid (RefAt (w.setCell ⟨R.wb,a,none⟩ (.int .i64 x)) R { s with W:=setW s.W a x } ∧ Only R.lo R.hi w (w.setCell ⟨R.wb,a,none⟩ (.int .i64 x))):=Lib.hid ⟨h.setW ha x,(only_cell w R.wb a _).mono wb1.1 wb1.2⟩
 obtain ⟨N,hN⟩:∃ N,64 * s.n=N:=⟨_,rfl⟩
 rw [hN] at c0
 have haI:(a:Int) < (N:Int):=by omega
 have ha0:(0:Int) ≤ (a:Int):=by omega
 generalize s.W a=y at *
 clear h hN hQ
 go_enter Tryz.func95,Tryz.ntmps95
 go_wp2_with fail
 exact HQ.out _ HF.out.1 HF.out.2
set_option maxHeartbeats 800000 in
theorem rpoke_out (w:World) (R:RLay) (s:St) (h:RefAt w R s) (a x:Int) (ha:a < 0 ∨ ((64 * s.n:Nat):Int) ≤ a) :
 Calls Tryz.prog 95 #[.pointer (some ⟨R.rb,0,none⟩),.int .i64 a,.int .i64 x] w fun e w' => e=.returned (.bool false) ∧ Still w w':=by
 have c0:=h.c0
 have l1:=h.lts.1
 obtain ⟨N,hN⟩:∃ N,64 * s.n=N:=⟨_,rfl⟩
 rw [hN] at c0 ha
 clear h hN
 rcases ha with ha | ha
 ·go_enter Tryz.func95,Tryz.ntmps95
  go_wp2_with fail
  go_ret
  exact ⟨rfl,Only.refl _ _ _⟩
 ·have hn:¬(a < 0):=by omega
  go_enter Tryz.func95,Tryz.ntmps95
  go_wp2_with fail
  go_ret
  exact ⟨rfl,Only.refl _ _ _⟩
theorem chk_zero {s:St} {a:Int} (h:(s.chk a).1=0):∃ n:Nat,a=(n:Int) ∧ s.B 0 n=true ∧ s.chk a=(0,0):=by
 unfold St.chk at h ⊢
 cases hh:s.has a with
 | false => rw [hh,if_neg (by decide)] at h;cases h
 | true =>
  rw [hh,if_pos rfl] at h
  unfold St.has at hh
  rw [Bool.and_eq_true,decide_eq_true_eq] at hh
  obtain ⟨n,rfl⟩:=Int.eq_ofNat_of_zero_le hh.1
  refine ⟨n,rfl,hh.2,?_⟩
  by_cases e:s.W (n:Int).toNat=s.hd n
  ·rw [if_pos rfl,if_pos e]
  ·rw [if_neg e] at h;cases h
set_option maxRecDepth 100000 in
set_option maxHeartbeats 3200000 in
theorem rword_any (w:World) (R:RLay) (s:St) (h:RefAt w R s) (hs:s.RefOk) (a i:Int) :
 Calls Tryz.prog 105 #[.pointer (some ⟨R.rb,0,none⟩),.int .i64 a,.int .i64 i] w fun e w' => e=.returned (faultV (s.wrd a i).1 (s.wrd a i).2) ∧ Still w w':=by
 have HR:=Lib.hid (fun W (hW:Still w W) => h.still hW)
 have HCK:=Lib.hid (fun W (hW:Still w W) => rcheck_any W R s (h.still hW) hs a)
 have hn2:=h.n2
 by_cases h0:(s.chk a).1=0
 ·obtain ⟨n,rfl,hb,hc⟩:=chk_zero h0
  obtain ⟨r,hr⟩:∃ r,s.wrd (n:Int) i=r:=⟨_,rfl⟩
  have hw:s.wrd (n:Int) i=if i < 1 ∨ (s.sh n).z ≤ i then (23,0) else (0,0):=by unfold St.wrd;rw [if_pos h0]
  rw [hc] at HCK
  have hlt:=hs.lt hb
  have o2:=fun W hW => (HR.out W hW).objs.cell hlt (d:=2) (by omega)
  have e2:s.ro n 2=(s.sh n).z:=by unfold St.ro;rw [if_pos hb];rfl
  rw [e2] at o2
  have HO:=Lib.hid o2
  have HC2:=Lib.hid (fun W hW => (HR.out W hW).c2)
  obtain ⟨N,hN⟩:∃ N,64 * s.n=N:=⟨_,rfl⟩
  rw [hN] at HC2
  have hnI:(n:Int) < (N:Int):=by omega
  have hn0:(0:Int) ≤ (n:Int):=by omega
  rw [hw]
  generalize (s.sh n).z=z at *
  clear h hs h0 hb hc hr hw hN o2 e2
  dsimp only at HCK
  by_cases hi:i < 1
  ·rw [if_pos (.inl hi)]
   go_enter Tryz.func105,Tryz.ntmps105
   go_wp2_with fail
   refine (HCK.out _ ((Only.refl _ _ w).alloc _)).mono ?_
   rintro e w1 ⟨rfl,hs1⟩
   have hb:=still_new hs1
   have hlt1:=new_lt hs1
   have z0:=cell_of (v:=.int .i64 0) hb 0 rfl
   have z1:=cell_of (v:=.int .i64 0) hb 1 rfl
   have f0:=frozen_of hb 0
   have f1:=frozen_of hb 1
   have hst:Still w w1:=Still.trans ((Only.refl _ _ w).alloc _) hs1
   have HW:=Lib.hid hst
   clear hb hs1 hst
   go_wp2_with fail
   exact bodyPost_ret (v:=faultV 23 0) (by simp [results,Tryz.results105,go_sem, *]) rfl ⟨rfl,(((HW.out.setCell (p:=⟨w.heap.size,0,none⟩) (.inr (Nat.le_refl _)) _).setCell (p:=⟨w.heap.size,1,none⟩) (.inr (Nat.le_refl _)) _).alloc _)⟩
  ·have hd1:decide (i < 1)=false:=decide_eq_false hi
   by_cases hz:z ≤ i
   ·rw [if_pos (.inr hz)]
    go_enter Tryz.func105,Tryz.ntmps105
    go_wp2_with fail
    refine (HCK.out _ ((Only.refl _ _ w).alloc _)).mono ?_
    rintro e w1 ⟨rfl,hs1⟩
    have hb:=still_new hs1
    have hlt1:=new_lt hs1
    have z0:=cell_of (v:=.int .i64 0) hb 0 rfl
    have z1:=cell_of (v:=.int .i64 0) hb 1 rfl
    have f0:=frozen_of hb 0
    have f1:=frozen_of hb 1
    have hst:Still w w1:=Still.trans ((Only.refl _ _ w).alloc _) hs1
    have HW:=Lib.hid hst
    have o2:=HO.out _ hst
    have c2:=HC2.out _ hst
    obtain ⟨l1,_,_,_,l5⟩:=(HR.out _ hst).lts
    clear hb hs1 hst
    go_wp2_with fail
    exact bodyPost_ret (v:=faultV 23 0) (by simp [results,Tryz.results105,go_sem, *]) rfl ⟨rfl,(((HW.out.setCell (p:=⟨w.heap.size,0,none⟩) (.inr (Nat.le_refl _)) _).setCell (p:=⟨w.heap.size,1,none⟩) (.inr (Nat.le_refl _)) _).alloc _)⟩
   ·rw [if_neg (fun hh => hh.elim hi hz)]
    go_enter Tryz.func105,Tryz.ntmps105
    go_wp2_with fail
    refine (HCK.out _ ((Only.refl _ _ w).alloc _)).mono ?_
    rintro e w1 ⟨rfl,hs1⟩
    have hb:=still_new hs1
    have hlt1:=new_lt hs1
    have z0:=cell_of (v:=.int .i64 0) hb 0 rfl
    have z1:=cell_of (v:=.int .i64 0) hb 1 rfl
    have f0:=frozen_of hb 0
    have f1:=frozen_of hb 1
    have hst:Still w w1:=Still.trans ((Only.refl _ _ w).alloc _) hs1
    have HW:=Lib.hid hst
    have o2:=HO.out _ hst
    have c2:=HC2.out _ hst
    obtain ⟨l1,_,_,_,l5⟩:=(HR.out _ hst).lts
    clear hb hs1 hst
    go_wp2_with fail
    exact bodyPost_ret (v:=faultV 0 0) (by simp [results,Tryz.results105,go_sem, *]) rfl ⟨rfl,(((HW.out.setCell (p:=⟨w.heap.size,0,none⟩) (.inr (Nat.le_refl _)) _).setCell (p:=⟨w.heap.size,1,none⟩) (.inr (Nat.le_refl _)) _).alloc _)⟩
 ·have hw:s.wrd a i=s.chk a:=by unfold St.wrd;rw [if_neg h0]
  rw [hw]
  obtain ⟨⟨c1,c2⟩,hc⟩:∃ c,s.chk a=c:=⟨_,rfl⟩
  rw [hc] at h0 HCK ⊢
  dsimp only at h0 HCK ⊢
  have hb0:(c1 != 0)=true:=by simpa using h0
  clear h hs hc hw h0
  go_enter Tryz.func105,Tryz.ntmps105
  go_wp2_with fail
  refine (HCK.out _ ((Only.refl _ _ w).alloc _)).mono ?_
  rintro e w1 ⟨rfl,hs1⟩
  have hb:=still_new hs1
  have hlt1:=new_lt hs1
  have z0:=cell_of (v:=.int .i64 0) hb 0 rfl
  have z1:=cell_of (v:=.int .i64 0) hb 1 rfl
  have f0:=frozen_of hb 0
  have f1:=frozen_of hb 1
  have hst:Still w w1:=Still.trans ((Only.refl _ _ w).alloc _) hs1
  have HW:=Lib.hid hst
  clear hb hs1 hst
  go_wp2_with fail
  exact bodyPost_ret (v:=faultV c1 c2) (by simp [results,Tryz.results105,go_sem, *]) rfl ⟨rfl,(((HW.out.setCell (p:=⟨w.heap.size,0,none⟩) (.inr (Nat.le_refl _)) _).setCell (p:=⟨w.heap.size,1,none⟩) (.inr (Nat.le_refl _)) _).alloc _)⟩
end Go.Proofs.YtfbcdmhmpfijjaaGreatDoor
namespace Go.Proofs.YtfbcdmhmpfijjaaGreatDoor
open Go Go.RowKit
theorem wrd_zero {s:St} (hs:s.RefOk) {a i:Int} (h:(s.wrd a i).1=0):∃ n j:Nat,a=(n:Int) ∧ i=(j:Int) ∧ s.wrd (n:Int) (j:Int)=(0,0) ∧ n + j < 64 * s.n ∧ s.B 0 n=true:=by
 have h1:(s.chk a).1=0:=by
  by_cases e:(s.chk a).1=0
  ·exact e
  ·unfold St.wrd at h;rw [if_neg e] at h;exact h
 obtain ⟨n,rfl,hb,_⟩:=chk_zero h1
 have hw:s.wrd (n:Int) i=if i < 1 ∨ (s.sh n).z ≤ i then (23,0) else (0,0):=by unfold St.wrd;rw [if_pos h1]
 have hlt:=(hs.fine n hb).2.lt.1
 obtain ⟨_,_,_,_,z1,z2⟩:=(hs.fine n hb).1
 have hge:=Sp.wide_ge z1 z2
 by_cases e:i < 1 ∨ (s.sh n).z ≤ i
 ·rw [hw,if_pos e] at h;cases h
 ·obtain ⟨j,rfl⟩:=Int.eq_ofNat_of_zero_le (show 0 ≤ i by omega)
  rw [if_neg e] at hw
  exact ⟨n,j,rfl,rfl,hw,by omega,hb⟩
set_option maxHeartbeats 3200000 in
theorem rread_bad (w:World) (R:RLay) (s:St) (h:RefAt w R s) (a i:Int) (hf:s.RefOk) (hb:(s.wrd a i).1 ≠ 0) :
 Calls Tryz.prog 56 #[.pointer (some ⟨R.rb,0,none⟩),.int .i64 a,.int .i64 i] w fun e w' => e=.returned (.tuple #[.int .i64 0,faultV (s.wrd a i).1 (s.wrd a i).2]) ∧ Still w w':=by
 have HC:=Lib.hid (fun o => rword_any (w.alloc o) R s (h.alloc o) hf a i)
 have hlt:=h.lts.1
 obtain ⟨⟨r1,r2⟩,hr⟩:∃ r,s.wrd a i=r:=⟨_,rfl⟩
 rw [hr] at HC hb ⊢
 dsimp only at HC hb ⊢
 have hb0:(r1 != 0)=true:=by simpa using hb
 clear h hf hr hb
 go_enter Tryz.func56,Tryz.ntmps56
 go_wp2_with fail
 refine (HC.out _).mono ?_
 rintro e w1 ⟨rfl,hs⟩
 have hb:=still_new hs
 have hlt1:=new_lt hs
 have hz0:=cell_of (v:=.int .i64 0) hb 0 rfl
 have hz1:=cell_of (v:=.int .i64 0) hb 1 rfl
 have hf0:=frozen_of hb 0
 have hf1:=frozen_of hb 1
 have HW:=Lib.hid (Still.trans ((Only.refl _ _ w).alloc _:Still w _) hs)
 clear hb hs
 go_wp2
 go_region
 all_goals
  go_wp2
  exact bodyPost_ret (v:=.tuple #[.int .i64 0,faultV r1 r2]) (by simp [results,Tryz.results56,go_sem, *]) rfl ⟨rfl,by
   repeat first | exact HW.out | apply Only.drew | (refine Only.setCell ?_ (.inr (Nat.le_refl _)) _) | apply Only.alloc⟩
set_option maxHeartbeats 3200000 in
theorem rread_ok (w:World) (R:RLay) (s:St) (h:RefAt w R s) (a i:Nat) (hf:s.RefOk) (hb:s.wrd a i=(0,0)) (hin:a + i < 64 * s.n) :
 Calls Tryz.prog 56 #[.pointer (some ⟨R.rb,0,none⟩),.int .i64 (a:Int),.int .i64 (i:Int)] w fun e w' => e=.returned (.tuple #[.int .i64 (s.W (a + i)),faultV 0 0]) ∧ Still w w':=by
 have hn2:=h.n2
 have HC:=Lib.hid (fun o => rword_any (w.alloc o) R s (h.alloc o) hf a i)
 have HS:=Lib.hid h
 have hlt:=h.lts.1
 have hwlt:=h.words.lt
 rw [hb] at HC
 dsimp only at HC
 have hs0:(0:Int) ≤ (a:Int) + (i:Int):=by omega
 have hs1:(a:Int) + (i:Int) < ((64 * s.n:Nat):Int):=by omega
 have hs2:(a:Int) + (i:Int) ≤ 9223372036854775807:=by omega
 have hww:IntKind.i64.wrap ((a:Int) + (i:Int))=(a:Int) + (i:Int):=by rw [IntKind.wrap_i64];omega
 have htn:((a:Int) + (i:Int)).toNat=a + i:=by omega
 obtain ⟨N,hN⟩:∃ N,64 * s.n=N:=⟨_,rfl⟩
 have hcell:Hid (∀ w1,RefAt w1 R s → w1.cell? ⟨R.rb,0,none⟩=some (.slice (some ⟨R.wb,0,none⟩) N R.cw) ∧ w1.cell? ⟨R.wb,a + i,none⟩=some (.int .i64 (s.W (a + i)))):=Lib.hid fun w1 h1 => ⟨by rw [← hN];exact h1.c0,h1.word hin⟩
 rw [hN] at hs1
 generalize s.W (a + i)=x at *
 clear h hf hb hin hN hn2
 go_enter Tryz.func56,Tryz.ntmps56
 go_wp2_with fail
 refine (HC.out _).mono ?_
 rintro e w1 ⟨rfl,hs⟩
 have hb:=still_new hs
 have hlt1:=new_lt hs
 obtain ⟨hc0,hcw⟩:=hcell.out w1 ((HS.out.alloc _).still hs)
 have hl1:R.rb < w1.heap.size:=by omega
 have hl2:R.wb < w1.heap.size:=by omega
 have hz0:=cell_of (v:=.int .i64 0) hb 0 rfl
 have hz1:=cell_of (v:=.int .i64 0) hb 1 rfl
 have hf0:=frozen_of hb 0
 have hf1:=frozen_of hb 1
 have HW:=Lib.hid (Still.trans ((Only.refl _ _ w).alloc _:Still w _) hs)
 clear hb hs
 go_wp2
 all_goals
  exact bodyPost_ret (v:=.tuple #[.int .i64 x,faultV 0 0]) (by simp [results,Tryz.results56,go_sem, *]) rfl ⟨rfl,by
   repeat first | exact HW.out | apply Only.drew | (refine Only.setCell ?_ (.inr (Nat.le_refl _)) _) | apply Only.alloc⟩
set_option maxHeartbeats 3200000 in
theorem rwrite_bad (w:World) (R:RLay) (s:St) (h:RefAt w R s) (a i x:Int) (hf:s.RefOk) (hb:(s.wrd a i).1 ≠ 0) :
 Calls Tryz.prog 93 #[.pointer (some ⟨R.rb,0,none⟩),.int .i64 a,.int .i64 i,.int .i64 x] w fun e w' => e=.returned (faultV (s.wrd a i).1 (s.wrd a i).2) ∧ Still w w':=by
 have HC:=Lib.hid (fun o => rword_any (w.alloc o) R s (h.alloc o) hf a i)
 have hlt:=h.lts.1
 obtain ⟨⟨r1,r2⟩,hr⟩:∃ r,s.wrd a i=r:=⟨_,rfl⟩
 rw [hr] at HC hb ⊢
 dsimp only at HC hb ⊢
 have hb0:(r1 == 0)=false:=by simpa using hb
 clear h hf hr hb
 go_enter Tryz.func93,Tryz.ntmps93
 go_wp2_with fail
 refine (HC.out _).mono ?_
 rintro e w1 ⟨rfl,hs⟩
 have hb:=still_new hs
 have hlt1:=new_lt hs
 have hz0:=cell_of (v:=.int .i64 0) hb 0 rfl
 have hz1:=cell_of (v:=.int .i64 0) hb 1 rfl
 have hf0:=frozen_of hb 0
 have hf1:=frozen_of hb 1
 have HW:=Lib.hid (Still.trans ((Only.refl _ _ w).alloc _:Still w _) hs)
 clear hb hs
 go_wp2
 exact bodyPost_ret (v:=faultV r1 r2) (by simp [results,Tryz.results93,go_sem, *]) rfl ⟨rfl,by
  repeat first | exact HW.out | apply Only.drew | (refine Only.setCell ?_ (.inr (Nat.le_refl _)) _) | apply Only.alloc⟩
set_option maxHeartbeats 3200000 in
theorem rwrite_ok (w:World) (R:RLay) (s:St) (h:RefAt w R s) (a i:Nat) (x:Int) (hf:s.RefOk) (hb:s.wrd a i=(0,0)) (hin:a + i < 64 * s.n) (Q:Ending → World → Prop)
 (hQ:∀ w',RefAt w' R { s with W:=setW s.W (a + i) x } → Only R.lo R.hi w w' → Q (.returned (faultV 0 0)) w') :
 Calls Tryz.prog 93 #[.pointer (some ⟨R.rb,0,none⟩),.int .i64 (a:Int),.int .i64 (i:Int),.int .i64 x] w Q:=by
 have hn2:=h.n2
 have HC:=Lib.hid (fun o => rword_any (w.alloc o) R s (h.alloc o) hf a i)
 have HS:=Lib.hid h
 have HQ:=Lib.hid hQ
 have hlt:=h.lts.1
 have hwlt:=h.words.lt
 rw [hb] at HC
 dsimp only at HC
 have hs0:(0:Int) ≤ (a:Int) + (i:Int):=by omega
 have hs1:(a:Int) + (i:Int) < ((64 * s.n:Nat):Int):=by omega
 have hs2:(a:Int) + (i:Int) ≤ 9223372036854775807:=by omega
 obtain ⟨N,hN⟩:∃ N,64 * s.n=N:=⟨_,rfl⟩
 have hcell:Hid (∀ w1,RefAt w1 R s → w1.cell? ⟨R.rb,0,none⟩=some (.slice (some ⟨R.wb,0,none⟩) N R.cw) ∧ w1.cell? ⟨R.wb,a + i,none⟩=some (.int .i64 (s.W (a + i))) ∧ w1.frozen? ⟨R.wb,a + i,none⟩=false):=Lib.hid fun w1 h1 => ⟨by rw [← hN];exact h1.c0,h1.word hin,h1.words.frozen _⟩
 rw [hN] at hs1
 obtain ⟨y,hy⟩:∃ y,s.W (a + i)=y:=⟨_,rfl⟩
 rw [hy] at hcell
 clear h hf hb hN hn2 hy hQ
 go_enter Tryz.func93,Tryz.ntmps93
 go_wp2_with fail
 refine (HC.out _).mono ?_
 rintro e w1 ⟨rfl,hs⟩
 have hb:=still_new hs
 have hlt1:=new_lt hs
 have HS1:=Lib.hid ((HS.out.alloc _).still hs)
 obtain ⟨hc0,hcw,hfw⟩:=hcell.out w1 HS1.out
 have hl1:R.rb < w1.heap.size:=by omega
 have hl2:R.wb < w1.heap.size:=by omega
 have hz0:=cell_of (v:=.int .i64 0) hb 0 rfl
 have hz1:=cell_of (v:=.int .i64 0) hb 1 rfl
 have hf0:=frozen_of hb 0
 have hf1:=frozen_of hb 1
 have HW:=Lib.hid (Still.trans ((Only.refl _ _ w).alloc _:Still w _) hs)
 clear hb hs
 go_wp2
 have htop:R.hi ≤ w.heap.size:=HS.out.top
 refine bodyPost_ret (v:=faultV 0 0) (by simp [results,Tryz.results93,go_sem, *]) rfl (HQ.out _ ((((HS1.out.setW hin x).kept (only_cell _ w.heap.size 0 _) (.inl htop)).kept (only_cell _ w.heap.size 1 _) (.inl htop)).alloc _) ?_)
 refine ((((?_:Only R.lo R.hi w _).setCell (p:=⟨w.heap.size,0,none⟩) (.inr (Nat.le_refl _)) _).setCell (p:=⟨w.heap.size,1,none⟩) (.inr (Nat.le_refl _)) _).alloc _)
 exact (HW.out.any R.lo R.hi).trans ((only_cell w1 R.wb (a + i) (.int .i64 x)).mono HS.out.ok.wb1.1 HS.out.ok.wb1.2)
end Go.Proofs.YtfbcdmhmpfijjaaGreatDoor
