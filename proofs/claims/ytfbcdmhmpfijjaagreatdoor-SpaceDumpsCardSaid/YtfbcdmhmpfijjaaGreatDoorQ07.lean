/-
  The walks of space: Block, Check, word, Read, Write.
-/
import Derived.Test.YtfbcdmhmpfijjaaGreatDoorQ06
import Derived.Deep.RegionHeld3
set_option linter.unusedVariables false
set_option linter.unusedSimpArgs false
set_option linter.unusedSectionVars false
namespace Go.Proofs.YtfbcdmhmpfijjaaGreatDoor
open Go Go.RowKit Go.Maps
structure Sh where
 k:Int
 z:Int
 s:Int
 t:Int
def Sh.v (x:Sh):Value:=.agg #[.int .i64 x.k,.int .i64 x.z,.int .i64 x.s,.int .i64 x.t]
abbrev Sh.zero:Sh:=⟨0,0,0,0⟩
structure St where
 n:Nat
 W:Nat → Int
 P:Nat → Pg
 low:Nat
 B:Nat → Nat → Bool
 S:Int → Option Sh
 Q:Int → Option Int
 ser:Int
 room:Int
 acts:Nat
structure Lay where
 lo:Nat
 hi:Nat
 sb:Nat
 wb:Nat
 tlo:Nat
 thi:Nat
 tb:Nat
 pg:Nat
 cap:Nat
 sm:Nat
 qm:Nat
 ma:Nat → Nat
 mb:Nat → Nat
 m:Nat → Addr
def Lay.a (L:Lay):Nat → Nat
 | 0 => L.sb | 1 => L.wb | 2 => L.tlo | 3 => L.sm | 4 => L.qm | j + 5 => L.ma j
def Lay.b (L:Lay):Nat → Nat
 | 0 => L.sb + 1 | 1 => L.wb + 1 | 2 => L.thi | 3 => L.sm + 1 | 4 => L.qm + 1 | j + 5 => L.mb j
structure Lay.Ok (L:Lay):Prop where
 lo0:0 < L.lo
 inn:∀ i,i < 14 → L.lo ≤ L.a i ∧ L.a i < L.b i ∧ L.b i ≤ L.hi
 out:∀ i j,i < 14 → j < 14 → i ≠ j → L.b i ≤ L.a j ∨ L.b j ≤ L.a i
def wdCells (W:Nat → Int) (N:Nat):Array Value:=Array.ofFn (n:=N) fun j => .int .i64 (W j.val)
theorem wd_size (W:Nat → Int) (N:Nat):(wdCells W N).size=N:=Array.size_ofFn
theorem wd_at (W:Nat → Int) (N j:Nat) (h:j < N):(wdCells W N)[j]?=some (.int .i64 (W j)):=by
 unfold wdCells
 rw [Array.getElem?_ofFn]
 simp [h]
def setW (W:Nat → Int) (i:Nat) (v:Int):Nat → Int:=fun j => if j=i then v else W j
def clrW (W:Nat → Int) (i k:Nat):Nat → Int:=fun j => if i ≤ j ∧ j < i + k then 0 else W j
theorem wd_set (W:Nat → Int) (N i:Nat) (v:Int):(wdCells W N).setIfInBounds i (.int .i64 v)=wdCells (setW W i v) N:=by
 apply Array.ext_getElem?
 intro j
 by_cases hj:j < N
 ·rw [wd_at _ N j hj,Array.getElem?_setIfInBounds,wd_at W N j hj,wd_size]
  unfold setW
  by_cases h:i=j
  ·subst h;simp [hj]
  ·rw [if_neg h,if_neg (fun e => h e.symm)]
 ·rw [Array.getElem?_eq_none (by simp [wd_size];omega),Array.getElem?_eq_none (by simp [wd_size];omega)]
theorem clrW_zero (W:Nat → Int) (i:Nat):clrW W i 0=W:=by funext j;unfold clrW;rw [if_neg (by omega)]
theorem clrW_succ (W:Nat → Int) (i k:Nat):clrW (setW W i 0) (i + 1) k=clrW W i (k + 1):=by
 funext j
 unfold clrW setW
 by_cases hj:j=i
 ·rw [if_neg (by omega),if_pos hj,if_pos (by omega)]
 ·by_cases h:i + 1 ≤ j ∧ j < i + 1 + k
  ·rw [if_pos h,if_pos (by omega)]
  ·rw [if_neg h,if_neg hj,if_neg (by omega)]
def WordsAt (w:World) (wb N:Nat) (W:Nat → Int):Prop:=w.heap[wb]?=some (.cells (wdCells W N) 3 (0,0))
theorem WordsAt.cell {w:World} {wb N:Nat} {W:Nat → Int} (h:WordsAt w wb N W) (j:Nat) (hj:j < N):w.cell? ⟨wb,j,none⟩=some (.int .i64 (W j)):=by
 unfold WordsAt at h
 simp only [World.cell?,h]
 simp [wd_at W N j hj]
theorem WordsAt.frozen {w:World} {wb N:Nat} {W:Nat → Int} (h:WordsAt w wb N W) (j:Nat):w.frozen? ⟨wb,j,none⟩=false:=by
 unfold WordsAt at h
 simp [World.frozen?,h]
theorem WordsAt.lt {w:World} {wb N:Nat} {W:Nat → Int} (h:WordsAt w wb N W):wb < w.heap.size:=(Array.getElem?_eq_some_iff.1 h).1
theorem WordsAt.set {w:World} {wb N:Nat} {W:Nat → Int} (h:WordsAt w wb N W) (j:Nat) (v:Int):WordsAt (w.setCell ⟨wb,j,none⟩ (.int .i64 v)) wb N (setW W j v):=by
 unfold WordsAt at h ⊢
 simp only [World.setCell,Array.getElem?_modify,h,if_pos,Option.map_some,Option.isSome_none,Bool.false_eq_true,if_false]
 rw [wd_set]
theorem WordsAt.clear {wb N:Nat}:∀ (k i:Nat) {w:World} {W:Nat → Int},WordsAt w wb N W → WordsAt (w.setCells wb i (List.replicate k z64)) wb N (clrW W i k)
 | 0,i,w,W,h => by rw [clrW_zero];exact h
 | k + 1,i,w,W,h => by
  rw [List.replicate_succ]
  simp only [World.setCells]
  have:=WordsAt.clear k (i + 1) (h.set i 0)
  rw [clrW_succ] at this
  exact this
theorem WordsAt.kept {w w':World} {wb N:Nat} {W:Nat → Int} (h:WordsAt w wb N W) {lo hi:Nat} (ho:Only lo hi w w') (hb:wb < lo ∨ hi ≤ wb):WordsAt w' wb N W:=by
 unfold WordsAt at h ⊢
 rw [ho.block wb (Array.getElem?_eq_some_iff.1 h).1 hb];exact h
theorem Tryz.zeroI (w:World):(zeroValue 3).run Tryz.prog w=.ok (.int .i64 0) w:=by kernel_rfl
theorem WordsAt.run_clear {w:World} {wb N:Nat} {W:Nat → Int} (h:WordsAt w wb N W) (i k c:Nat) (hk:0 < k) (hN:i + k ≤ N) :
 (Builtin.clear_ #[27] 0 #[.slice (some ⟨wb,i,none⟩) k c]).run Tryz.prog w=.ok (.tuple #[]) (w.setCells wb i (List.replicate k z64)) :=
 Lib.run_clear_slice (P:=Tryz.prog) w 27 3 0 (.int .i64 0) Tryz.underlying27 Tryz.zeroI rfl rfl wb i k c hk
  (fun j hj => by rw [h.cell _ (by omega)];rfl) (fun j _ => h.frozen _)
theorem only_cell (w:World) (b o:Nat) (u:Value):Only b (b + 1) w (w.setCell ⟨b,o,none⟩ u):=(Only.refl b (b + 1) w).setCell (p:=⟨b,o,none⟩) (.inl ⟨Nat.le_refl _,Nat.lt_succ_self _⟩) u
def headCells (L:Lay) (s:St):Array Value :=
 #[.slice (some ⟨L.wb,0,none⟩) (64 * s.n) (64 * s.n),.pointer (some ⟨L.tb,0,none⟩),.pointer (some (L.m 0)),.pointer (some (L.m 1)),.pointer (some (L.m 2)),.pointer (some (L.m 3)),.pointer (some (L.m 4)),.pointer (some (L.m 5)),.pointer (some (L.m 6)),.pointer (some (L.m 7)),.pointer (some (L.m 8)),.map (some L.sm),.map (some L.qm),.int .i64 s.ser,.int .i64 s.room]
structure SpaceAt (w:World) (L:Lay) (s:St):Prop where
 ok:L.Ok
 top:L.hi ≤ w.heap.size
 n1:1 ≤ s.n
 n2:s.n ≤ 4096
 lowle:s.low ≤ s.n
 actsle:s.acts ≤ 1000000000000
 head:w.heap[L.sb]?=some (.cells (headCells L s) 84 (0,0))
 words:WordsAt w L.wb (64 * s.n) s.W
 table:∃ free,TableAt w L.tlo L.thi L.tb L.pg L.cap s.n s.P (s.low:Int) free
 shapes:MapIs w L.sm s.acts (fun x => (s.S x).map Sh.v)
 places:MapIs w L.qm s.acts (fun x => (s.Q x).map (.int .i64))
 maps:∀ j,j < 9 → IsMap w (L.ma j) (L.mb j) (L.m j) (64 * s.n) (s.B j)
 tab:Tab w
section
variable {w w':World} {L:Lay} {s:St} (h:SpaceAt w L s)
include h
theorem SpaceAt.c0:w.cell? ⟨L.sb,0,none⟩=some (.slice (some ⟨L.wb,0,none⟩) (64 * s.n) (64 * s.n)):=by simp [World.cell?,h.head,headCells]
theorem SpaceAt.c1:w.cell? ⟨L.sb,1,none⟩=some (.pointer (some ⟨L.tb,0,none⟩)):=by simp [World.cell?,h.head,headCells]
theorem SpaceAt.c2:w.cell? ⟨L.sb,2,none⟩=some (.pointer (some (L.m 0))):=by simp [World.cell?,h.head,headCells]
theorem SpaceAt.c3 (c:Nat) (hc:c < 8):w.cell? ⟨L.sb,3 + c,none⟩=some (.pointer (some (L.m (c + 1)))):=by
 have hc':c=0 ∨ c=1 ∨ c=2 ∨ c=3 ∨ c=4 ∨ c=5 ∨ c=6 ∨ c=7:=by omega
 rcases hc' with rfl | rfl | rfl | rfl | rfl | rfl | rfl | rfl <;> simp [World.cell?,h.head,headCells]
theorem SpaceAt.c11:w.cell? ⟨L.sb,11,none⟩=some (.map (some L.sm)):=by simp [World.cell?,h.head,headCells]
theorem SpaceAt.c12:w.cell? ⟨L.sb,12,none⟩=some (.map (some L.qm)):=by simp [World.cell?,h.head,headCells]
theorem SpaceAt.c13:w.cell? ⟨L.sb,13,none⟩=some (.int .i64 s.ser):=by simp [World.cell?,h.head,headCells]
theorem SpaceAt.c14:w.cell? ⟨L.sb,14,none⟩=some (.int .i64 s.room):=by simp [World.cell?,h.head,headCells]
theorem SpaceAt.f (j:Nat):w.frozen? ⟨L.sb,j,none⟩=false:=by simp [World.frozen?,h.head]
theorem SpaceAt.lt (i:Nat) (hi:i < 14):L.a i < w.heap.size:=by
 have:=h.ok.inn i hi;have:=h.top;omega
theorem SpaceAt.sblt:L.sb < w.heap.size:=h.lt 0 (by omega)
theorem SpaceAt.lo0:0 < w.heap.size:=by have:=h.sblt;omega
theorem SpaceAt.part {lo hi:Nat} (ho:Only lo hi w w') (hd:∀ i,i < 14 → L.b i ≤ lo ∨ hi ≤ L.a i) (hl:0 < lo):SpaceAt w' L s:=by
 have hlt:=fun i hi => h.lt i hi
 have inn:=h.ok.inn
 refine ⟨h.ok,Nat.le_trans h.top ho.size,h.n1,h.n2,h.lowle,h.actsle,?_,?_,?_,?_,?_,?_,h.tab.only ho hl⟩
 ·have a:=hd 0 (by omega);have b:=inn 0 (by omega)
  rw [ho.block L.sb h.sblt (by simp only [Lay.a,Lay.b] at a b;omega)];exact h.head
 ·have a:=hd 1 (by omega);have b:=inn 1 (by omega)
  exact h.words.kept ho (by simp only [Lay.a,Lay.b] at a b;omega)
 ·obtain ⟨free,ht⟩:=h.table
  exact ⟨free,ht.kept ho (hd 2 (by omega))⟩
 ·have a:=hd 3 (by omega);have b:=inn 3 (by omega)
  exact h.shapes.kept ho (by simp only [Lay.a,Lay.b] at a b;omega)
 ·have a:=hd 4 (by omega);have b:=inn 4 (by omega)
  exact h.places.kept ho (by simp only [Lay.a,Lay.b] at a b;omega)
 ·exact fun j hj => (h.maps j hj).kept ho (hd (j + 5) (by omega))
theorem SpaceAt.kept {lo hi:Nat} (ho:Only lo hi w w') (hd:L.hi ≤ lo ∨ hi ≤ L.lo) (hl:0 < lo):SpaceAt w' L s :=
 h.part ho (fun i hi' => by have:=h.ok.inn i hi';omega) hl
theorem SpaceAt.still (ho:Still w w'):SpaceAt w' L s:=h.kept ho (.inl h.top) h.lo0
theorem SpaceAt.drewN (n:Nat):SpaceAt (w.drewN n) L s:=h.still ((Only.refl _ _ w).drewN n)
theorem SpaceAt.alloc (o:Obj):SpaceAt (w.alloc o) L s:=h.still ((Only.refl _ _ w).alloc o)
theorem SpaceAt.updB (j:Nat) (hj:j < 9) {S:Nat → Bool} (ho:Only (L.ma j) (L.mb j) w w') (hm:IsMap w' (L.ma j) (L.mb j) (L.m j) (64 * s.n) S) :
 SpaceAt w' L { s with B:=fun k => if k=j then S else s.B k }:=by
 have inn:=h.ok.inn
 have hd:=fun i (hi:i < 14) (hne:i ≠ j + 5) => h.ok.out i (j + 5) hi (by omega) hne
 have hl:0 < L.ma j:=by have:=inn (j + 5) (by omega);have:=h.ok.lo0;simp only [Lay.a] at *;omega
 simp only [show L.a (j + 5)=L.ma j from rfl,show L.b (j + 5)=L.mb j from rfl] at hd
 refine ⟨h.ok,Nat.le_trans h.top ho.size,h.n1,h.n2,h.lowle,h.actsle,?_,?_,?_,?_,?_,?_,h.tab.only ho hl⟩
 ·have a:=hd 0 (by omega) (by omega);have b:=inn 0 (by omega)
  rw [ho.block L.sb h.sblt (by simp only [Lay.a,Lay.b] at a b;omega)];exact h.head
 ·have a:=hd 1 (by omega) (by omega);have b:=inn 1 (by omega)
  exact h.words.kept ho (by simp only [Lay.a,Lay.b] at a b;omega)
 ·obtain ⟨free,ht⟩:=h.table
  exact ⟨free,ht.kept ho (hd 2 (by omega) (by omega))⟩
 ·have a:=hd 3 (by omega) (by omega);have b:=inn 3 (by omega)
  exact h.shapes.kept ho (by simp only [Lay.a,Lay.b] at a b;omega)
 ·have a:=hd 4 (by omega) (by omega);have b:=inn 4 (by omega)
  exact h.places.kept ho (by simp only [Lay.a,Lay.b] at a b;omega)
 ·intro k hk
  by_cases hkj:k=j
  ·subst hkj;simpa using hm
  ·simp only [if_neg hkj]
   exact (h.maps k hk).kept ho (hd (k + 5) (by omega) (by omega))
theorem SpaceAt.updT {P:Nat → Pg} {low:Nat} {free:Int} (ho:Only L.tlo L.thi w w') (ht:TableAt w' L.tlo L.thi L.tb L.pg L.cap s.n P (low:Int) free) (hlow:low ≤ s.n) :
 SpaceAt w' L { s with P:=P,low:=low }:=by
 have inn:=h.ok.inn
 have hd:=fun i (hi:i < 14) (hne:i ≠ 2) => h.ok.out i 2 hi (by omega) hne
 have hl:0 < L.tlo:=by have:=inn 2 (by omega);have:=h.ok.lo0;simp only [Lay.a] at *;omega
 simp only [show L.a 2=L.tlo from rfl,show L.b 2=L.thi from rfl] at hd
 refine ⟨h.ok,Nat.le_trans h.top ho.size,h.n1,h.n2,hlow,h.actsle,?_,?_,⟨free,ht⟩,?_,?_,?_,h.tab.only ho hl⟩
 ·have a:=hd 0 (by omega) (by omega);have b:=inn 0 (by omega)
  rw [ho.block L.sb h.sblt (by simp only [Lay.a,Lay.b] at a b;omega)];exact h.head
 ·have a:=hd 1 (by omega) (by omega);have b:=inn 1 (by omega)
  exact h.words.kept ho (by simp only [Lay.a,Lay.b] at a b;omega)
 ·have a:=hd 3 (by omega) (by omega);have b:=inn 3 (by omega)
  exact h.shapes.kept ho (by simp only [Lay.a,Lay.b] at a b;omega)
 ·have a:=hd 4 (by omega) (by omega);have b:=inn 4 (by omega)
  exact h.places.kept ho (by simp only [Lay.a,Lay.b] at a b;omega)
 ·exact fun k hk => (h.maps k hk).kept ho (hd (k + 5) (by omega) (by omega))
theorem SpaceAt.updW {W:Nat → Int} (ho:Only L.wb (L.wb + 1) w w') (hw:WordsAt w' L.wb (64 * s.n) W):SpaceAt w' L { s with W:=W }:=by
 have inn:=h.ok.inn
 have hd:=fun i (hi:i < 14) (hne:i ≠ 1) => h.ok.out i 1 hi (by omega) hne
 have hl:0 < L.wb:=by have:=inn 1 (by omega);have:=h.ok.lo0;simp only [Lay.a] at *;omega
 simp only [show L.a 1=L.wb from rfl,show L.b 1=L.wb + 1 from rfl] at hd
 refine ⟨h.ok,Nat.le_trans h.top ho.size,h.n1,h.n2,h.lowle,h.actsle,?_,hw,?_,?_,?_,?_,h.tab.only ho hl⟩
 ·have a:=hd 0 (by omega) (by omega);have b:=inn 0 (by omega)
  rw [ho.block L.sb h.sblt (by simp only [Lay.a,Lay.b] at a b;omega)];exact h.head
 ·obtain ⟨free,ht⟩:=h.table
  exact ⟨free,ht.kept ho (hd 2 (by omega) (by omega))⟩
 ·have a:=hd 3 (by omega) (by omega);have b:=inn 3 (by omega)
  exact h.shapes.kept ho (by simp only [Lay.a,Lay.b] at a b;omega)
 ·have a:=hd 4 (by omega) (by omega);have b:=inn 4 (by omega)
  exact h.places.kept ho (by simp only [Lay.a,Lay.b] at a b;omega)
 ·exact fun k hk => (h.maps k hk).kept ho (hd (k + 5) (by omega) (by omega))
theorem SpaceAt.updS {S:Int → Option Sh} {m:Nat} (ho:Only L.sm (L.sm + 1) w w') (hs:MapIs w' L.sm m (fun x => (S x).map Sh.v)) (hm:m ≤ s.acts):SpaceAt w' L { s with S:=S }:=by
 have inn:=h.ok.inn
 have hd:=fun i (hi:i < 14) (hne:i ≠ 3) => h.ok.out i 3 hi (by omega) hne
 have hl:0 < L.sm:=by have:=inn 3 (by omega);have:=h.ok.lo0;simp only [Lay.a] at *;omega
 simp only [show L.a 3=L.sm from rfl,show L.b 3=L.sm + 1 from rfl] at hd
 refine ⟨h.ok,Nat.le_trans h.top ho.size,h.n1,h.n2,h.lowle,h.actsle,?_,?_,?_,?_,?_,?_,h.tab.only ho hl⟩
 ·have a:=hd 0 (by omega) (by omega);have b:=inn 0 (by omega)
  rw [ho.block L.sb h.sblt (by simp only [Lay.a,Lay.b] at a b;omega)];exact h.head
 ·have a:=hd 1 (by omega) (by omega);have b:=inn 1 (by omega)
  exact h.words.kept ho (by simp only [Lay.a,Lay.b] at a b;omega)
 ·obtain ⟨free,ht⟩:=h.table
  exact ⟨free,ht.kept ho (hd 2 (by omega) (by omega))⟩
 ·obtain ⟨D,hD,hf⟩:=hs
  exact ⟨D,hD.mono hm,hf⟩
 ·have a:=hd 4 (by omega) (by omega);have b:=inn 4 (by omega)
  exact h.places.kept ho (by simp only [Lay.a,Lay.b] at a b;omega)
 ·exact fun k hk => (h.maps k hk).kept ho (hd (k + 5) (by omega) (by omega))
theorem SpaceAt.updQ {Q:Int → Option Int} {m:Nat} (ho:Only L.qm (L.qm + 1) w w') (hs:MapIs w' L.qm m (fun x => (Q x).map (.int .i64))) (hm:m ≤ s.acts):SpaceAt w' L { s with Q:=Q }:=by
 have inn:=h.ok.inn
 have hd:=fun i (hi:i < 14) (hne:i ≠ 4) => h.ok.out i 4 hi (by omega) hne
 have hl:0 < L.qm:=by have:=inn 4 (by omega);have:=h.ok.lo0;simp only [Lay.a] at *;omega
 simp only [show L.a 4=L.qm from rfl,show L.b 4=L.qm + 1 from rfl] at hd
 refine ⟨h.ok,Nat.le_trans h.top ho.size,h.n1,h.n2,h.lowle,h.actsle,?_,?_,?_,?_,?_,?_,h.tab.only ho hl⟩
 ·have a:=hd 0 (by omega) (by omega);have b:=inn 0 (by omega)
  rw [ho.block L.sb h.sblt (by simp only [Lay.a,Lay.b] at a b;omega)];exact h.head
 ·have a:=hd 1 (by omega) (by omega);have b:=inn 1 (by omega)
  exact h.words.kept ho (by simp only [Lay.a,Lay.b] at a b;omega)
 ·obtain ⟨free,ht⟩:=h.table
  exact ⟨free,ht.kept ho (hd 2 (by omega) (by omega))⟩
 ·have a:=hd 3 (by omega) (by omega);have b:=inn 3 (by omega)
  exact h.shapes.kept ho (by simp only [Lay.a,Lay.b] at a b;omega)
 ·obtain ⟨D,hD,hf⟩:=hs
  exact ⟨D,hD.mono hm,hf⟩
 ·exact fun k hk => (h.maps k hk).kept ho (hd (k + 5) (by omega) (by omega))
theorem SpaceAt.mono {m:Nat} (hm:s.acts ≤ m) (hm2:m ≤ 1000000000000):SpaceAt w L { s with acts:=m } :=
 ⟨h.ok,h.top,h.n1,h.n2,h.lowle,hm2,h.head,h.words,h.table,by obtain ⟨D,hD,hf⟩:=h.shapes;exact ⟨D,hD.mono hm,hf⟩,by obtain ⟨D,hD,hf⟩:=h.places;exact ⟨D,hD.mono hm,hf⟩,h.maps,h.tab⟩
theorem SpaceAt.updH (ser room:Int) (ho:Only L.sb (L.sb + 1) w w') (hh:w'.heap[L.sb]?=some (.cells (headCells L { s with ser:=ser,room:=room }) 84 (0,0))):SpaceAt w' L { s with ser:=ser,room:=room }:=by
 have inn:=h.ok.inn
 have hd:=fun i (hi:i < 14) (hne:i ≠ 0) => h.ok.out i 0 hi (by omega) hne
 have hl:0 < L.sb:=by have:=inn 0 (by omega);have:=h.ok.lo0;simp only [Lay.a] at *;omega
 simp only [show L.a 0=L.sb from rfl,show L.b 0=L.sb + 1 from rfl] at hd
 refine ⟨h.ok,Nat.le_trans h.top ho.size,h.n1,h.n2,h.lowle,h.actsle,hh,?_,?_,?_,?_,?_,h.tab.only ho hl⟩
 ·have a:=hd 1 (by omega) (by omega);have b:=inn 1 (by omega)
  exact h.words.kept ho (by simp only [Lay.a,Lay.b] at a b;omega)
 ·obtain ⟨free,ht⟩:=h.table
  exact ⟨free,ht.kept ho (hd 2 (by omega) (by omega))⟩
 ·have a:=hd 3 (by omega) (by omega);have b:=inn 3 (by omega)
  exact h.shapes.kept ho (by simp only [Lay.a,Lay.b] at a b;omega)
 ·have a:=hd 4 (by omega) (by omega);have b:=inn 4 (by omega)
  exact h.places.kept ho (by simp only [Lay.a,Lay.b] at a b;omega)
 ·exact fun k hk => (h.maps k hk).kept ho (hd (k + 5) (by omega) (by omega))
theorem SpaceAt.setSer (x:Int):SpaceAt (w.setCell ⟨L.sb,13,none⟩ (.int .i64 x)) L { s with ser:=x } :=
 h.updH x s.room (only_cell w _ _ _) (by
  simp only [World.setCell,Array.getElem?_modify,h.head];simp [headCells])
theorem SpaceAt.setRoom (x:Int):SpaceAt (w.setCell ⟨L.sb,14,none⟩ (.int .i64 x)) L { s with room:=x } :=
 h.updH s.ser x (only_cell w _ _ _) (by
  simp only [World.setCell,Array.getElem?_modify,h.head];simp [headCells])
theorem SpaceAt.setWord (j:Nat) (v:Int):SpaceAt (w.setCell ⟨L.wb,j,none⟩ (.int .i64 v)) L { s with W:=setW s.W j v } :=
 h.updW (only_cell w _ _ _) (h.words.set j v)
theorem SpaceAt.clrWords (i k:Nat):SpaceAt (w.setCells L.wb i (List.replicate k z64)) L { s with W:=clrW s.W i k } :=
 h.updW (only_setCells ⟨Nat.le_refl _,Nat.lt_succ_self _⟩ _ _ _ (Only.refl _ _ _)) (h.words.clear k i)
theorem SpaceAt.only (i:Nat) (hi:i < 14) {a:World} (ho:Only (L.a i) (L.b i) a w'):Only L.lo L.hi a w':=by
 have:=h.ok.inn i hi
 exact ho.mono (by omega) (by omega)
end
end Go.Proofs.YtfbcdmhmpfijjaaGreatDoor
namespace Go.Proofs.YtfbcdmhmpfijjaaGreatDoor
open Go Go.RowKit
def Sp.wide (s:Int):Int:=if 0 < Sp.pgs s then Sp.pgs s * 64 else Sp.cww (Sp.cls s)
theorem Sp.pgs_le (s:Int):0 ≤ Sp.pgs s ∧ Sp.pgs s ≤ 16:=by
 unfold Sp.pgs
 split
 ·have:=Sp.cls_8 ‹_›;omega
 ·omega
theorem Sp.wide_le (s:Int):0 ≤ Sp.wide s ∧ Sp.wide s ≤ 1024:=by
 have h1:=Sp.pgs_le s
 have h2:=Sp.bks_le (Sp.cls s)
 unfold Sp.wide
 split <;> omega
set_option maxHeartbeats 800000 in
theorem peek_in (w:World) (L:Lay) (s:St) (h:SpaceAt w L s) (a:Nat) (ha:a < 64 * s.n) :
 Calls Tryz.prog 20 #[.pointer (some ⟨L.sb,0,none⟩),.int .i64 (a:Int)] w fun e w' => e=.returned (.tuple #[.int .i64 (s.W a),.bool true]) ∧ w=w':=by
 have hc0:=h.c0
 have hw:=h.words.cell a ha
 clear h
 generalize 64 * s.n=N at *
 generalize s.W a=x at *
 have hd1:decide ((a:Int) < 0)=false:=decide_eq_false (by omega)
 have hd2:decide ((N:Int) ≤ (a:Int))=false:=decide_eq_false (by omega)
 have hd3:decide (N ≤ a)=false:=decide_eq_false (by omega)
 have ha0:(0:Int) ≤ (a:Int):=by omega
 have ha1:(a:Int) < (N:Int):=by omega
 go_enter Tryz.func20,Tryz.ntmps20
 go_wp2
 go_ret2
 exact ⟨rfl,rfl⟩
set_option maxHeartbeats 800000 in
theorem peek_out (w:World) (L:Lay) (s:St) (h:SpaceAt w L s) (a:Int) (ha:a < 0 ∨ ((64 * s.n:Nat):Int) ≤ a) :
 Calls Tryz.prog 20 #[.pointer (some ⟨L.sb,0,none⟩),.int .i64 a] w fun e w' => e=.returned (.tuple #[.int .i64 0,.bool false]) ∧ w=w':=by
 have hc0:=h.c0
 clear h
 generalize 64 * s.n=N at *
 by_cases h1:a < 0
 ·have hd1:decide (a < 0)=true:=decide_eq_true h1
  clear ha
  go_enter Tryz.func20,Tryz.ntmps20
  go_wp2
  go_ret2
  exact ⟨rfl,rfl⟩
 ·have hd1:decide (a < 0)=false:=decide_eq_false h1
  have hd2:decide ((N:Int) ≤ a)=true:=decide_eq_true (by omega)
  clear ha h1
  go_enter Tryz.func20,Tryz.ntmps20
  go_wp2
  go_ret2
  exact ⟨rfl,rfl⟩
set_option maxHeartbeats 800000 in
theorem poke_in (w:World) (L:Lay) (s:St) (h:SpaceAt w L s) (a:Nat) (ha:a < 64 * s.n) (x:Int) (Q:Ending → World → Prop)
 (hQ:∀ w',SpaceAt w' L { s with W:=setW s.W a x } → Only L.lo L.hi w w' → Q (.returned (.bool true)) w') :
 Calls Tryz.prog 94 #[.pointer (some ⟨L.sb,0,none⟩),.int .i64 (a:Int),.int .i64 x] w Q:=by
 have hc0:=h.c0
 have hw:=h.words.cell a ha
 have hf:=h.words.frozen a
 have HQ:=Lib.hid (hQ _ (h.setWord a x) (h.only 1 (by omega) (only_cell w L.wb a (.int .i64 x))))
 clear h hQ
 generalize 64 * s.n=N at *
 generalize s.W a=y at *
 have hd1:decide ((a:Int) < 0)=false:=decide_eq_false (by omega)
 have hd2:decide ((N:Int) ≤ (a:Int))=false:=decide_eq_false (by omega)
 have hd3:decide (N ≤ a)=false:=decide_eq_false (by omega)
 have ha0:(0:Int) ≤ (a:Int):=by omega
 have ha1:(a:Int) < (N:Int):=by omega
 go_enter Tryz.func94,Tryz.ntmps94
 go_wp2
 exact HQ.out
set_option maxHeartbeats 800000 in
theorem poke_out (w:World) (L:Lay) (s:St) (h:SpaceAt w L s) (a x:Int) (ha:a < 0 ∨ ((64 * s.n:Nat):Int) ≤ a) :
 Calls Tryz.prog 94 #[.pointer (some ⟨L.sb,0,none⟩),.int .i64 a,.int .i64 x] w fun e w' => e=.returned (.bool false) ∧ w=w':=by
 have hc0:=h.c0
 clear h
 generalize 64 * s.n=N at *
 by_cases h1:a < 0
 ·have hd1:decide (a < 0)=true:=decide_eq_true h1
  clear ha
  go_enter Tryz.func94,Tryz.ntmps94
  go_wp2
  go_ret
  exact ⟨rfl,rfl⟩
 ·have hd1:decide (a < 0)=false:=decide_eq_false h1
  have hd2:decide ((N:Int) ≤ a)=true:=decide_eq_true (by omega)
  clear ha h1
  go_enter Tryz.func94,Tryz.ntmps94
  go_wp2
  go_ret
  exact ⟨rfl,rfl⟩
set_option maxHeartbeats 800000 in
theorem wide_any (z:Int) (w:World):Calls Tryz.prog 49 #[.int .i64 z] w fun e w' => e=.returned (.int .i64 (Sp.wide z)) ∧ Still w w':=by
 have hp:=Sp.pgs_le z
 have HP:=Lib.hid (fun w => pages_any z w)
 have HO:=Lib.hid (fun w => of_any z w)
 by_cases h0:0 < Sp.pgs z
 ·have hr:Sp.wide z=Sp.pgs z * 64:=by unfold Sp.wide;rw [if_pos h0]
  rw [hr];clear hr
  generalize Sp.pgs z=p at *
  go_enter Tryz.func49,Tryz.ntmps49
  go_wp2_with fail
  refine (HP.out _).mono ?_
  rintro e w1 ⟨rfl,hs⟩
  have HS:=Lib.hid hs;clear hs
  go_wp2
  go_ret
  exact ⟨rfl,HS.out⟩
 ·have hr:Sp.wide z=Sp.cww (Sp.cls z):=by unfold Sp.wide;rw [if_neg h0]
  rw [hr];clear hr
  have HC:=Lib.hid (fun w => cwords_any (Sp.cls z) w)
  generalize Sp.cww (Sp.cls z)=v at *
  generalize Sp.cls z=c at *
  obtain hp0:Sp.pgs z=0:=by omega
  rw [hp0] at HP
  clear h0 hp hp0
  go_enter Tryz.func49,Tryz.ntmps49
  go_wp2_with fail
  refine (HP.out _).mono ?_
  rintro e w1 ⟨rfl,hs⟩
  have HS:=Lib.hid hs;clear hs
  go_wp2_with fail
  refine (HO.out _).mono ?_
  rintro e w2 ⟨rfl,hs⟩
  have HS2:=Lib.hid hs;clear hs
  go_wp2_with fail
  refine (HC.out _).mono ?_
  rintro e w3 ⟨rfl,hs⟩
  have HS3:=Lib.hid hs;clear hs
  go_wp2
  go_ret
  exact ⟨rfl,HS.out.trans' (HS2.out.trans' HS3.out (.inl HS2.out.size) (.inr HS2.out.size)) (.inl HS.out.size) (.inr HS.out.size)⟩
def St.link (s:St) (c:Nat) (a:Int):Int:=Sp.lnk (Bm.next (s.B (c + 1)) (64 * s.n) (a + 1))
set_option maxHeartbeats 800000 in
theorem slink_any (w:World) (L:Lay) (s:St) (h:SpaceAt w L s) (c:Nat) (hc:c < 8) (a:Int) (ha:-1 ≤ a) (ha2:a ≤ 262144) :
 Calls Tryz.prog 80 #[.pointer (some ⟨L.sb,0,none⟩),.int .i64 (c:Int),.int .i64 a] w fun e w' => e=.returned (.int .i64 (s.link c a)) ∧ ∃ m,w'=w.drewN m:=by
 have hc3:=h.c3 c hc
 have hn2:=h.n2
 have HM:=Lib.hid (next_any _ _ _ _ _ (a + 1) w (h.maps (c + 1) (by omega)) h.tab (by omega))
 have hr:=Bm.next_spec (s.B (c + 1)) (64 * s.n) (a + 1)
 have hrg:-1 ≤ Bm.next (s.B (c + 1)) (64 * s.n) (a + 1) ∧ Bm.next (s.B (c + 1)) (64 * s.n) (a + 1) < 262144:=by
  rcases hr with ⟨h1,_⟩ | ⟨i,h1,h2,h3,_⟩ <;> omega
 clear hr
 unfold St.link
 generalize Bm.next (s.B (c + 1)) (64 * s.n) (a + 1)=x at *
 have HL:=Lib.hid (fun w => link_any x w hrg.1 hrg.2)
 clear h hrg
 generalize Sp.lnk x=y at *
 generalize L.m (c + 1)=p at *
 have hc0:(0:Int) ≤ (c:Int):=by omega
 have hc8:(c:Int) < 8:=by omega
 go_enter Tryz.func80,Tryz.ntmps80
 go_wp2_with fail
 refine HM.out.mono ?_
 rintro e w1 ⟨rfl,m,rfl⟩
 go_wp2_with fail
 refine (HL.out _).mono ?_
 rintro e w1 ⟨rfl,rfl⟩
 go_wp2
 go_ret
 exact ⟨rfl,m,rfl⟩
set_option maxHeartbeats 800000 in
theorem find_any (w:World) (L:Lay) (s:St) (h:SpaceAt w L s) (x:Int) (hx:(Lit.int .i64 x).wf=true) :
 Calls Tryz.prog 28 #[.pointer (some ⟨L.sb,0,none⟩),.int .i64 x] w fun e w' => e=.returned (.tuple #[.int .i64 ((s.Q x).getD 0),.bool (s.Q x).isSome]) ∧ w=w':=by
 have hc:=h.c12
 have hl:=h.places.look_ok Tryz.underlying80 (Tryz.zeroI w) hx
 have e1:(Option.map (Value.int IntKind.i64) (s.Q x)).getD (.int .i64 0)=.int .i64 ((s.Q x).getD 0):=by cases s.Q x <;> rfl
 have e2:(Option.map (Value.int IntKind.i64) (s.Q x)).isSome=(s.Q x).isSome:=by cases s.Q x <;> rfl
 rw [e1,e2] at hl
 clear h e1 e2
 generalize (s.Q x).getD 0=y at *
 generalize (s.Q x).isSome=b at *
 go_enter Tryz.func28,Tryz.ntmps28
 go_wp2
 go_ret2
 exact ⟨rfl,rfl⟩
end Go.Proofs.YtfbcdmhmpfijjaaGreatDoor
namespace Go.Proofs.YtfbcdmhmpfijjaaGreatDoor
open Go Go.RowKit
def St.has (s:St) (a:Int):Bool:=decide (0 ≤ a) && s.B 0 a.toNat
def St.sh (s:St) (a:Int):Sh:=(s.S a).getD Sh.zero
abbrev blockV (a:Int) (x:Sh):Value:=.agg #[.int .i64 a,.int .i64 x.k,.int .i64 x.z,.int .i64 x.s,.int .i64 x.t]
abbrev block0:Value:=.agg #[.int .i64 0,.int .i64 0,.int .i64 0,.int .i64 0,.int .i64 0]
abbrev faultV (e a:Int):Value:=.agg #[.int .i64 e,.int .i64 a]
theorem Tryz.zeroSh (w:World):(zeroValue 92).run Tryz.prog w=.ok (.agg #[.int .i64 0,.int .i64 0,.int .i64 0,.int .i64 0]) w:=by kernel_rfl
theorem SpaceAt.lookSh {w:World} {L:Lay} {s:St} (h:SpaceAt w L s) (a:Int) (ha:(Lit.int .i64 a).wf=true) :
 (Instr.lookup 79 (.map (some L.sm)) (.int .i64 a) false).run Tryz.prog w=.ok (.agg #[.int .i64 (s.sh a).k,.int .i64 (s.sh a).z,.int .i64 (s.sh a).s,.int .i64 (s.sh a).t]) w:=by
 have hl:=h.shapes.look Tryz.underlying79 (Tryz.zeroSh w) ha
 rw [hl]
 unfold St.sh
 cases s.S a <;> rfl
theorem SpaceAt.get {w:World} {L:Lay} {s:St} (h:SpaceAt w L s) (a:Int) {b:Bool} (hb:s.has a=b) :
 Calls Tryz.prog 103 #[.pointer (some (L.m 0)),.int .i64 a] w fun e w' => e=.returned (.bool b) ∧ w=w' :=
 get_any _ _ _ _ _ a w (h.maps 0 (by omega)) b hb.symm
set_option maxHeartbeats 800000 in
theorem block_no (w:World) (L:Lay) (s:St) (h:SpaceAt w L s) (a:Int) (hb:s.has a=false) :
 Calls Tryz.prog 53 #[.pointer (some ⟨L.sb,0,none⟩),.int .i64 a] w fun e w' => e=.returned (.tuple #[block0,.bool false]) ∧ Still w w':=by
 have HS:=Lib.hid h
 have hc:=h.c2
 have hlt:=h.sblt
 clear h
 have HB:=Lib.hid hb;clear hb
 go_enter Tryz.func53,Tryz.ntmps53
 go_wp2_with fail
 refine ((HS.out.alloc _).get a HB.out).mono ?_
 rintro e w1 ⟨rfl,rfl⟩
 go_wp2
 exact bodyPost_ret (v:=.tuple #[block0,.bool false]) (by simp [results,Tryz.results53,go_sem]) rfl ⟨rfl,(Only.refl _ _ w).alloc _⟩
set_option maxHeartbeats 1600000 in
theorem block_yes (w:World) (L:Lay) (s:St) (h:SpaceAt w L s) (a:Int) (ha:(Lit.int .i64 a).wf=true) (hb:s.has a=true) :
 Calls Tryz.prog 53 #[.pointer (some ⟨L.sb,0,none⟩),.int .i64 a] w fun e w' => e=.returned (.tuple #[blockV a (s.sh a),.bool true]) ∧ Still w w':=by
 have HS:=Lib.hid h
 have hc:=h.c2
 have hc11:=h.c11
 have hlt:=h.sblt
 clear h
 have HB:=Lib.hid hb;clear hb
 obtain ⟨⟨k,z,r,t⟩,hx⟩:∃ x,s.sh a=x:=⟨_,rfl⟩
 rw [hx]
 have HX:=Lib.hid hx;clear hx
 go_enter Tryz.func53,Tryz.ntmps53
 go_wp2_with fail
 refine ((HS.out.alloc _).get a HB.out).mono ?_
 rintro e w1 ⟨rfl,rfl⟩
 have hl:=(HS.out.alloc (.cells #[.int .i64 0,.int .i64 0,.int .i64 0,.int .i64 0,.int .i64 0] 95)).lookSh a ha
 rw [HX.out] at hl
 dsimp only at hl
 go_wp2
 exact bodyPost_ret (v:=.tuple #[blockV a ⟨k,z,r,t⟩,.bool true]) (by simp [results,Tryz.results53,go_sem]) rfl ⟨rfl,((Only.refl _ _ w).alloc _).alloc _⟩
def St.hd (s:St) (a:Int):Int:=Sp.hdr a (s.sh a).k (s.sh a).z
def St.FineAt (s:St) (a:Int):Prop:=0 ≤ a ∧ a < ((64 * s.n:Nat):Int) ∧ 1 ≤ (s.sh a).k ∧ (s.sh a).k ≤ 31 ∧ 1 ≤ (s.sh a).z ∧ (s.sh a).z ≤ 1024
set_option maxHeartbeats 800000 in
theorem check_no (w:World) (L:Lay) (s:St) (h:SpaceAt w L s) (a:Int) (hb:s.has a=false) :
 Calls Tryz.prog 58 #[.pointer (some ⟨L.sb,0,none⟩),.int .i64 a] w fun e w' => e=.returned (faultV 22 0) ∧ Still w w':=by
 have HS:=Lib.hid h
 have hc:=h.c2
 have hlt:=h.sblt
 clear h
 have HB:=Lib.hid hb;clear hb
 go_enter Tryz.func58,Tryz.ntmps58
 go_wp2_with fail
 refine ((HS.out.alloc _).get a HB.out).mono ?_
 rintro e w1 ⟨rfl,rfl⟩
 go_wp2
 exact bodyPost_ret (v:=faultV 22 0) (by simp [results,Tryz.results58,go_sem]) rfl ⟨rfl,(Only.refl _ _ w).alloc _⟩
set_option maxHeartbeats 1600000 in
theorem check_yes (w:World) (L:Lay) (s:St) (h:SpaceAt w L s) (a:Nat) (hb:s.has a=true) (hf:s.FineAt a) (r:Value) (hr:r=if s.W a=s.hd a then faultV 0 0 else faultV 21 a) :
 Calls Tryz.prog 58 #[.pointer (some ⟨L.sb,0,none⟩),.int .i64 (a:Int)] w fun e w' => e=.returned r ∧ Still w w':=by
 obtain ⟨f1,f2,f3,f4,f5,f6⟩:=hf
 have hn2:=h.n2
 have HS:=Lib.hid h
 have hc0:=h.c0
 have hc:=h.c2
 have hc11:=h.c11
 have hlt:=h.sblt
 have hw:=h.words.cell a (by omega)
 have hwlt:=h.words.lt
 clear h
 have HB:=Lib.hid hb;clear hb
 unfold St.hd at hr
 obtain ⟨⟨k,z,q,t⟩,hx⟩:∃ x,s.sh a=x:=⟨_,rfl⟩
 rw [hx] at f3 f4 f5 f6 hr
 dsimp only at f3 f4 f5 f6 hr
 have HX:=Lib.hid hx;clear hx
 have HMK:=Lib.hid (fun w => make_any a k z w f1 (by omega) f3 f4 f5 f6)
 generalize Sp.hdr a k z=hv at *
 have hN:(a:Int) < ((64 * s.n:Nat):Int):=f2
 have hwf:=wf_of (x:=(a:Int)) (by omega)
 clear f2
 generalize 64 * s.n=N at *
 by_cases he:s.W a=hv
 ·rw [if_pos he] at hr
  subst hr
  rw [he] at hw
  clear he
  go_enter Tryz.func58,Tryz.ntmps58
  go_wp2_with fail
  refine ((HS.out.alloc _).get a HB.out).mono ?_
  rintro e w1 ⟨rfl,rfl⟩
  have hl:=(HS.out.alloc (.cells #[.int .i64 0,.int .i64 0] 50)).lookSh a hwf
  rw [HX.out] at hl
  dsimp only at hl
  go_wp2_with fail
  go_quiet (((go_at_call 50;exact quiet_eq (HMK.out _))))
  go_wp2
  exact bodyPost_ret (v:=faultV 0 0) (by simp [results,Tryz.results58,go_sem]) rfl ⟨rfl,((((Only.refl _ _ w).alloc _).alloc _).drewN _).setCell (.inr (Nat.le_refl _)) _ |>.setCell (.inr (Nat.le_refl _)) _⟩
 ·rw [if_neg he] at hr
  subst hr
  have hbn:(s.W a == hv)=false:=beq_eq_false_iff_ne.2 he
  have hbn2:(s.W a != hv)=true:=by simp [bne,hbn]
  have HWF:=Lib.hid hwf;clear hwf
  generalize s.W a=wa at *
  clear he
  go_enter Tryz.func58,Tryz.ntmps58
  go_wp2_with fail
  refine ((HS.out.alloc _).get a HB.out).mono ?_
  rintro e w1 ⟨rfl,rfl⟩
  have hl:=(HS.out.alloc (.cells #[.int .i64 0,.int .i64 0] 50)).lookSh a HWF.out
  rw [HX.out] at hl
  dsimp only at hl
  go_wp2_with fail
  go_quiet (((go_at_call 50;exact quiet_eq (HMK.out _))))
  go_wp2
  exact bodyPost_ret (v:=faultV 21 a) (by simp [results,Tryz.results58,go_sem]) rfl ⟨rfl,((((Only.refl _ _ w).alloc _).alloc _).drewN _).setCell (.inr (Nat.le_refl _)) _ |>.setCell (.inr (Nat.le_refl _)) _⟩
end Go.Proofs.YtfbcdmhmpfijjaaGreatDoor
