/-
  The walks of markWords, markPages, markBlocks.
-/
import Derived.Laws.Rows
import Derived.Test.YtfbcdmhmpfijjaaGreatDoorQ26
import Derived.Test.YtfbcdmhmpfijjaaGreatDoorQ24
set_option linter.unusedVariables false
set_option linter.unusedSimpArgs false
set_option linter.unusedSectionVars false
namespace Go.Proofs.YtfbcdmhmpfijjaaGreatDoor
open Go Go.RowKit
theorem rowset {w:World} {base k:Nat} {e:TypeId} {g cap n:Nat} {xs:List Value} (h:w.ownsRow base e k (.slice (some ⟨g,0,none⟩) n cap) n xs) (j:Nat) (u:Value) :
 (w.setCell ⟨g,j,none⟩ u).ownsRow base e k (.slice (some ⟨g,0,none⟩) n cap) n (xs.set j u):=by
 obtain ⟨h1,h2⟩:=h
 refine ⟨by simpa using h1,?_⟩
 rcases h2 with ⟨hv,_⟩ | ⟨g',cap',cur,hv,hbg,hgg,hn,hm,hs,ht⟩
 ·cases hv
 ·injection hv with e1 e2 e3
  injection e1 with e1
  injection e1 with e1
  subst e1;subst e3
  refine .inr ⟨g,cap,cur.setIfInBounds j u,rfl,hbg,?_,hn,hm,by simpa using hs,?_⟩
  ·simp only [World.setCell,Array.getElem?_modify]
   simp [hgg]
  ·rw [← ht]
   simp only [Array.toList_setIfInBounds]
   rw [List.take_set]
def MkR (W0:World) (k:Nat) (l:Value) (n:Nat) (m:Int) (i:Nat) (W:World):Prop :=
 ∃ xs,W.ownsRow 0 (eT k) (ek k) l n xs ∧ (∀ j,j < i → xs[j * ek k + ed k]?=some (.int .i64 m)) ∧ Kf W0 (fun g => l.ownBlock=some g) W
theorem Kf.set {w W:World} {bl:Nat → Prop} (h:Kf w bl W) {p:Addr} (hp:bl p.block) (u:Value):Kf w bl (W.setCell p u) :=
 ⟨h.os,h.tape,h.output,by simpa [World.setCell] using h.size,fun g hg hn => (Below.heap_setCell _ _ _ _ (by rintro rfl;exact hn hp)).trans (h.block g hg hn)⟩
theorem mk_at {k n i d:Nat} (hi:i < n) (hd:d < k):i * k + d < n * k:=by
 have:=Nat.mul_le_mul_right k (show i + 1 ≤ n by omega)
 rw [Nat.add_mul,Nat.one_mul] at this
 omega
theorem set_same {xs:List Value} {a j:Nat} {u v:Value} (h:xs[j]?=some v) (hu:a=j → u=v):(xs.set a u)[j]?=some v:=by
 rw [List.getElem?_set]
 by_cases e:a=j
 ·rw [if_pos e,if_pos (by rw [e];exact (List.getElem?_eq_some_iff.1 h).1),hu e]
 ·rw [if_neg e];exact h
theorem own_form {w:World} {base:Nat} {e:TypeId} {size:Nat} {v:Value} {n:Nat} {xs:List Value} (h:w.ownsRow base e size v n xs):∃ a c,v=.slice a n c:=by
 rcases h.2 with ⟨rfl,rfl⟩ | ⟨g,cap,cur,rfl,_⟩
 ·exact ⟨_,_,rfl⟩
 ·exact ⟨_,_,rfl⟩
theorem mkr_cells {W0 W:World} {k n i:Nat} {al:Option Addr} {cl:Nat} {m:Int} (h:MkR W0 k (.slice al n cl) n m i W) (hi:i < n) :
 ∃ g,al=some ⟨g,0,none⟩ ∧ (∀ j,W.frozen? ⟨g,j,none⟩=false) ∧ g < W.heap.size ∧ ∀ d,d < ek k → ∃ u,W.cell? ⟨g,i * ek k + d,none⟩=some u:=by
 obtain ⟨xs,h1,_,_⟩:=h
 rcases h1.2 with ⟨e,rfl⟩ | ⟨g,cap,cur,hv,_,hg,_⟩
 ·omega
 ·injection hv with e1 _ _
  refine ⟨g,e1,fun j => frozen_of hg j,(Array.getElem?_eq_some_iff.1 hg).1,fun d hd => ?_⟩
  have hlt:=mk_at hi hd
  rw [← h1.1] at hlt
  have:=h1.cells (g:=g) (by rw [e1];rfl) (i * ek k + d) _ (List.getElem?_eq_getElem hlt)
  rw [add_at] at this
  exact ⟨_,this⟩
theorem mkS_start {pb:Nat} {h0 h1:Value} {qf:Nat → Nat} {k:Nat} {l:Value} {n:Nat} {W0:World} {own:Nat → Lb} {v:Nat → Value} {ls:Nat → List Value} {C:Nat} (hd:KHead W0 pb h0 h1 own v ls) (fc:KFacts W0 own ls qf C) (hsp:Spare W0 own qf k l) {m:Int} {W:World} (hW:MkR W0 k l n m n W) :
 MkS pb h0 h1 qf k l m n W0 own ls 0 C W (relab own l (Lf k m)) v ls:=by
 obtain ⟨xs,x1,x2,x3⟩:=hW
 have h':=hd.labS hsp (Lf k m)
 refine ⟨h'.kf x3 (fun g hg e => ⟨fun e2 => ?_,rfl⟩) fun g hg => Nat.lt_of_lt_of_le (h'.olt g hg) x3.size,fc.labS hsp _ x3,⟨x3.mono fun g _ e => .inr e,fun g hg => ?_⟩,rfl,fun _ _ _ => rfl,⟨⟨xs,x1,x2⟩,fun g hg => own_relab_at hg⟩⟩
 ·rw [own_relab_at e2] at e
  rcases e with e | e <;> cases e
 ·by_cases e:l.ownBlock=some g
  ·exact .inr (.inl e)
  ·rw [own_relab e] at hg;exact .inl hg
theorem Tryz.infoI5':(Tryz.prog.info? 3).map (fun i => (i.zero,i.size,i.bytes))=some (some (.int .i64 0),1,8):=by kernel_rfl
def pw:Nat → Nat
 | 0 => 1
 | e + 1 => pw e + pw e
theorem pw_le (e:Nat) (h:e < 7):1 ≤ pw e ∧ pw e ≤ 64:=by
 have:e=0 ∨ e=1 ∨ e=2 ∨ e=3 ∨ e=4 ∨ e=5 ∨ e=6:=by omega
 rcases this with rfl | rfl | rfl | rfl | rfl | rfl | rfl <;> decide
theorem far_run {t T:TypeId} {i:TypeInfo} {z:Value} {size bytes:Nat} (ht:Tryz.prog.underlying t=some (.slice T)) (hi:Tryz.prog.info? T=some i) (hz:i.zero=some z)
 (hsize:i.size=size) (hby:i.bytes=bytes) (hzs:z.cells.size=size) (hsz:0 < size) (hb40:bytes ≤ 40)
 (W:World) (far:Value) (n:Nat) (xs:List Value) (hown:W.ownsRow 0 T size far n xs) (hn:n ≤ 400000) (news:Array Value) (hl:news.size=size) (h1:∀ u ∈ news.toList,u.oneCell'=true) :
 ∃ far' W1,(Builtin.append_ #[t,t] t #[far,.slice (some ⟨W.heap.size,0,none⟩) 1 1]).run Tryz.prog (W.alloc (.cells news T))=.ok far' W1 ∧ W1.ownsRow 0 T size far' (n + 1) (xs ++ news.toList) ∧ Kf W (fun g => far.ownBlock=some g) W1 ∧
  (∀ g,far'.ownBlock=some g → far.ownBlock=some g ∨ W.heap.size ≤ g) ∧
  ∀ g cur,far.ownBlock=some g → W.heap[g]?=some (.cells cur T (0,0)) → ∃ cur',W1.heap[g]?=some (.cells cur' T (0,0)) ∧ cur'.size=cur.size ∧ ∀ j,j < cur.size → cur'[j]?=cur[j]? ∨ ∃ d,d < size ∧ j=n * size + d ∧ cur'[j]?=news.toList[d]?:=by
 obtain ⟨v',w',hr,h2,h3,h4,h5⟩:=append_over (P:=Tryz.prog) (W.alloc (.cells news T)) 0 t t T i z size bytes ht hi hz hsize hby hzs hsz far n xs (hown.alloc _) ⟨W.heap.size,0,none⟩ 1 news.toList (by rw [Array.length_toList,hl]) (fun j u hu => by
  rw [add_at]
  simp only [World.cell?,heap_alloc_new]
  rw [Array.getElem?_toList] at hu
  exact hu) h1 (by unfold maxLen;omega) (by
   have:(n + 1) * bytes ≤ 400001 * 40:=Nat.mul_le_mul (by omega) hb40
   omega) (Nat.zero_le _)
 refine ⟨v',w',hr,h2,⟨h3.os,h3.tape,h3.output,by have:=h3.size;rw [World.size_alloc] at this;omega,fun g hg hn => (h3.block g (by rw [World.size_alloc];omega) (fun e => hn e.symm)).trans (Below.heap_alloc _ _ _ hg)⟩,fun g hg => ?_,fun g cur hg hc => h5 g cur hg ((Below.heap_alloc _ _ _ (Array.getElem?_eq_some_iff.1 hc).1).trans hc)⟩
 rcases h4 with e | e
 ·rw [e] at hg;exact .inl hg
 ·rw [e] at hg
  injection hg with hg
  rw [World.size_alloc] at hg
  exact .inr (by omega)
theorem mkr_step0 {W0 W:World} {n i g cap:Nat} {m:Int} (h:MkR W0 0 (.slice (some ⟨g,0,none⟩) n cap) n m i W) (hi:i < n) :
 MkR W0 0 (.slice (some ⟨g,0,none⟩) n cap) n m (i + 1) (W.setCell ⟨g,i,none⟩ (.int .i64 m)):=by
 obtain ⟨xs,h1,h2,h3⟩:=h
 have hl:xs.length=n * 1:=h1.1
 refine ⟨(xs.set (i) (.int .i64 m)),rowset (h1) _ _,fun j hj => ?_,Kf.set (h3) (by rfl) _⟩
 have h2:j < i → xs[j * 1 + 0]?=some (.int .i64 m):=fun hj => h2 j hj
 show ((xs.set (i) (.int .i64 m)))[j * 1 + 0]?=_
 by_cases e:j=i
 ·subst e
  simp only [List.getElem?_set]
  rw [if_pos (by omega),if_pos (by omega)]
 ·have:=h2 (by omega)
  exact set_same (this) (fun e2 => absurd e2 (by omega))
set_option maxHeartbeats 1600000 in
theorem push2_0 {pb:Nat} {h0 h1:Value} {qf:Nat → Nat} {l:Value} {m:Int} {nl:Nat} {W0:World} {own0:Nat → Lb} {ls0:Nat → List Value} {d C:Nat} {W:World} {own:Nat → Lb} {v:Nat → Value} {ls:Nat → List Value}
 (h:MkS pb h0 h1 qf 0 l m nl W0 own0 ls0 d C W own v ls) {far:Value} {n:Nat} (hf:FullN W own 0 n far m) (hm1:1000003 ≤ m) (hm2:m ≤ 1000003 + (ls0 6).length) (hC:C ≤ 900000) :
 ∃ v1 W1 v2 W2,(∃ a n c,v1=.slice a n c) ∧ (∃ a n c,v2=.slice a n c) ∧ (Builtin.append_ #[42,42] 42 #[v 6,.slice (some ⟨W.heap.size,0,none⟩) 1 1]).run Tryz.prog (W.alloc (.cells #[far] 27))=.ok v1 W1 ∧
  (Builtin.append_ #[27,27] 27 #[v 9,.slice (some ⟨W1.heap.size,0,none⟩) 1 1]).run Tryz.prog ((W1.setCell ⟨pb,8,none⟩ v1).alloc (.cells #[.int .i64 m] 3))=.ok v2 W2 ∧
  (W1.cell? ⟨pb,8,none⟩=some (v 6) ∧ W1.cell? ⟨pb,11,none⟩=some (v 9) ∧ W1.frozen? ⟨pb,8,none⟩=false ∧ W1.frozen? ⟨pb,11,none⟩=false ∧ pb < W1.heap.size) ∧
  (W2.cell? ⟨pb,11,none⟩=some (v 9) ∧ W2.frozen? ⟨pb,11,none⟩=false ∧ pb < W2.heap.size) ∧
  ∃ own' v' ls',MkS pb h0 h1 qf 0 l m nl W0 own0 ls0 (d + 1) (C + 1) (W2.setCell ⟨pb,11,none⟩ v2) own' v' ls' ∧ FullN (W2.setCell ⟨pb,11,none⟩ v2) own' 0 n far m:=by
 have hcap:=h.fc.cap 0 (by decide)
 have hsg:=h.fc.sg 0 (by decide)
 have hfar1:far.oneCell'=true:=by
  obtain ⟨⟨ys,y1,_⟩,_⟩:=hf
  obtain ⟨a,n',c,e⟩:=own_slice y1
  rw [e];rfl
 obtain ⟨v1,W1,r1,⟨g1,g2⟩,p1,p2,p3⟩:=push_run (t:=42) Tryz.underlying42 Tryz.infoLI rfl (by decide) h.hd (j:=6) (by decide) rfl (by
  have:(ls 6).length ≤ C:=hcap
  omega) far hfar1
 obtain ⟨own1,eo⟩:∃ o,o=relab own v1 (Lhd 6):=⟨_,rfl⟩
 obtain ⟨v',ev⟩:∃ o,o=updF v 6 v1:=⟨_,rfl⟩
 obtain ⟨ls',el⟩:∃ o,o=updF ls 6 (ls 6 ++ [far]):=⟨_,rfl⟩
 have q1:=p1
 rw [← eo,← ev,← el] at q1
 have e9:v' 9=v 9:=by rw [ev,updF_ne _ _ (by decide)]
 have l9:ls' 9=ls 9:=by rw [el,updF_ne _ _ (by decide)]
 obtain ⟨v2,W2,r2,⟨g3,g4⟩,p4,p5,p6⟩:=push_run (t:=27) Tryz.underlying27 Tryz.infoI5' rfl (by decide) q1 (j:=9) (by decide) rfl (by
  rw [l9]
  have:(ls 9).length ≤ C:=by rw [show (ls 9).length=(ls 6).length from hsg];exact hcap
  omega) (.int .i64 m) rfl
 have hsz:(W1.setCell ⟨pb,2 + 6,none⟩ v1).heap.size=W1.heap.size:=by simp [World.setCell]
 rw [e9,hsz] at r2
 have hw1:W1.heap[pb]?=_:=g1.trans h.hd.head
 have hw2:W2.heap[pb]?=_:=g3.trans q1.head
 have f1:∃ a n c,v1=.slice a n c:=by
  have:=p1.rows 6 (by decide)
  rw [updF_eq] at this
  exact own_slice this
 have f2:∃ a n c,v2=.slice a n c:=by
  have:=p4.rows 9 (by decide)
  rw [updF_eq] at this
  exact own_slice this
 refine ⟨v1,W1,v2,W2,f1,f2,r1,r2,⟨cell_of hw1 8 rfl,cell_of hw1 11 rfl,frozen_of hw1 _,frozen_of hw1 _,g2⟩,⟨by rw [← e9];exact cell_of hw2 11 rfl,frozen_of hw2 _,g4⟩,?_⟩
 exact h.pushed (by decide) hf hm1 hm2 p1 p2 p3 eo ev el p4 p5 p6
set_option maxHeartbeats 1600000 in
theorem far_0 {pb:Nat} {h0 h1:Value} {qf:Nat → Nat} {l:Value} {m:Int} {nl:Nat} {W0:World} {own0:Nat → Lb} {ls0:Nat → List Value} {d C:Nat} {W:World} {own:Nat → Lb} {v:Nat → Value} {ls:Nat → List Value}
 (h:MkS pb h0 h1 qf 0 l m nl W0 own0 ls0 d C W own v ls) {far:Value} {n:Nat} (hf:FullN W own 0 n far m) (hn:n ≤ 400000) :
 ∃ far' W1,(Builtin.append_ #[27,27] 27 #[far,.slice (some ⟨W.heap.size,0,none⟩) 1 1]).run Tryz.prog (W.alloc (.cells #[.int .i64 m] 3))=.ok far' W1 ∧
  ∃ own',MkS pb h0 h1 qf 0 l m nl W0 own0 ls0 d C W1 own' v ls ∧ FullN W1 own' 0 (n + 1) far' m:=by
 obtain ⟨⟨xs,x1,x2⟩,x3⟩:=hf
 obtain ⟨i0,hi,hz0,hz1,hz2⟩:=info_parts Tryz.infoI5
 obtain ⟨far',W1,r,y1,y2,y3,y4⟩:=far_run (t:=27) Tryz.underlying27 hi hz0 hz1 hz2 rfl (by decide) (by decide) W far n xs x1 hn #[.int .i64 m] rfl (by
  intro u hu
  simp only [List.mem_cons,List.not_mem_nil,or_false] at hu
  rw [hu];rfl)
 exact ⟨far',W1,r,h.grown x1 x2 x3 rfl rfl y1 y2 y3 y4⟩
set_option maxRecDepth 100000 in
set_option maxHeartbeats 3200000 in
theorem markWords_any (W0:World) (pb:Nat) (h0 h1:Value) (own:Nat → Lb) (v:Nat → Value) (ls:Nat → List Value) (qf:Nat → Nat) (C:Nat) (hd:KHead W0 pb h0 h1 own v ls) (fc:KFacts W0 own ls qf C) (l:Value) (n:Nat) (xs:List Value)
 (hl:W0.ownsRow 0 3 1 l n xs) (hn:n ≤ 300000) (hsp:Spare W0 own qf 0 l) (hC:C + 8 ≤ 900000) (Q:Ending → World → Prop)
 (hQ:∀ W' own' v' ls',KHead W' pb h0 h1 own' v' ls' → KFacts W' own' ls' qf (C + 8) → KFrm W0 own l.ownBlock W' own' → (∀ j,j < 6 → ls' j=ls j) → Q (.returned (.tuple #[])) W') :
 Calls Tryz.prog 86 #[.pointer (some ⟨pb,2,none⟩),l] W0 Q:=by
 have HQ:=Lib.hid hQ
 have hC3:=fc.cap 0 (by decide)
 obtain ⟨S,hS⟩:∃ S,(ls 6).length=S:=⟨_,rfl⟩
 have hS2:(ls 9).length=S:=(fc.sg 0 (by decide)).trans hS
 have hSC:S ≤ C:=by rw [← hS];exact hC3
 have hS9:(S:Int) ≤ 900000:=by omega
 have hS0:(0:Int) ≤ (S:Int):=by omega
 have hr9:=hd.rows 9 (by decide)
 rw [hS2] at hr9
 obtain ⟨a9,p9,hv9⟩:=own_form hr9
 have c9:W0.cell? ⟨pb,11,none⟩=some (v 9):=hd.cell 9 (by decide)
 rw [hv9] at c9
 clear hv9
 have hpl:=hd.lt
 obtain ⟨al,cl,hlv⟩:=own_form hl
 have HST:Hid (∀ W,MkR W0 0 l n (1000003 + (S:Int)) n W → MkS pb h0 h1 qf 0 l (1000003 + (S:Int)) n W0 own ls 0 C W (relab own l (Lf 0 (1000003 + (S:Int)))) v ls):=Lib.hid fun W hW => mkS_start hd fc hsp hW
 have HSL:Hid ((ls 6).length=S):=Lib.hid hS
 have HL0:Hid (MkR W0 0 l n (1000003 + (S:Int)) 0 W0):=Lib.hid ⟨xs,hl,fun j hj => by omega,Kf.refl _ _⟩
 subst hlv
 have hn0:(n:Int) ≤ 300000:=by omega
 clear hl hd fc hsp hQ hr9 hS hS2 hC3
 go_enter Tryz.func86,Tryz.ntmps86
 go_wp2_with fail
 go_loopw [5] (fun y W => ∃ i:Nat,y=.int .i64 (i:Int) ∧ i ≤ n ∧ MkR W0 0 (.slice al n cl) n (1000003 + (S:Int)) i W) (fun y _ => n + 1 - (intOf y).toNat)
 case atStart => exact ⟨0,rfl,Nat.zero_le _,HL0.out⟩
 case round =>
  obtain ⟨i,rfl,hi,hmr⟩:=hrel
  have HMR:=Lib.hid hmr
  have hi0:(0:Int) ≤ (i:Int):=by omega
  by_cases hin:i < n
  ·have hiI:(i:Int) < (n:Int):=by omega
   obtain ⟨g,rfl,hfz,hgl,hcu⟩:=mkr_cells hmr hin
   obtain ⟨u0,hu0⟩:=hcu 0 (by decide)
   change wr.cell? ⟨g,i * 1 + 0,none⟩=some u0 at hu0
   rw [Nat.mul_one,Nat.add_zero] at hu0
   clear hmr hcu
   go_wp2_with fail
   exact ⟨⟨i + 1,by go_num,hin,mkr_step0 HMR.out hin⟩,by simp [intOf];omega⟩
  ·obtain rfl:i=n:=by omega
   have hms:=HST.out _ hmr
   have hms2:=hms.ml
   obtain ⟨v1,W1,v2,W2,⟨b1,b2,b3,rfl⟩,⟨b4,b5,b6,rfl⟩,r1,r2,⟨x1,x2,x3,x4,x5⟩,⟨x6,x7,x8⟩,own1,vv1,ls1,hm1,_⟩:=push2_0 hms hms2 (by omega) (by rw [HSL.out];omega) (by omega)
   have y1:wr.cell? ⟨pb,8,none⟩=some (v 6):=hms.hd.cell 6 (by decide)
   have y2:wr.cell? ⟨pb,11,none⟩=some (v 9):=hms.hd.cell 9 (by decide)
   have y5:=hms.hd.lt
   have HR1:=Lib.hid r1
   have HR2:=Lib.hid r2
   have HM1:=Lib.hid hm1
   clear hmr hms hms2 r1 r2 hm1
   go_wp2_with (first | (at_builtin;refine wpList_append_eq rfl _ _ 42 rfl _ _ _ _ rfl rfl HR1.out ?_) | (at_builtin;refine wpList_append_eq rfl _ _ 27 rfl _ _ _ _ rfl rfl HR2.out ?_))
   clear x1 x2 x3 x4 x5 x6 x7 x8 y1 y2 y5
   generalize W2.setCell ⟨pb,11,none⟩ (.slice b4 b5 b6)=wq at *
   clear HR1 HR2 HL0 HST HMR
   go_loopw [6] (fun y W => ∃ e:Nat,y=.int .i64 ((pw e:Nat):Int) ∧ e ≤ 7 ∧ ∃ own' v' ls',MkS pb h0 h1 qf 0 (.slice al i cl) (1000003 + (S:Int)) i W0 own ls (1 + e) (C + 1 + e) W own' v' ls') (fun y _ => 129 - (intOf y).toNat)
   case atStart => exact ⟨0,rfl,by omega,_,_,_,HM1.out⟩
   case round =>
    obtain ⟨e,rfl,he,own2,v2,ls2,hm2⟩:=hrel
    obtain ⟨p,hp⟩:∃ p,pw e=p:=⟨_,rfl⟩
    have HPW:=Lib.hid (And.intro hp he)
    by_cases he7:e < 7
    ·have hp2:=pw_le e he7
     rw [hp] at hp2
     have hp3:pw (e + 1)=p + p:=by show pw e + pw e=_;rw [hp]
     have HP3:=Lib.hid hp3
     rw [hp] at *
     obtain ⟨hp4,hp5⟩:=hp2
     have hpI:(p:Int) ≤ 64:=by omega
     have hp0:(1:Int) ≤ (p:Int):=by omega
     have HM2:=Lib.hid hm2
     clear hp hm2 hp3 HM1
     go_wp2_with fail
     go_loopw [7,8] (fun x y W => ∃ j:Nat,y=.int .i64 (j:Int) ∧ j ≤ p ∧ ∃ own',MkS pb h0 h1 qf 0 (.slice al i cl) (1000003 + (S:Int)) i W0 own ls (1 + e) (C + 1 + e) W own' v2 ls2 ∧ FullN W own' 0 (i + j) x (1000003 + (S:Int))) (fun _ y _ => p + 1 - (intOf y).toNat)
     case atStart => exact ⟨0,rfl,by omega,_,HM2.out,HM2.out.ml⟩
     case round =>
      obtain ⟨j,rfl,hj,own3,hm3,hf3⟩:=hrel
      have hj0:(0:Int) ≤ (j:Int):=by omega
      by_cases hjp:j < p
      ·have hjI:(j:Int) < (p:Int):=by omega
       obtain ⟨far',W5,r5,own5,hm5,hf5⟩:=far_0 hm3 hf3 (by omega)
       have HR5:=Lib.hid r5
       have HM5:=Lib.hid (And.intro hm5 hf5)
       clear hm3 hf3 r5 hm5 hf5
       go_wp2_with (first | (at_builtin;refine wpList_append_eq rfl _ _ 27 rfl _ _ _ _ rfl rfl HR5.out ?_))
       exact ⟨⟨j + 1,by go_num,hjp,_,HM5.out.1,HM5.out.2⟩,by simp [intOf];omega⟩
      ·obtain rfl:j=p:=by omega
       obtain ⟨v5,W5,v6,W6,⟨b1,b2,b3,rfl⟩,⟨b4,b5,b6,rfl⟩,r1,r2,⟨x1,x2,x3,x4,x5⟩,⟨x6,x7,x8⟩,own6,vv6,ls6,hm6,_⟩:=push2_0 hm3 hf3 (by omega) (by rw [HSL.out];omega) (by omega)
       have y1:wr.cell? ⟨pb,8,none⟩=some (v2 6):=hm3.hd.cell 6 (by decide)
       have y2:wr.cell? ⟨pb,11,none⟩=some (v2 9):=hm3.hd.cell 9 (by decide)
       have y5:=hm3.hd.lt
       obtain ⟨fa,fc,hfv⟩:∃ a c,u7=.slice a (i + j) c:=by
        obtain ⟨⟨ys,q1,_⟩,_⟩:=hf3
        exact own_form q1
       subst hfv
       have HR1:=Lib.hid r1
       have HR2:=Lib.hid r2
       have HM6:=Lib.hid hm6
       clear hm3 hf3 r1 r2 hm6
       go_wp2_with (first | (at_builtin;refine wpList_append_eq rfl _ _ 42 rfl _ _ _ _ rfl rfl HR1.out ?_) | (at_builtin;refine wpList_append_eq rfl _ _ 27 rfl _ _ _ _ rfl rfl HR2.out ?_))
       exact ⟨⟨e + 1,by rw [HP3.out];go_num,by omega,_,_,_,HM6.out⟩,by simp [intOf];omega⟩
    ·obtain rfl:e=7:=by omega
     obtain rfl:p=128:=by rw [← hp];rfl
     rw [hp]
     have HM2:=Lib.hid hm2
     clear hm2 hp HM1
     go_wp2_with fail
     first | go_end0 | skip
     have h:=HM2.out
     exact HQ.out _ _ _ _ h.hd h.fc h.fr fun j hj => h.eq j (by omega) (by omega)
theorem mkr_step1 {W0 W:World} {n i g cap:Nat} {m:Int} (h:MkR W0 1 (.slice (some ⟨g,0,none⟩) n cap) n m i W) (hi:i < n) :
 MkR W0 1 (.slice (some ⟨g,0,none⟩) n cap) n m (i + 1) (((W.setCell ⟨g,i * 3,none⟩ (.int .i64 m)).setCell ⟨g,i * 3 + 1,none⟩ (.int .i64 0)).setCell ⟨g,i * 3 + 2,none⟩ (.int .i64 0)):=by
 obtain ⟨xs,h1,h2,h3⟩:=h
 have hl:xs.length=n * 3:=h1.1
 refine ⟨(((xs.set (i * 3) (.int .i64 m)).set (i * 3 + 1) (.int .i64 0)).set (i * 3 + 2) (.int .i64 0)),rowset (rowset (rowset (h1) _ _) _ _) _ _,fun j hj => ?_,Kf.set (Kf.set (Kf.set (h3) (by rfl) _) (by rfl) _) (by rfl) _⟩
 have h2:j < i → xs[j * 3 + 0]?=some (.int .i64 m):=fun hj => h2 j hj
 show ((((xs.set (i * 3) (.int .i64 m)).set (i * 3 + 1) (.int .i64 0)).set (i * 3 + 2) (.int .i64 0)))[j * 3 + 0]?=_
 by_cases e:j=i
 ·subst e
  simp only [List.getElem?_set,List.length_set]
  simp [hl]
  omega
 ·have:=h2 (by omega)
  exact set_same (set_same (set_same (this) (fun e2 => absurd e2 (by omega))) (fun e2 => absurd e2 (by omega))) (fun e2 => absurd e2 (by omega))
set_option maxHeartbeats 1600000 in
theorem push2_1 {pb:Nat} {h0 h1:Value} {qf:Nat → Nat} {l:Value} {m:Int} {nl:Nat} {W0:World} {own0:Nat → Lb} {ls0:Nat → List Value} {d C:Nat} {W:World} {own:Nat → Lb} {v:Nat → Value} {ls:Nat → List Value}
 (h:MkS pb h0 h1 qf 1 l m nl W0 own0 ls0 d C W own v ls) {far:Value} {n:Nat} (hf:FullN W own 1 n far m) (hm1:1000003 ≤ m) (hm2:m ≤ 1000003 + (ls0 7).length) (hC:C ≤ 900000) :
 ∃ v1 W1 v2 W2,(∃ a n c,v1=.slice a n c) ∧ (∃ a n c,v2=.slice a n c) ∧ (Builtin.append_ #[43,43] 43 #[v 7,.slice (some ⟨W.heap.size,0,none⟩) 1 1]).run Tryz.prog (W.alloc (.cells #[far] 70))=.ok v1 W1 ∧
  (Builtin.append_ #[27,27] 27 #[v 10,.slice (some ⟨W1.heap.size,0,none⟩) 1 1]).run Tryz.prog ((W1.setCell ⟨pb,9,none⟩ v1).alloc (.cells #[.int .i64 m] 3))=.ok v2 W2 ∧
  (W1.cell? ⟨pb,9,none⟩=some (v 7) ∧ W1.cell? ⟨pb,12,none⟩=some (v 10) ∧ W1.frozen? ⟨pb,9,none⟩=false ∧ W1.frozen? ⟨pb,12,none⟩=false ∧ pb < W1.heap.size) ∧
  (W2.cell? ⟨pb,12,none⟩=some (v 10) ∧ W2.frozen? ⟨pb,12,none⟩=false ∧ pb < W2.heap.size) ∧
  ∃ own' v' ls',MkS pb h0 h1 qf 1 l m nl W0 own0 ls0 (d + 1) (C + 1) (W2.setCell ⟨pb,12,none⟩ v2) own' v' ls' ∧ FullN (W2.setCell ⟨pb,12,none⟩ v2) own' 1 n far m:=by
 have hcap:=h.fc.cap 1 (by decide)
 have hsg:=h.fc.sg 1 (by decide)
 have hfar1:far.oneCell'=true:=by
  obtain ⟨⟨ys,y1,_⟩,_⟩:=hf
  obtain ⟨a,n',c,e⟩:=own_slice y1
  rw [e];rfl
 obtain ⟨v1,W1,r1,⟨g1,g2⟩,p1,p2,p3⟩:=push_run (t:=43) Tryz.underlying43 Tryz.infoLP rfl (by decide) h.hd (j:=7) (by decide) rfl (by
  have:(ls 7).length ≤ C:=hcap
  omega) far hfar1
 obtain ⟨own1,eo⟩:∃ o,o=relab own v1 (Lhd 7):=⟨_,rfl⟩
 obtain ⟨v',ev⟩:∃ o,o=updF v 7 v1:=⟨_,rfl⟩
 obtain ⟨ls',el⟩:∃ o,o=updF ls 7 (ls 7 ++ [far]):=⟨_,rfl⟩
 have q1:=p1
 rw [← eo,← ev,← el] at q1
 have e9:v' 10=v 10:=by rw [ev,updF_ne _ _ (by decide)]
 have l9:ls' 10=ls 10:=by rw [el,updF_ne _ _ (by decide)]
 obtain ⟨v2,W2,r2,⟨g3,g4⟩,p4,p5,p6⟩:=push_run (t:=27) Tryz.underlying27 Tryz.infoI5' rfl (by decide) q1 (j:=10) (by decide) rfl (by
  rw [l9]
  have:(ls 10).length ≤ C:=by rw [show (ls 10).length=(ls 7).length from hsg];exact hcap
  omega) (.int .i64 m) rfl
 have hsz:(W1.setCell ⟨pb,2 + 7,none⟩ v1).heap.size=W1.heap.size:=by simp [World.setCell]
 rw [e9,hsz] at r2
 have hw1:W1.heap[pb]?=_:=g1.trans h.hd.head
 have hw2:W2.heap[pb]?=_:=g3.trans q1.head
 have f1:∃ a n c,v1=.slice a n c:=by
  have:=p1.rows 7 (by decide)
  rw [updF_eq] at this
  exact own_slice this
 have f2:∃ a n c,v2=.slice a n c:=by
  have:=p4.rows 10 (by decide)
  rw [updF_eq] at this
  exact own_slice this
 refine ⟨v1,W1,v2,W2,f1,f2,r1,r2,⟨cell_of hw1 9 rfl,cell_of hw1 12 rfl,frozen_of hw1 _,frozen_of hw1 _,g2⟩,⟨by rw [← e9];exact cell_of hw2 12 rfl,frozen_of hw2 _,g4⟩,?_⟩
 exact h.pushed (by decide) hf hm1 hm2 p1 p2 p3 eo ev el p4 p5 p6
set_option maxHeartbeats 1600000 in
theorem far_1 {pb:Nat} {h0 h1:Value} {qf:Nat → Nat} {l:Value} {m:Int} {nl:Nat} {W0:World} {own0:Nat → Lb} {ls0:Nat → List Value} {d C:Nat} {W:World} {own:Nat → Lb} {v:Nat → Value} {ls:Nat → List Value}
 (h:MkS pb h0 h1 qf 1 l m nl W0 own0 ls0 d C W own v ls) {far:Value} {n:Nat} (hf:FullN W own 1 n far m) (hn:n ≤ 400000) :
 ∃ far' W1,(Builtin.append_ #[70,70] 70 #[far,.slice (some ⟨W.heap.size,0,none⟩) 1 1]).run Tryz.prog (W.alloc (.cells #[.int .i64 m,.int .i64 0,.int .i64 0] 146))=.ok far' W1 ∧
  ∃ own',MkS pb h0 h1 qf 1 l m nl W0 own0 ls0 d C W1 own' v ls ∧ FullN W1 own' 1 (n + 1) far' m:=by
 obtain ⟨⟨xs,x1,x2⟩,x3⟩:=hf
 obtain ⟨i0,hi,hz0,hz1,hz2⟩:=info_parts Tryz.infoPg
 obtain ⟨far',W1,r,y1,y2,y3,y4⟩:=far_run (t:=70) Tryz.underlying70 hi hz0 hz1 hz2 rfl (by decide) (by decide) W far n xs x1 hn #[.int .i64 m,.int .i64 0,.int .i64 0] rfl (by
  intro u hu
  simp only [List.mem_cons,List.not_mem_nil,or_false] at hu
  rcases hu with rfl | rfl | rfl <;> rfl)
 exact ⟨far',W1,r,h.grown x1 x2 x3 rfl rfl y1 y2 y3 y4⟩
set_option maxRecDepth 100000 in
set_option maxHeartbeats 3200000 in
theorem markPages_any (W0:World) (pb:Nat) (h0 h1:Value) (own:Nat → Lb) (v:Nat → Value) (ls:Nat → List Value) (qf:Nat → Nat) (C:Nat) (hd:KHead W0 pb h0 h1 own v ls) (fc:KFacts W0 own ls qf C) (l:Value) (n:Nat) (xs:List Value)
 (hl:W0.ownsRow 0 146 3 l n xs) (hn:n ≤ 300000) (hsp:Spare W0 own qf 1 l) (hC:C + 8 ≤ 900000) (Q:Ending → World → Prop)
 (hQ:∀ W' own' v' ls',KHead W' pb h0 h1 own' v' ls' → KFacts W' own' ls' qf (C + 8) → KFrm W0 own l.ownBlock W' own' → (∀ j,j < 6 → ls' j=ls j) → Q (.returned (.tuple #[])) W') :
 Calls Tryz.prog 87 #[.pointer (some ⟨pb,2,none⟩),l] W0 Q:=by
 have HQ:=Lib.hid hQ
 have hC3:=fc.cap 1 (by decide)
 obtain ⟨S,hS⟩:∃ S,(ls 7).length=S:=⟨_,rfl⟩
 have hS2:(ls 10).length=S:=(fc.sg 1 (by decide)).trans hS
 have hSC:S ≤ C:=by rw [← hS];exact hC3
 have hS9:(S:Int) ≤ 900000:=by omega
 have hS0:(0:Int) ≤ (S:Int):=by omega
 have hr9:=hd.rows 10 (by decide)
 rw [hS2] at hr9
 obtain ⟨a9,p9,hv9⟩:=own_form hr9
 have c9:W0.cell? ⟨pb,12,none⟩=some (v 10):=hd.cell 10 (by decide)
 rw [hv9] at c9
 clear hv9
 have hpl:=hd.lt
 obtain ⟨al,cl,hlv⟩:=own_form hl
 have HST:Hid (∀ W,MkR W0 1 l n (1000003 + (S:Int)) n W → MkS pb h0 h1 qf 1 l (1000003 + (S:Int)) n W0 own ls 0 C W (relab own l (Lf 1 (1000003 + (S:Int)))) v ls):=Lib.hid fun W hW => mkS_start hd fc hsp hW
 have HSL:Hid ((ls 7).length=S):=Lib.hid hS
 have HL0:Hid (MkR W0 1 l n (1000003 + (S:Int)) 0 W0):=Lib.hid ⟨xs,hl,fun j hj => by omega,Kf.refl _ _⟩
 subst hlv
 have hn0:(n:Int) ≤ 300000:=by omega
 clear hl hd fc hsp hQ hr9 hS hS2 hC3
 go_enter Tryz.func87,Tryz.ntmps87
 go_wp2_with fail
 go_loopw [5] (fun y W => ∃ i:Nat,y=.int .i64 (i:Int) ∧ i ≤ n ∧ MkR W0 1 (.slice al n cl) n (1000003 + (S:Int)) i W) (fun y _ => n + 1 - (intOf y).toNat)
 case atStart => exact ⟨0,rfl,Nat.zero_le _,HL0.out⟩
 case round =>
  obtain ⟨i,rfl,hi,hmr⟩:=hrel
  have HMR:=Lib.hid hmr
  have hi0:(0:Int) ≤ (i:Int):=by omega
  by_cases hin:i < n
  ·have hiI:(i:Int) < (n:Int):=by omega
   obtain ⟨g,rfl,hfz,hgl,hcu⟩:=mkr_cells hmr hin
   obtain ⟨u0,hu0⟩:=hcu 0 (by decide)
   change wr.cell? ⟨g,i * 3 + 0,none⟩=some u0 at hu0
   obtain ⟨u1,hu1⟩:=hcu 1 (by decide)
   change wr.cell? ⟨g,i * 3 + 1,none⟩=some u1 at hu1
   obtain ⟨u2,hu2⟩:=hcu 2 (by decide)
   change wr.cell? ⟨g,i * 3 + 2,none⟩=some u2 at hu2
   rw [Nat.add_zero] at hu0
   clear hmr hcu
   go_wp2_with fail
   exact ⟨⟨i + 1,by go_num,hin,mkr_step1 HMR.out hin⟩,by simp [intOf];omega⟩
  ·obtain rfl:i=n:=by omega
   have hms:=HST.out _ hmr
   have hms2:=hms.ml
   obtain ⟨v1,W1,v2,W2,⟨b1,b2,b3,rfl⟩,⟨b4,b5,b6,rfl⟩,r1,r2,⟨x1,x2,x3,x4,x5⟩,⟨x6,x7,x8⟩,own1,vv1,ls1,hm1,_⟩:=push2_1 hms hms2 (by omega) (by rw [HSL.out];omega) (by omega)
   have y1:wr.cell? ⟨pb,9,none⟩=some (v 7):=hms.hd.cell 7 (by decide)
   have y2:wr.cell? ⟨pb,12,none⟩=some (v 10):=hms.hd.cell 10 (by decide)
   have y5:=hms.hd.lt
   have HR1:=Lib.hid r1
   have HR2:=Lib.hid r2
   have HM1:=Lib.hid hm1
   clear hmr hms hms2 r1 r2 hm1
   go_wp2_with (first | (at_builtin;refine wpList_append_eq rfl _ _ 43 rfl _ _ _ _ rfl rfl HR1.out ?_) | (at_builtin;refine wpList_append_eq rfl _ _ 27 rfl _ _ _ _ rfl rfl HR2.out ?_))
   clear x1 x2 x3 x4 x5 x6 x7 x8 y1 y2 y5
   generalize W2.setCell ⟨pb,12,none⟩ (.slice b4 b5 b6)=wq at *
   clear HR1 HR2 HL0 HST HMR
   go_loopw [6] (fun y W => ∃ e:Nat,y=.int .i64 ((pw e:Nat):Int) ∧ e ≤ 7 ∧ ∃ own' v' ls',MkS pb h0 h1 qf 1 (.slice al i cl) (1000003 + (S:Int)) i W0 own ls (1 + e) (C + 1 + e) W own' v' ls') (fun y _ => 129 - (intOf y).toNat)
   case atStart => exact ⟨0,rfl,by omega,_,_,_,HM1.out⟩
   case round =>
    obtain ⟨e,rfl,he,own2,v2,ls2,hm2⟩:=hrel
    obtain ⟨p,hp⟩:∃ p,pw e=p:=⟨_,rfl⟩
    have HPW:=Lib.hid (And.intro hp he)
    by_cases he7:e < 7
    ·have hp2:=pw_le e he7
     rw [hp] at hp2
     have hp3:pw (e + 1)=p + p:=by show pw e + pw e=_;rw [hp]
     have HP3:=Lib.hid hp3
     rw [hp] at *
     obtain ⟨hp4,hp5⟩:=hp2
     have hpI:(p:Int) ≤ 64:=by omega
     have hp0:(1:Int) ≤ (p:Int):=by omega
     have HM2:=Lib.hid hm2
     clear hp hm2 hp3 HM1
     go_wp2_with fail
     go_loopw [7,8] (fun x y W => ∃ j:Nat,y=.int .i64 (j:Int) ∧ j ≤ p ∧ ∃ own',MkS pb h0 h1 qf 1 (.slice al i cl) (1000003 + (S:Int)) i W0 own ls (1 + e) (C + 1 + e) W own' v2 ls2 ∧ FullN W own' 1 (i + j) x (1000003 + (S:Int))) (fun _ y _ => p + 1 - (intOf y).toNat)
     case atStart => exact ⟨0,rfl,by omega,_,HM2.out,HM2.out.ml⟩
     case round =>
      obtain ⟨j,rfl,hj,own3,hm3,hf3⟩:=hrel
      have hj0:(0:Int) ≤ (j:Int):=by omega
      by_cases hjp:j < p
      ·have hjI:(j:Int) < (p:Int):=by omega
       obtain ⟨far',W5,r5,own5,hm5,hf5⟩:=far_1 hm3 hf3 (by omega)
       have HR5:=Lib.hid r5
       have HM5:=Lib.hid (And.intro hm5 hf5)
       clear hm3 hf3 r5 hm5 hf5
       go_wp2_with (first | (at_builtin;refine wpList_append_eq rfl _ _ 70 rfl _ _ _ _ rfl rfl HR5.out ?_))
       exact ⟨⟨j + 1,by go_num,hjp,_,HM5.out.1,HM5.out.2⟩,by simp [intOf];omega⟩
      ·obtain rfl:j=p:=by omega
       obtain ⟨v5,W5,v6,W6,⟨b1,b2,b3,rfl⟩,⟨b4,b5,b6,rfl⟩,r1,r2,⟨x1,x2,x3,x4,x5⟩,⟨x6,x7,x8⟩,own6,vv6,ls6,hm6,_⟩:=push2_1 hm3 hf3 (by omega) (by rw [HSL.out];omega) (by omega)
       have y1:wr.cell? ⟨pb,9,none⟩=some (v2 7):=hm3.hd.cell 7 (by decide)
       have y2:wr.cell? ⟨pb,12,none⟩=some (v2 10):=hm3.hd.cell 10 (by decide)
       have y5:=hm3.hd.lt
       obtain ⟨fa,fc,hfv⟩:∃ a c,u7=.slice a (i + j) c:=by
        obtain ⟨⟨ys,q1,_⟩,_⟩:=hf3
        exact own_form q1
       subst hfv
       have HR1:=Lib.hid r1
       have HR2:=Lib.hid r2
       have HM6:=Lib.hid hm6
       clear hm3 hf3 r1 r2 hm6
       go_wp2_with (first | (at_builtin;refine wpList_append_eq rfl _ _ 43 rfl _ _ _ _ rfl rfl HR1.out ?_) | (at_builtin;refine wpList_append_eq rfl _ _ 27 rfl _ _ _ _ rfl rfl HR2.out ?_))
       exact ⟨⟨e + 1,by rw [HP3.out];go_num,by omega,_,_,_,HM6.out⟩,by simp [intOf];omega⟩
    ·obtain rfl:e=7:=by omega
     obtain rfl:p=128:=by rw [← hp];rfl
     rw [hp]
     have HM2:=Lib.hid hm2
     clear hm2 hp HM1
     go_wp2_with fail
     first | go_end0 | skip
     have h:=HM2.out
     exact HQ.out _ _ _ _ h.hd h.fc h.fr fun j hj => h.eq j (by omega) (by omega)
theorem mkr_step2 {W0 W:World} {n i g cap:Nat} {m:Int} (h:MkR W0 2 (.slice (some ⟨g,0,none⟩) n cap) n m i W) (hi:i < n) :
 MkR W0 2 (.slice (some ⟨g,0,none⟩) n cap) n m (i + 1) (((((W.setCell ⟨g,i * 5,none⟩ (.int .i64 0)).setCell ⟨g,i * 5 + 1,none⟩ (.int .i64 m)).setCell ⟨g,i * 5 + 2,none⟩ (.int .i64 0)).setCell ⟨g,i * 5 + 3,none⟩ (.int .i64 0)).setCell ⟨g,i * 5 + 4,none⟩ (.int .i64 0)):=by
 obtain ⟨xs,h1,h2,h3⟩:=h
 have hl:xs.length=n * 5:=h1.1
 refine ⟨(((((xs.set (i * 5) (.int .i64 0)).set (i * 5 + 1) (.int .i64 m)).set (i * 5 + 2) (.int .i64 0)).set (i * 5 + 3) (.int .i64 0)).set (i * 5 + 4) (.int .i64 0)),rowset (rowset (rowset (rowset (rowset (h1) _ _) _ _) _ _) _ _) _ _,fun j hj => ?_,Kf.set (Kf.set (Kf.set (Kf.set (Kf.set (h3) (by rfl) _) (by rfl) _) (by rfl) _) (by rfl) _) (by rfl) _⟩
 have h2:j < i → xs[j * 5 + 1]?=some (.int .i64 m):=fun hj => h2 j hj
 show ((((((xs.set (i * 5) (.int .i64 0)).set (i * 5 + 1) (.int .i64 m)).set (i * 5 + 2) (.int .i64 0)).set (i * 5 + 3) (.int .i64 0)).set (i * 5 + 4) (.int .i64 0)))[j * 5 + 1]?=_
 by_cases e:j=i
 ·subst e
  simp only [List.getElem?_set,List.length_set]
  simp [hl]
  omega
 ·have:=h2 (by omega)
  exact set_same (set_same (set_same (set_same (set_same (this) (fun e2 => absurd e2 (by omega))) (fun e2 => absurd e2 (by omega))) (fun e2 => absurd e2 (by omega))) (fun e2 => absurd e2 (by omega))) (fun e2 => absurd e2 (by omega))
set_option maxHeartbeats 1600000 in
theorem push2_2 {pb:Nat} {h0 h1:Value} {qf:Nat → Nat} {l:Value} {m:Int} {nl:Nat} {W0:World} {own0:Nat → Lb} {ls0:Nat → List Value} {d C:Nat} {W:World} {own:Nat → Lb} {v:Nat → Value} {ls:Nat → List Value}
 (h:MkS pb h0 h1 qf 2 l m nl W0 own0 ls0 d C W own v ls) {far:Value} {n:Nat} (hf:FullN W own 2 n far m) (hm1:1000003 ≤ m) (hm2:m ≤ 1000003 + (ls0 8).length) (hC:C ≤ 900000) :
 ∃ v1 W1 v2 W2,(∃ a n c,v1=.slice a n c) ∧ (∃ a n c,v2=.slice a n c) ∧ (Builtin.append_ #[44,44] 44 #[v 8,.slice (some ⟨W.heap.size,0,none⟩) 1 1]).run Tryz.prog (W.alloc (.cells #[far] 62))=.ok v1 W1 ∧
  (Builtin.append_ #[27,27] 27 #[v 11,.slice (some ⟨W1.heap.size,0,none⟩) 1 1]).run Tryz.prog ((W1.setCell ⟨pb,10,none⟩ v1).alloc (.cells #[.int .i64 m] 3))=.ok v2 W2 ∧
  (W1.cell? ⟨pb,10,none⟩=some (v 8) ∧ W1.cell? ⟨pb,13,none⟩=some (v 11) ∧ W1.frozen? ⟨pb,10,none⟩=false ∧ W1.frozen? ⟨pb,13,none⟩=false ∧ pb < W1.heap.size) ∧
  (W2.cell? ⟨pb,13,none⟩=some (v 11) ∧ W2.frozen? ⟨pb,13,none⟩=false ∧ pb < W2.heap.size) ∧
  ∃ own' v' ls',MkS pb h0 h1 qf 2 l m nl W0 own0 ls0 (d + 1) (C + 1) (W2.setCell ⟨pb,13,none⟩ v2) own' v' ls' ∧ FullN (W2.setCell ⟨pb,13,none⟩ v2) own' 2 n far m:=by
 have hcap:=h.fc.cap 2 (by decide)
 have hsg:=h.fc.sg 2 (by decide)
 have hfar1:far.oneCell'=true:=by
  obtain ⟨⟨ys,y1,_⟩,_⟩:=hf
  obtain ⟨a,n',c,e⟩:=own_slice y1
  rw [e];rfl
 obtain ⟨v1,W1,r1,⟨g1,g2⟩,p1,p2,p3⟩:=push_run (t:=44) Tryz.underlying44 Tryz.infoLB rfl (by decide) h.hd (j:=8) (by decide) rfl (by
  have:(ls 8).length ≤ C:=hcap
  omega) far hfar1
 obtain ⟨own1,eo⟩:∃ o,o=relab own v1 (Lhd 8):=⟨_,rfl⟩
 obtain ⟨v',ev⟩:∃ o,o=updF v 8 v1:=⟨_,rfl⟩
 obtain ⟨ls',el⟩:∃ o,o=updF ls 8 (ls 8 ++ [far]):=⟨_,rfl⟩
 have q1:=p1
 rw [← eo,← ev,← el] at q1
 have e9:v' 11=v 11:=by rw [ev,updF_ne _ _ (by decide)]
 have l9:ls' 11=ls 11:=by rw [el,updF_ne _ _ (by decide)]
 obtain ⟨v2,W2,r2,⟨g3,g4⟩,p4,p5,p6⟩:=push_run (t:=27) Tryz.underlying27 Tryz.infoI5' rfl (by decide) q1 (j:=11) (by decide) rfl (by
  rw [l9]
  have:(ls 11).length ≤ C:=by rw [show (ls 11).length=(ls 8).length from hsg];exact hcap
  omega) (.int .i64 m) rfl
 have hsz:(W1.setCell ⟨pb,2 + 8,none⟩ v1).heap.size=W1.heap.size:=by simp [World.setCell]
 rw [e9,hsz] at r2
 have hw1:W1.heap[pb]?=_:=g1.trans h.hd.head
 have hw2:W2.heap[pb]?=_:=g3.trans q1.head
 have f1:∃ a n c,v1=.slice a n c:=by
  have:=p1.rows 8 (by decide)
  rw [updF_eq] at this
  exact own_slice this
 have f2:∃ a n c,v2=.slice a n c:=by
  have:=p4.rows 11 (by decide)
  rw [updF_eq] at this
  exact own_slice this
 refine ⟨v1,W1,v2,W2,f1,f2,r1,r2,⟨cell_of hw1 10 rfl,cell_of hw1 13 rfl,frozen_of hw1 _,frozen_of hw1 _,g2⟩,⟨by rw [← e9];exact cell_of hw2 13 rfl,frozen_of hw2 _,g4⟩,?_⟩
 exact h.pushed (by decide) hf hm1 hm2 p1 p2 p3 eo ev el p4 p5 p6
set_option maxHeartbeats 1600000 in
theorem far_2 {pb:Nat} {h0 h1:Value} {qf:Nat → Nat} {l:Value} {m:Int} {nl:Nat} {W0:World} {own0:Nat → Lb} {ls0:Nat → List Value} {d C:Nat} {W:World} {own:Nat → Lb} {v:Nat → Value} {ls:Nat → List Value}
 (h:MkS pb h0 h1 qf 2 l m nl W0 own0 ls0 d C W own v ls) {far:Value} {n:Nat} (hf:FullN W own 2 n far m) (hn:n ≤ 400000) :
 ∃ far' W1,(Builtin.append_ #[62,62] 62 #[far,.slice (some ⟨W.heap.size,0,none⟩) 1 1]).run Tryz.prog (W.alloc (.cells #[.int .i64 0,.int .i64 m,.int .i64 0,.int .i64 0,.int .i64 0] 95))=.ok far' W1 ∧
  ∃ own',MkS pb h0 h1 qf 2 l m nl W0 own0 ls0 d C W1 own' v ls ∧ FullN W1 own' 2 (n + 1) far' m:=by
 obtain ⟨⟨xs,x1,x2⟩,x3⟩:=hf
 obtain ⟨i0,hi,hz0,hz1,hz2⟩:=info_parts Tryz.infoBlk
 obtain ⟨far',W1,r,y1,y2,y3,y4⟩:=far_run (t:=62) Tryz.underlying62 hi hz0 hz1 hz2 rfl (by decide) (by decide) W far n xs x1 hn #[.int .i64 0,.int .i64 m,.int .i64 0,.int .i64 0,.int .i64 0] rfl (by
  intro u hu
  simp only [List.mem_cons,List.not_mem_nil,or_false] at hu
  rcases hu with rfl | rfl | rfl | rfl | rfl <;> rfl)
 exact ⟨far',W1,r,h.grown x1 x2 x3 rfl rfl y1 y2 y3 y4⟩
set_option maxRecDepth 100000 in
set_option maxHeartbeats 3200000 in
theorem markBlocks_any (W0:World) (pb:Nat) (h0 h1:Value) (own:Nat → Lb) (v:Nat → Value) (ls:Nat → List Value) (qf:Nat → Nat) (C:Nat) (hd:KHead W0 pb h0 h1 own v ls) (fc:KFacts W0 own ls qf C) (l:Value) (n:Nat) (xs:List Value)
 (hl:W0.ownsRow 0 95 5 l n xs) (hn:n ≤ 300000) (hsp:Spare W0 own qf 2 l) (hC:C + 8 ≤ 900000) (Q:Ending → World → Prop)
 (hQ:∀ W' own' v' ls',KHead W' pb h0 h1 own' v' ls' → KFacts W' own' ls' qf (C + 8) → KFrm W0 own l.ownBlock W' own' → (∀ j,j < 6 → ls' j=ls j) → Q (.returned (.tuple #[])) W') :
 Calls Tryz.prog 74 #[.pointer (some ⟨pb,2,none⟩),l] W0 Q:=by
 have HQ:=Lib.hid hQ
 have hC3:=fc.cap 2 (by decide)
 obtain ⟨S,hS⟩:∃ S,(ls 8).length=S:=⟨_,rfl⟩
 have hS2:(ls 11).length=S:=(fc.sg 2 (by decide)).trans hS
 have hSC:S ≤ C:=by rw [← hS];exact hC3
 have hS9:(S:Int) ≤ 900000:=by omega
 have hS0:(0:Int) ≤ (S:Int):=by omega
 have hr9:=hd.rows 11 (by decide)
 rw [hS2] at hr9
 obtain ⟨a9,p9,hv9⟩:=own_form hr9
 have c9:W0.cell? ⟨pb,13,none⟩=some (v 11):=hd.cell 11 (by decide)
 rw [hv9] at c9
 clear hv9
 have hpl:=hd.lt
 obtain ⟨al,cl,hlv⟩:=own_form hl
 have HST:Hid (∀ W,MkR W0 2 l n (1000003 + (S:Int)) n W → MkS pb h0 h1 qf 2 l (1000003 + (S:Int)) n W0 own ls 0 C W (relab own l (Lf 2 (1000003 + (S:Int)))) v ls):=Lib.hid fun W hW => mkS_start hd fc hsp hW
 have HSL:Hid ((ls 8).length=S):=Lib.hid hS
 have HL0:Hid (MkR W0 2 l n (1000003 + (S:Int)) 0 W0):=Lib.hid ⟨xs,hl,fun j hj => by omega,Kf.refl _ _⟩
 subst hlv
 have hn0:(n:Int) ≤ 300000:=by omega
 clear hl hd fc hsp hQ hr9 hS hS2 hC3
 go_enter Tryz.func74,Tryz.ntmps74
 go_wp2_with fail
 go_loopw [5] (fun y W => ∃ i:Nat,y=.int .i64 (i:Int) ∧ i ≤ n ∧ MkR W0 2 (.slice al n cl) n (1000003 + (S:Int)) i W) (fun y _ => n + 1 - (intOf y).toNat)
 case atStart => exact ⟨0,rfl,Nat.zero_le _,HL0.out⟩
 case round =>
  obtain ⟨i,rfl,hi,hmr⟩:=hrel
  have HMR:=Lib.hid hmr
  have hi0:(0:Int) ≤ (i:Int):=by omega
  by_cases hin:i < n
  ·have hiI:(i:Int) < (n:Int):=by omega
   obtain ⟨g,rfl,hfz,hgl,hcu⟩:=mkr_cells hmr hin
   obtain ⟨u0,hu0⟩:=hcu 0 (by decide)
   change wr.cell? ⟨g,i * 5 + 0,none⟩=some u0 at hu0
   obtain ⟨u1,hu1⟩:=hcu 1 (by decide)
   change wr.cell? ⟨g,i * 5 + 1,none⟩=some u1 at hu1
   obtain ⟨u2,hu2⟩:=hcu 2 (by decide)
   change wr.cell? ⟨g,i * 5 + 2,none⟩=some u2 at hu2
   obtain ⟨u3,hu3⟩:=hcu 3 (by decide)
   change wr.cell? ⟨g,i * 5 + 3,none⟩=some u3 at hu3
   obtain ⟨u4,hu4⟩:=hcu 4 (by decide)
   change wr.cell? ⟨g,i * 5 + 4,none⟩=some u4 at hu4
   rw [Nat.add_zero] at hu0
   clear hmr hcu
   go_wp2_with fail
   exact ⟨⟨i + 1,by go_num,hin,mkr_step2 HMR.out hin⟩,by simp [intOf];omega⟩
  ·obtain rfl:i=n:=by omega
   have hms:=HST.out _ hmr
   have hms2:=hms.ml
   obtain ⟨v1,W1,v2,W2,⟨b1,b2,b3,rfl⟩,⟨b4,b5,b6,rfl⟩,r1,r2,⟨x1,x2,x3,x4,x5⟩,⟨x6,x7,x8⟩,own1,vv1,ls1,hm1,_⟩:=push2_2 hms hms2 (by omega) (by rw [HSL.out];omega) (by omega)
   have y1:wr.cell? ⟨pb,10,none⟩=some (v 8):=hms.hd.cell 8 (by decide)
   have y2:wr.cell? ⟨pb,13,none⟩=some (v 11):=hms.hd.cell 11 (by decide)
   have y5:=hms.hd.lt
   have HR1:=Lib.hid r1
   have HR2:=Lib.hid r2
   have HM1:=Lib.hid hm1
   clear hmr hms hms2 r1 r2 hm1
   go_wp2_with (first | (at_builtin;refine wpList_append_eq rfl _ _ 44 rfl _ _ _ _ rfl rfl HR1.out ?_) | (at_builtin;refine wpList_append_eq rfl _ _ 27 rfl _ _ _ _ rfl rfl HR2.out ?_))
   clear x1 x2 x3 x4 x5 x6 x7 x8 y1 y2 y5
   generalize W2.setCell ⟨pb,13,none⟩ (.slice b4 b5 b6)=wq at *
   clear HR1 HR2 HL0 HST HMR
   go_loopw [6] (fun y W => ∃ e:Nat,y=.int .i64 ((pw e:Nat):Int) ∧ e ≤ 7 ∧ ∃ own' v' ls',MkS pb h0 h1 qf 2 (.slice al i cl) (1000003 + (S:Int)) i W0 own ls (1 + e) (C + 1 + e) W own' v' ls') (fun y _ => 129 - (intOf y).toNat)
   case atStart => exact ⟨0,rfl,by omega,_,_,_,HM1.out⟩
   case round =>
    obtain ⟨e,rfl,he,own2,v2,ls2,hm2⟩:=hrel
    obtain ⟨p,hp⟩:∃ p,pw e=p:=⟨_,rfl⟩
    have HPW:=Lib.hid (And.intro hp he)
    by_cases he7:e < 7
    ·have hp2:=pw_le e he7
     rw [hp] at hp2
     have hp3:pw (e + 1)=p + p:=by show pw e + pw e=_;rw [hp]
     have HP3:=Lib.hid hp3
     rw [hp] at *
     obtain ⟨hp4,hp5⟩:=hp2
     have hpI:(p:Int) ≤ 64:=by omega
     have hp0:(1:Int) ≤ (p:Int):=by omega
     have HM2:=Lib.hid hm2
     clear hp hm2 hp3 HM1
     go_wp2_with fail
     go_loopw [7,8] (fun x y W => ∃ j:Nat,y=.int .i64 (j:Int) ∧ j ≤ p ∧ ∃ own',MkS pb h0 h1 qf 2 (.slice al i cl) (1000003 + (S:Int)) i W0 own ls (1 + e) (C + 1 + e) W own' v2 ls2 ∧ FullN W own' 2 (i + j) x (1000003 + (S:Int))) (fun _ y _ => p + 1 - (intOf y).toNat)
     case atStart => exact ⟨0,rfl,by omega,_,HM2.out,HM2.out.ml⟩
     case round =>
      obtain ⟨j,rfl,hj,own3,hm3,hf3⟩:=hrel
      have hj0:(0:Int) ≤ (j:Int):=by omega
      by_cases hjp:j < p
      ·have hjI:(j:Int) < (p:Int):=by omega
       obtain ⟨far',W5,r5,own5,hm5,hf5⟩:=far_2 hm3 hf3 (by omega)
       have HR5:=Lib.hid r5
       have HM5:=Lib.hid (And.intro hm5 hf5)
       clear hm3 hf3 r5 hm5 hf5
       go_wp2_with (first | (at_builtin;refine wpList_append_eq rfl _ _ 62 rfl _ _ _ _ rfl rfl HR5.out ?_))
       exact ⟨⟨j + 1,by go_num,hjp,_,HM5.out.1,HM5.out.2⟩,by simp [intOf];omega⟩
      ·obtain rfl:j=p:=by omega
       obtain ⟨v5,W5,v6,W6,⟨b1,b2,b3,rfl⟩,⟨b4,b5,b6,rfl⟩,r1,r2,⟨x1,x2,x3,x4,x5⟩,⟨x6,x7,x8⟩,own6,vv6,ls6,hm6,_⟩:=push2_2 hm3 hf3 (by omega) (by rw [HSL.out];omega) (by omega)
       have y1:wr.cell? ⟨pb,10,none⟩=some (v2 8):=hm3.hd.cell 8 (by decide)
       have y2:wr.cell? ⟨pb,13,none⟩=some (v2 11):=hm3.hd.cell 11 (by decide)
       have y5:=hm3.hd.lt
       obtain ⟨fa,fc,hfv⟩:∃ a c,u7=.slice a (i + j) c:=by
        obtain ⟨⟨ys,q1,_⟩,_⟩:=hf3
        exact own_form q1
       subst hfv
       have HR1:=Lib.hid r1
       have HR2:=Lib.hid r2
       have HM6:=Lib.hid hm6
       clear hm3 hf3 r1 r2 hm6
       go_wp2_with (first | (at_builtin;refine wpList_append_eq rfl _ _ 44 rfl _ _ _ _ rfl rfl HR1.out ?_) | (at_builtin;refine wpList_append_eq rfl _ _ 27 rfl _ _ _ _ rfl rfl HR2.out ?_))
       exact ⟨⟨e + 1,by rw [HP3.out];go_num,by omega,_,_,_,HM6.out⟩,by simp [intOf];omega⟩
    ·obtain rfl:e=7:=by omega
     obtain rfl:p=128:=by rw [← hp];rfl
     rw [hp]
     have HM2:=Lib.hid hm2
     clear hm2 hp HM1
     go_wp2_with fail
     first | go_end0 | skip
     have h:=HM2.out
     exact HQ.out _ _ _ _ h.hd h.fc h.fr fun j hj => h.eq j (by omega) (by omega)
end Go.Proofs.YtfbcdmhmpfijjaaGreatDoor
