/-
  The walks of gone's closure, of gone, and of looked: All.
-/
import Derived.Laws.Rows
import Derived.Test.YtfbcdmhmpfijjaaGreatDoorQ49
set_option linter.unusedVariables false
set_option linter.unusedSimpArgs false
set_option linter.unusedSectionVars false
namespace Go.Proofs.YtfbcdmhmpfijjaaGreatDoor
open Go Go.RowKit
set_option maxRecDepth 100000 in
set_option maxHeartbeats 12800000 in
theorem gone1_any (w0:World) (pb:Nat) (L:Lay) (R:RLay) (own:Nat → Lb) (qf:Nat → Nat) (C x y:Nat) (A B D:Int) (s:St) (i:Nat) (t:Int) (W:World) (hJ:GoneJ w0 pb L R own qf C x y A B D s (some ⟨i,s.sh i⟩) t W) (hin:i < 64 * s.n) (ht:0 ≤ t ∧ t ≤ 1000000) (hgo:A < 1 ∨ t < A) (hac:s.acts + 2 ≤ 1000000000000) :
 Calls Tryz.prog 77 #[blockV (i:Int) (s.sh i),.pointer (some ⟨y + 3,0,none⟩),.pointer (some ⟨y + 1,0,none⟩),.pointer (some ⟨y,0,none⟩),.pointer (some ⟨x + 1,0,none⟩),.pointer (some ⟨y + 2,0,none⟩),.pointer (some ⟨x,0,none⟩)] W fun e W' =>
  e=.returned (.bool (decide (A < 1) || decide (t + 1 < A))) ∧ (∃ s',GoneJ w0 pb L R own qf C x y A B D s' (s'.nxt (i + 1)) (t + 1) W' ∧ s'.n=s.n ∧ (s'.acts ≤ s.acts ∨ t + 1=B ∧ s'.acts ≤ s.acts + 2)) ∧ ∀ k,y + 4 ≤ k → k < W.heap.size → W'.heap[k]?=W.heap[k]?:=by
 have HJ:=Lib.hid hJ
 obtain ⟨wh,la,ll,lc,hbx⟩:=hJ.bx
 have HBX:=Lib.hid hbx
 have hlt:=hJ.lt
 have hxy:=hJ.xy
 have g0:=cell_of (v:=.bool true) hJ.gd 0 rfl
 have m0:=cell_of (v:=.bool true) hJ.mr 0 rfl
 have t0:=cell_of (v:=.int .i64 t) hJ.tl 0 rfl
 have hwt:W.heap[y]?=some (obObj ⟨i,s.sh i⟩):=hJ.wt
 have v0:=cell_of (v:=.int .i64 (i:Int)) hwt 0 rfl
 have v1:=cell_of (v:=.int .i64 (s.sh i).k) hwt 1 rfl
 have v2:=cell_of (v:=.int .i64 (s.sh i).z) hwt 2 rfl
 have v3:=cell_of (v:=.int .i64 (s.sh i).s) hwt 3 rfl
 have v4:=cell_of (v:=.int .i64 (s.sh i).t) hwt 4 rfl
 have b2:=cell_of (v:=.int .i64 A) hbx 2 rfl
 have b3:=cell_of (v:=.int .i64 B) hbx 3 rfl
 have b4:=cell_of (v:=.int .i64 D) hbx 4 rfl
 have p0:=cell_of (v:=.pointer (some ⟨pb,0,none⟩)) hJ.px 0 rfl
 obtain ⟨⟨sk,sz,ss,st⟩,hx⟩:∃ z,s.sh i=z:=⟨_,rfl⟩
 rw [hx] at v1 v2 v3 v4 ⊢
 dsimp only at v1 v2 v3 v4
 have HX:=Lib.hid hx
 clear hJ hbx hwt hx
 go_enter Tryz.func77,Tryz.ntmps77
 go_upto_region 1 with fail
 have hbb:=heap_alloc_new W (.cells #[.int .i64 (i:Int),.int .i64 sk,.int .i64 sz,.int .i64 ss,.int .i64 st] 95)
 have hs1:Still W (W.alloc (.cells #[.int .i64 (i:Int),.int .i64 sk,.int .i64 sz,.int .i64 ss,.int .i64 st] 95)):=(Only.refl _ _ W).alloc _
 generalize W.alloc (.cells #[.int .i64 (i:Int),.int .i64 sk,.int .i64 sz,.int .i64 ss,.int .i64 st] 95)=W1 at *
 generalize hbe:W.heap.size=bb at *
 have hJ1:=HJ.out.still hs1
 have HJ1:=Lib.hid hJ1
 have hbx1:=(hs1.block _ (Array.getElem?_eq_some_iff.1 HBX.out).1 (.inl (Array.getElem?_eq_some_iff.1 HBX.out).1)).trans HBX.out
 have HK1:Hid (∀ k,y + 4 ≤ k → k < bb → W1.heap[k]?=W.heap[k]?):=Lib.hid fun k _ hk => hs1.block k (by omega) (.inl (by omega))
 have hwt:W1.heap[y]?=some (obObj ⟨i,s.sh i⟩):=hJ1.wt
 rw [HX.out] at hwt
 have g0:=cell_of (v:=.bool true) hJ1.gd 0 rfl
 have m0:=cell_of (v:=.bool true) hJ1.mr 0 rfl
 have t0:=cell_of (v:=.int .i64 t) hJ1.tl 0 rfl
 have tf:=frozen_of hJ1.tl 0
 have v0:=cell_of (v:=.int .i64 (i:Int)) hwt 0 rfl
 have v1:=cell_of (v:=.int .i64 sk) hwt 1 rfl
 have v2:=cell_of (v:=.int .i64 sz) hwt 2 rfl
 have v3:=cell_of (v:=.int .i64 ss) hwt 3 rfl
 have v4:=cell_of (v:=.int .i64 st) hwt 4 rfl
 have b2:=cell_of (v:=.int .i64 A) hbx1 2 rfl
 have b3:=cell_of (v:=.int .i64 B) hbx1 3 rfl
 have b4:=cell_of (v:=.int .i64 D) hbx1 4 rfl
 have q0:=cell_of (v:=.int .i64 (i:Int)) hbb 0 rfl
 have q1:=cell_of (v:=.int .i64 sk) hbb 1 rfl
 have q2:=cell_of (v:=.int .i64 sz) hbb 2 rfl
 have q3:=cell_of (v:=.int .i64 ss) hbb 3 rfl
 have q4:=cell_of (v:=.int .i64 st) hbb 4 rfl
 have hbl:=(Array.getElem?_eq_some_iff.1 hbb).1
 have hlt1:y + 3 < W1.heap.size:=hJ1.lt
 have HBB:=Lib.hid hbb
 have HBX1:=Lib.hid hbx1
 have ht0:=ht.1
 have ht1:=ht.2
 clear hs1 hJ1 hbb hbx1 hwt ht
 go_cut [30] from 9 to 30 (fun s30 wx => s30=.bool false ∧ wx=W1)
 case first =>
  by_cases hA:1 ≤ A
  ·have e1:decide (1 ≤ A)=true:=decide_eq_true hA
   have e2:decide (A ≤ t)=false:=decide_eq_false (by omega)
   clear hgo
   go_wp2_with fail
   go_meet
   exact ⟨rfl,rfl⟩
  ·have e1:decide (1 ≤ A)=false:=decide_eq_false hA
   clear hgo
   go_wp2_with fail
   go_meet
   exact ⟨rfl,rfl⟩
 case rest =>
  obtain ⟨rfl,rfl⟩:=hcut
  go_upto_region 5 with fail
  have ho2:Only y (y + 4) wc (wc.setCell ⟨y + 2,0,none⟩ (.int .i64 (t + 1))):=(Only.refl _ _ _).setCell (p:=⟨y + 2,0,none⟩) (.inl ⟨by show y ≤ y + 2;omega,by show y + 2 < y + 4;omega⟩) _
  have hJ2:GoneJ w0 pb L R own qf C x y A B D s (some ⟨i,s.sh i⟩) (t + 1) (wc.setCell ⟨y + 2,0,none⟩ (.int .i64 (t + 1))):=HJ1.out.boxes ho2 ((box1_ne (by omega) _ _).trans HJ1.out.wt) ((box1_ne (by omega) _ _).trans HJ1.out.mr) (box1 HJ1.out.tl _) ((box1_ne (by omega) _ _).trans HJ1.out.gd)
  have hbb2:=at_only ho2 HBB.out (.inr (by omega))
  have hbx2:=at_only ho2 HBX1.out (.inl (by omega))
  have HK2:Hid (∀ k,y + 4 ≤ k → k < bb → (wc.setCell ⟨y + 2,0,none⟩ (.int .i64 (t + 1))).heap[k]?=W.heap[k]?):=Lib.hid fun k h1 h2 => (ho2.block k (by omega) (.inr h1)).trans (HK1.out k h1 h2)
  clear ho2 g0 m0 t0 tf v0 v1 v2 v3 v4 b2 b3 b4 q0 q1 q2 q3 q4 hbl hlt1 HJ1 HK1 HBB HBX1
  generalize wc.setCell ⟨y + 2,0,none⟩ (.int .i64 (t + 1))=W2 at *
  have HJ2:=Lib.hid hJ2
  have HBB2:=Lib.hid hbb2
  have t0:=cell_of (v:=.int .i64 (t + 1)) hJ2.tl 0 rfl
  have b3:=cell_of (v:=.int .i64 B) hbx2 3 rfl
  have b4:=cell_of (v:=.int .i64 D) hbx2 4 rfl
  have p0:=cell_of (v:=.pointer (some ⟨pb,0,none⟩)) hJ2.px 0 rfl
  have hlt2:y + 3 < W2.heap.size:=hJ2.lt
  have hpl2:=hJ2.pr.lt
  clear hJ2 hbb2
  obtain ⟨r,hr⟩:∃ r:Bool,r=decide (t + 1=B ∧ D % 2=0):=⟨_,rfl⟩
  have HR:=Lib.hid hr
  clear hr
  go_cut [42] from 33 to 42 (fun s42 wx => s42=.bool r ∧ wx=W2)
  case first =>
   by_cases hB:t + 1=B
   ·have e1:(t + 1 == B)=true:=by simp [hB]
    rcases (by omega:D % 2=0 ∨ D % 2=1) with hm | hm
    ·have hbit:bits BinOp.and IntKind.i64 D 1=0:=(and_one_i64 D).trans hm
     have HE:Hid (r=true):=Lib.hid (by rw [HR.out];exact decide_eq_true ⟨hB,hm⟩)
     clear hB hm
     go_wp2_with fail
     go_meet
     exact ⟨by rw [HE.out],rfl⟩
    ·have hbit:bits BinOp.and IntKind.i64 D 1=1:=(and_one_i64 D).trans hm
     have HE:Hid (r=false):=Lib.hid (by rw [HR.out];exact decide_eq_false fun h => by omega)
     clear hB hm
     go_wp2_with fail
     go_meet
     exact ⟨by rw [HE.out],rfl⟩
   ·have e1:(t + 1 == B)=false:=by simp [hB]
    have HE:Hid (r=false):=Lib.hid (by rw [HR.out];exact decide_eq_false fun h => hB h.1)
    clear hB
    go_wp2_with fail
    go_meet
    exact ⟨by rw [HE.out],rfl⟩
  case rest =>
   obtain ⟨rfl,rfl⟩:=hcut
   go_upto_if 42 with fail
   go_cut [45] from 42 to 45 (fun _ wx => ∃ s',GoneJ w0 pb L R own qf C x y A B D s' (some ⟨i,s.sh i⟩) (t + 1) wx ∧ s'.n=s.n ∧ (s'.acts ≤ s.acts ∨ (t + 1=B ∧ D % 2=0) ∧ s'.acts ≤ s.acts + 2) ∧ wx.heap[bb]?=some (.cells #[.int .i64 (i:Int),.int .i64 sk,.int .i64 sz,.int .i64 ss,.int .i64 st] 95 (0,0)) ∧ ∀ k,y + 4 ≤ k → k < bb → wx.heap[k]?=W.heap[k]?)
   case first =>
    cases r with
    | false =>
     go_wp2_with fail
     go_meet
     exact ⟨s,HJ2.out,rfl,.inl (Nat.le_refl _),HBB2.out,HK2.out⟩
    | true =>
     have HT:=Lib.hid (fun Q hQ => turned1 wc pb L R s own qf C HJ2.out.pr 0 1 3 0 none 0 0 (wf_of (by omega)) hac Q hQ)
     go_wp2_with fail
     refine HT.out _ (fun w3 s' hp3 hn3 ha3 hf3 => ?_)
     have hJ3:=HJ2.out.turn hp3 hf3
     have hbb3:=(HJ2.out.kept hf3 bb (by have:=HJ2.out.xy;omega) (Array.getElem?_eq_some_iff.1 HBB2.out).1).trans HBB2.out
     have HK3:Hid (∀ k,y + 4 ≤ k → k < bb → w3.heap[k]?=W.heap[k]?):=Lib.hid fun k h1 h2 => (HJ2.out.kept hf3 k (by omega) (by have:=(Array.getElem?_eq_some_iff.1 HBB2.out).1;omega)).trans (HK2.out k h1 h2)
     have HJ3:=Lib.hid hJ3
     have HB3:=Lib.hid hbb3
     have HN3:=Lib.hid (And.intro hn3 ha3)
     have g0:=cell_of (v:=.bool true) hJ3.gd 0 rfl
     have gf:=frozen_of hJ3.gd 0
     have hlt3:y + 3 < w3.heap.size:=hJ3.lt
     clear hp3 hn3 ha3 hf3 hJ3 hbb3 HT
     go_wp2_with fail
     go_meet
     have ho4:Only y (y + 4) w3 (w3.setCell ⟨y + 3,0,none⟩ (.bool true)):=(Only.refl _ _ _).setCell (p:=⟨y + 3,0,none⟩) (.inl ⟨by show y ≤ y + 3;omega,by show y + 3 < y + 4;omega⟩) _
     exact ⟨s',HJ3.out.boxes ho4 ((box1_ne (by omega) _ _).trans HJ3.out.wt) ((box1_ne (by omega) _ _).trans HJ3.out.mr) ((box1_ne (by omega) _ _).trans HJ3.out.tl) (box1 HJ3.out.gd _),HN3.out.1,.inr ⟨of_decide_eq_true HR.out.symm,HN3.out.2⟩,at_only ho4 HB3.out (.inr (by omega)),fun k h1 h2 => (ho4.block k (by have:=(Array.getElem?_eq_some_iff.1 HB3.out).1;omega) (.inr h1)).trans (HK3.out k h1 h2)⟩
   case rest =>
    obtain ⟨s',hJ3,hn3,ha3,hbb3,hk3⟩:=hcut
    clear t0 b3 b4 p0 hlt2 hpl2 HJ2 HBB2 HK2 hbx2 HR
    generalize wc=W3 at *
    have HJ3:=Lib.hid hJ3
    have HBB3:=Lib.hid hbb3
    have HK3:=Lib.hid hk3
    have HN3:=Lib.hid (And.intro hn3 ha3)
    obtain ⟨wh3,la3,ll3,lc3,hbx3⟩:=hJ3.bx
    have t0:=cell_of (v:=.int .i64 (t + 1)) hJ3.tl 0 rfl
    have b3:=cell_of (v:=.int .i64 B) hbx3 3 rfl
    have b4:=cell_of (v:=.int .i64 D) hbx3 4 rfl
    have p0:=cell_of (v:=.pointer (some ⟨pb,0,none⟩)) hJ3.px 0 rfl
    have q0:=cell_of (v:=.int .i64 (i:Int)) hbb3 0 rfl
    have hlt3:y + 3 < W3.heap.size:=hJ3.lt
    have hbl3:=(Array.getElem?_eq_some_iff.1 hbb3).1
    clear hJ3 hn3 ha3 hbb3 hk3
    obtain ⟨r,hr⟩:∃ r:Bool,r=decide (t + 1=B ∧ D % 2=1):=⟨_,rfl⟩
    have HR:=Lib.hid hr
    clear hr
    go_upto_region 7 with fail
    go_cut [55] from 46 to 55 (fun s55 wx => s55=.bool r ∧ wx=W3)
    case first =>
     by_cases hB:t + 1=B
     ·have e1:(t + 1 == B)=true:=by simp [hB]
      rcases (by omega:D % 2=0 ∨ D % 2=1) with hm | hm
      ·have hbit:bits BinOp.and IntKind.i64 D 1=0:=(and_one_i64 D).trans hm
       have HE:Hid (r=false):=Lib.hid (by rw [HR.out];exact decide_eq_false fun h => by omega)
       clear hB hm
       go_wp2_with fail
       go_meet
       exact ⟨by rw [HE.out],rfl⟩
      ·have hbit:bits BinOp.and IntKind.i64 D 1=1:=(and_one_i64 D).trans hm
       have HE:Hid (r=true):=Lib.hid (by rw [HR.out];exact decide_eq_true ⟨hB,hm⟩)
       clear hB hm
       go_wp2_with fail
       go_meet
       exact ⟨by rw [HE.out],rfl⟩
     ·have e1:(t + 1 == B)=false:=by simp [hB]
      have HE:Hid (r=false):=Lib.hid (by rw [HR.out];exact decide_eq_false fun h => hB h.1)
      clear hB
      go_wp2_with fail
      go_meet
      exact ⟨by rw [HE.out],rfl⟩
    case rest =>
     obtain ⟨rfl,rfl⟩:=hcut
     go_upto_if 55 with fail
     go_cut [60] from 55 to 60 (fun _ wx => ∃ s',GoneJ w0 pb L R own qf C x y A B D s' (some ⟨i,s.sh i⟩) (t + 1) wx ∧ s'.n=s.n ∧ (s'.acts ≤ s.acts ∨ (t + 1=B) ∧ s'.acts ≤ s.acts + 2) ∧ wx.heap[bb]?=some (.cells #[.int .i64 (i:Int),.int .i64 sk,.int .i64 sz,.int .i64 ss,.int .i64 st] 95 (0,0)) ∧ ∀ k,y + 4 ≤ k → k < bb → wx.heap[k]?=W.heap[k]?)
     case first =>
      cases r with
      | false =>
       go_wp2_with fail
       go_meet
       exact ⟨s',HJ3.out,HN3.out.1,HN3.out.2.imp id (fun h => ⟨h.1.1,h.2⟩),HBB3.out,HK3.out⟩
      | true =>
       have hbd:=of_decide_eq_true HR.out.symm
       have HN4:Hid (t + 1=B ∧ s'.acts ≤ s.acts):=Lib.hid ⟨hbd.1,HN3.out.2.elim id fun h => by omega⟩
       have hs4:Still wc (wc.alloc (.cells #[.int .i64 (i:Int)] 3)):=(Only.refl _ _ wc).alloc _
       have hbn:=heap_alloc_new wc (.cells #[.int .i64 (i:Int)] 3)
       have HT:=Lib.hid (fun Q hQ => keeps2_any _ pb L R s' own qf C (HJ3.out.still hs4).pr (.slice (some ⟨wc.heap.size,0,none⟩) 1 1) [(i:Int)] ⟨by show 1 ≤ _;omega,some ⟨wc.heap.size,0,none⟩,1,rfl,fun j hj => ⟨wc.heap.size,0,rfl,by
        have hj0:j=0:=by simpa using hj
        subst hj0
        exact cell_of (v:=.int .i64 (i:Int)) hbn 0 rfl⟩⟩ (by show 1 ≤ _;omega) (fun b o n c e _ => .inr (by
        injection e with e1
        injection e1 with e1
        injection e1 with e1 _ _
        rw [← e1]
        have:=HJ3.out.rx;have:=HJ3.out.xy;omega)) Q hQ)
       have HS4:=Lib.hid hs4
       clear hbn hs4 hbd
       go_wp2_with fail
       refine HT.out _ (fun w4 s2 hp4 hn4 ha4 hf4 => ?_)
       have hJ4:=(HJ3.out.still HS4.out).turn hp4 hf4
       have hb3:=(HS4.out.block bb hbl3 (.inl hbl3)).trans HBB3.out
       have hbb4:=((HJ3.out.still HS4.out).kept hf4 bb (by have:=HJ3.out.xy;omega) (Array.getElem?_eq_some_iff.1 hb3).1).trans hb3
       have HK4:Hid (∀ k,y + 4 ≤ k → k < bb → w4.heap[k]?=W.heap[k]?):=Lib.hid fun k h1 h2 => ((HJ3.out.still HS4.out).kept hf4 k (by omega) (by have:=(Array.getElem?_eq_some_iff.1 hb3).1;omega)).trans ((HS4.out.block k (by omega) (.inl (by omega))).trans (HK3.out k h1 h2))
       have HJ4:=Lib.hid hJ4
       have HB4:=Lib.hid hbb4
       have HN5:=Lib.hid (And.intro hn4 ha4)
       have g0:=cell_of (v:=.bool true) hJ4.gd 0 rfl
       have gf:=frozen_of hJ4.gd 0
       have hlt4:y + 3 < w4.heap.size:=hJ4.lt
       clear hp4 hn4 ha4 hf4 hJ4 hbb4 HT hb3
       go_wp2_with fail
       go_meet
       have ho5:Only y (y + 4) w4 (w4.setCell ⟨y + 3,0,none⟩ (.bool true)):=(Only.refl _ _ _).setCell (p:=⟨y + 3,0,none⟩) (.inl ⟨by show y ≤ y + 3;omega,by show y + 3 < y + 4;omega⟩) _
       exact ⟨s2,HJ4.out.boxes ho5 ((box1_ne (by omega) _ _).trans HJ4.out.wt) ((box1_ne (by omega) _ _).trans HJ4.out.mr) ((box1_ne (by omega) _ _).trans HJ4.out.tl) (box1 HJ4.out.gd _),HN5.out.1.trans HN3.out.1,.inr ⟨HN4.out.1,by have:=HN4.out.2;have:=HN5.out.2;omega⟩,at_only ho5 HB4.out (.inr (by omega)),fun k h1 h2 => (ho5.block k (by have:=(Array.getElem?_eq_some_iff.1 HB4.out).1;omega) (.inr h1)).trans (HK4.out k h1 h2)⟩
     case rest =>
      obtain ⟨s2,hJ4,hn4,ha4,hbb4,hk4⟩:=hcut
      clear t0 b3 b4 p0 q0 hlt3 hbl3 HJ3 HBB3 HK3 hbx3 HR HN3
      generalize wc=W4 at *
      have HJ4:=Lib.hid hJ4
      have HK4:=Lib.hid hk4
      have HN4:=Lib.hid (And.intro hn4 ha4)
      have hbl4:=(Array.getElem?_eq_some_iff.1 hbb4).1
      have p0:=cell_of (v:=.pointer (some ⟨pb,0,none⟩)) hJ4.px 0 rfl
      have q0:=cell_of (v:=.int .i64 (i:Int)) hbb4 0 rfl
      have hlt4:y + 3 < W4.heap.size:=hJ4.lt
      have HAF:=Lib.hid (after_any W4 R s2 hJ4.pr.rf hJ4.pr.iv.refOk pb hJ4.pr.c1 (i + 1) (i:Int) (by omega) (by rw [hn4];omega))
      clear hJ4 hn4 ha4 hk4 hbb4
      go_wp2_with fail
      refine HAF.out.mono ?_
      rintro e w5 ⟨rfl,hs5⟩
      have hJ5:=HJ4.out.still hs5
      have HJ5:=Lib.hid hJ5
      have HK5:Hid (∀ k,y + 4 ≤ k → k < bb → w5.heap[k]?=W.heap[k]?):=Lib.hid fun k h1 h2 => (hs5.block k (by omega) (.inl (by omega))).trans (HK4.out k h1 h2)
      have hbl5:=Nat.lt_of_lt_of_le hbl4 hs5.size
      obtain ⟨wh5,la5,ll5,lc5,hbx5⟩:=hJ5.bx
      have b2:=cell_of (v:=.int .i64 A) hbx5 2 rfl
      have t0:=cell_of (v:=.int .i64 (t + 1)) hJ5.tl 0 rfl
      have hwt:w5.heap[y]?=some (obObj ⟨i,s.sh i⟩):=hJ5.wt
      have v0:=cell_of (v:=.int .i64 (i:Int)) hwt 0 rfl
      have v1:=cell_of (v:=.int .i64 (s.sh i).k) hwt 1 rfl
      have v2:=cell_of (v:=.int .i64 (s.sh i).z) hwt 2 rfl
      have v3:=cell_of (v:=.int .i64 (s.sh i).s) hwt 3 rfl
      have v4:=cell_of (v:=.int .i64 (s.sh i).t) hwt 4 rfl
      have vf0:=frozen_of hwt 0
      have vf1:=frozen_of hwt 1
      have vf2:=frozen_of hwt 2
      have vf3:=frozen_of hwt 3
      have vf4:=frozen_of hwt 4
      have m0:=cell_of (v:=.bool true) hJ5.mr 0 rfl
      have mf:=frozen_of hJ5.mr 0
      have hlt5:y + 3 < w5.heap.size:=hJ5.lt
      obtain ⟨o,ho⟩:∃ o,s2.nxt (i + 1)=o:=⟨_,rfl⟩
      have HO:=Lib.hid ho
      rw [ho]
      obtain ⟨⟨na,nk,nz,nr,nt⟩,hob⟩:∃ ob,o.getD ob0=ob:=⟨_,rfl⟩
      obtain ⟨nb,hnb⟩:∃ b,o.isSome=b:=⟨_,rfl⟩
      have HOB:=Lib.hid (And.intro hob hnb)
      unfold nxV
      rw [hob,hnb]
      unfold Ob.val
      dsimp only
      clear hJ5 hwt hbx5 hs5 HAF HJ4 HK4 p0 q0 hlt4 hbl4 ho hob hnb
      have HFIN:Hid (∀ W6,W6=(((((w5.setCell ⟨y,0,none⟩ (.int .i64 (na:Int))).setCell ⟨y,1,none⟩ (.int .i64 nk)).setCell ⟨y,2,none⟩ (.int .i64 nz)).setCell ⟨y,3,none⟩ (.int .i64 nr)).setCell ⟨y,4,none⟩ (.int .i64 nt)).setCell ⟨y + 1,0,none⟩ (.bool nb) → (∃ s',GoneJ w0 pb L R own qf C x y A B D s' (s'.nxt (i + 1)) (t + 1) W6 ∧ s'.n=s.n ∧ (s'.acts ≤ s.acts ∨ t + 1=B ∧ s'.acts ≤ s.acts + 2)) ∧ ∀ k,y + 4 ≤ k → k < bb → W6.heap[k]?=W.heap[k]?):=Lib.hid (by
       rintro W6 rfl
       have hy0:∀ j,y ≤ (⟨y,j,none⟩:Addr).block ∧ (⟨y,j,none⟩:Addr).block < y + 4:=fun j => ⟨by show y ≤ y;omega,by show y < y + 4;omega⟩
       have ho6:Only y (y + 4) w5 ((((((w5.setCell ⟨y,0,none⟩ (.int .i64 (na:Int))).setCell ⟨y,1,none⟩ (.int .i64 nk)).setCell ⟨y,2,none⟩ (.int .i64 nz)).setCell ⟨y,3,none⟩ (.int .i64 nr)).setCell ⟨y,4,none⟩ (.int .i64 nt)).setCell ⟨y + 1,0,none⟩ (.bool nb)) :=
        ((((((Only.refl _ _ w5).setCell (.inl (hy0 0)) _).setCell (.inl (hy0 1)) _).setCell (.inl (hy0 2)) _).setCell (.inl (hy0 3)) _).setCell (.inl (hy0 4)) _).setCell (p:=⟨y + 1,0,none⟩) (.inl ⟨by show y ≤ y + 1;omega,by show y + 1 < y + 4;omega⟩) _
       have hne:∀ c,c ≠ y → (((((w5.setCell ⟨y,0,none⟩ (.int .i64 (na:Int))).setCell ⟨y,1,none⟩ (.int .i64 nk)).setCell ⟨y,2,none⟩ (.int .i64 nz)).setCell ⟨y,3,none⟩ (.int .i64 nr)).setCell ⟨y,4,none⟩ (.int .i64 nt)).heap[c]?=w5.heap[c]?:=fun c h => (box1_ne h _ _).trans ((box1_ne h _ _).trans ((box1_ne h _ _).trans ((box1_ne h _ _).trans (box1_ne h _ _))))
       have hw:=box5 ⟨i,s.sh i⟩ ⟨na,⟨nk,nz,nr,nt⟩⟩ (show w5.heap[y]?=_ from HJ5.out.wt)
       have hJ6:=HJ5.out.boxes (o':=o) (t':=t + 1) ho6 (by rw [HOB.out.1];exact (box1_ne (by omega) _ _).trans hw) (by rw [HOB.out.2];exact box1 ((hne _ (by omega)).trans HJ5.out.mr) _) ((box1_ne (by omega) _ _).trans ((hne _ (by omega)).trans HJ5.out.tl)) ((box1_ne (by omega) _ _).trans ((hne _ (by omega)).trans HJ5.out.gd))
       refine ⟨⟨s2,by rw [HO.out];exact hJ6,HN4.out⟩,fun k h1 h2 => (ho6.block k (by omega) (.inr h1)).trans (HK5.out k h1 h2)⟩)
      go_wp2_with fail
      all_goals
       go_ret
       exact ⟨rfl,(HFIN.out _ rfl).1,fun k h1 h2 => (HFIN.out _ rfl).2 k h1 (by omega)⟩
theorem gone_all (w0:World) (pb:Nat) (L:Lay) (R:RLay) (own:Nat → Lb) (qf:Nat → Nat) (C x y:Nat) (A B D:Int) (s:St) (W:World) (ab:Nat) (hJ:GoneJ w0 pb L R own qf C x y A B D s (s.nxt 0) 0 W) (hab:W.heap[ab]?=some (.cells #[.pointer (some ⟨L.sb,0,none⟩)] 34 (0,0))) (hya:y + 4 ≤ ab) (hac:s.acts + 4 ≤ 1000000000000) :
 Calls Tryz.prog 121 #[.func (.func 77) #[] #[.pointer (some ⟨y + 3,0,none⟩),.pointer (some ⟨y + 1,0,none⟩),.pointer (some ⟨y,0,none⟩),.pointer (some ⟨x + 1,0,none⟩),.pointer (some ⟨y + 2,0,none⟩),.pointer (some ⟨x,0,none⟩)],.pointer (some ⟨ab,0,none⟩)] W fun e W' =>
  e=.returned (.tuple #[]) ∧ ∃ s' o t,GoneJ w0 pb L R own qf C x y A B D s' o t W' ∧ s'.n=s.n ∧ s'.acts ≤ s.acts + 2 ∧ (o=none ∨ 1 ≤ A ∧ t=A):=by
 have habl:=(Array.getElem?_eq_some_iff.1 hab).1
 have hn24:=hJ.pr.n24
 refine all1_fn (fun a s' W' => ∃ t:Int,GoneJ w0 pb L R own qf C x y A B D s' (s'.nxt a) t W' ∧ W'.heap[ab]?=some (.cells #[.pointer (some ⟨L.sb,0,none⟩)] 34 (0,0)) ∧ s'.n=s.n ∧ (s'.acts ≤ s.acts ∨ B ≤ t ∧ s'.acts ≤ s.acts + 2) ∧ 0 ≤ t ∧ t ≤ a ∧ (A < 1 ∨ t < A))
  (fun W' => ∃ s' o t,GoneJ w0 pb L R own qf C x y A B D s' o t W' ∧ s'.n=s.n ∧ s'.acts ≤ s.acts + 2 ∧ (o=none ∨ 1 ≤ A ∧ t=A)) L (64 * s.n) ab 77 _ W ?_ ?_ ?_ ?_ ?_ ?_ s ⟨0,hJ,hab,rfl,.inl (Nat.le_refl _),Int.le_refl _,Int.le_refl _,by omega⟩
 ·exact enters_of Tryz.func77 (by kernel_rfl) rfl
 ·rintro a s' W' ⟨t,hj,hb,hn,_⟩
  exact ⟨hj.pr.sp,by rw [hn],cell_of hb 0 rfl⟩
 ·rintro a s' W1 W2 ⟨t,hj,hb,hr⟩ ho
  exact ⟨t,hj.beyond ho (by omega),at_only ho hb (.inl habl),hr⟩
 ·rintro W1 W2 ⟨s',o,t,hj,hr⟩ ho
  exact ⟨s',o,t,hj.beyond ho (by omega),hr⟩
 ·rintro a s' W1 i ⟨t,hj,hb,hn,hac2,ht0,hta,hgo⟩ hnx hai hiN hsz
  have hno:s'.nxt a=some ⟨i,s'.sh i⟩:=St.nxt_some (by rw [hn];exact hnx)
  rw [hno] at hj
  have hc:=gone1_any w0 pb L R own qf C x y A B D s' i t W1 hj (by rw [hn];exact hiN) ⟨ht0,by omega⟩ hgo (by omega)
  refine hc.mono ?_
  rintro e W2 ⟨rfl,⟨s2,hj2,hn2,ha2⟩,hk⟩
  have hke:Kept4 W.heap.size W1 W2:=fun k h1 h2 => hk k (by omega) (by omega)
  have hb2:=(hk ab hya (by omega)).trans hb
  by_cases hA:A < 1
  ·exact .inl ⟨by rw [decide_eq_true hA];rfl,hke,s2,t + 1,hj2,hb2,hn2.trans hn,by omega,by omega,by omega,.inl hA⟩
  ·by_cases h2:t + 1 < A
   ·exact .inl ⟨by rw [decide_eq_true h2,Bool.or_true],hke,s2,t + 1,hj2,hb2,hn2.trans hn,by omega,by omega,by omega,.inr h2⟩
   ·exact .inr ⟨by rw [decide_eq_false hA,decide_eq_false h2];rfl,hke,s2,_,t + 1,hj2,hn2.trans hn,by omega,.inr ⟨by omega,by omega⟩⟩
 ·rintro a s' W1 ⟨t,hj,hb,hn,hac2,ht0,hta,hgo⟩ hnx
  exact ⟨s',_,t,hj,hn,by omega,.inl (St.nxt_none (by rw [hn];exact hnx))⟩
set_option maxRecDepth 100000 in
set_option maxHeartbeats 12800000 in
theorem gone_any (w:World) (pb:Nat) (L:Lay) (R:RLay) (s:St) (own:Nat → Lb) (qf:Nat → Nat) (C:Nat) (h:PairAt w pb L R s own qf C) (wh A B D:Int) (la:Option Addr) (ll lc:Nat) (hac:s.acts + 4 ≤ 1000000000000) (Q:Ending → World → Prop)
 (hQ:∀ w' s',PairAt w' pb L R s' own qf C → s'.n=s.n → s'.acts ≤ s.acts + 2 → PFr L R w own w' own → Q (.returned (.bool true)) w') :
 Calls Tryz.prog 33 #[.pointer (some ⟨pb,0,none⟩),opVal wh 17 A B D la ll lc] w Q:=by
 have HP:=Lib.hid h
 have HQ:=Lib.hid hQ
 have hcmp:∀ (fn:Fn) (ws bs:Array Value) (w:World),(binOp .eql 116 (.func fn ws bs) .nilFunc).run Tryz.prog w=.ok (.bool false) w:=fun _ _ _ _ => by kernel_rfl
 clear hQ h
 go_enter Tryz.func33,Tryz.ntmps33
 go_wp2_with fail
 have hs1:Still w ((w.alloc (.cells #[.pointer (some ⟨pb,0,none⟩)] 22)).alloc (opObj wh 17 A B D la ll lc)):=((Only.refl _ _ w).alloc _).alloc _
 have hx0:((w.alloc (.cells #[.pointer (some ⟨pb,0,none⟩)] 22)).alloc (opObj wh 17 A B D la ll lc)).heap[w.heap.size]?=some (.cells #[.pointer (some ⟨pb,0,none⟩)] 22 (0,0)):=box1_al (heap_alloc_new w _)
 have hx1:((w.alloc (.cells #[.pointer (some ⟨pb,0,none⟩)] 22)).alloc (opObj wh 17 A B D la ll lc)).heap[w.heap.size + 1]?=some (opObj wh 17 A B D la ll lc):=by
  have:=heap_alloc_new (w.alloc (.cells #[.pointer (some ⟨pb,0,none⟩)] 22)) (opObj wh 17 A B D la ll lc)
  rwa [World.size_alloc] at this
 generalize (w.alloc (.cells #[.pointer (some ⟨pb,0,none⟩)] 22)).alloc (opObj wh 17 A B D la ll lc)=w1 at *
 obtain ⟨x,hx⟩:∃ x,w.heap.size=x:=⟨_,rfl⟩
 rw [hx] at hx0 hx1 ⊢
 have hp1:=HP.out.still hs1
 refine (after_any w1 R s hp1.rf hp1.iv.refOk pb hp1.c1 0 (-1) (by omega) (Nat.zero_le _)).mono ?_
 rintro e w2 ⟨rfl,hs2⟩
 have hl0:=(Array.getElem?_eq_some_iff.1 hx0).1
 have hl1:=(Array.getElem?_eq_some_iff.1 hx1).1
 have hx0:=(hs2.block _ hl0 (.inl hl0)).trans hx0
 have hx1:=(hs2.block _ hl1 (.inl hl1)).trans hx1
 have HS2:=Lib.hid (Still.trans hs1 hs2)
 have hp2:=HP.out.still HS2.out
 have k0:=hp2.c0
 have hpl:=hp2.lt
 have p0:=cell_of (v:=.pointer (some ⟨pb,0,none⟩)) hx0 0 rfl
 have hl0:=(Array.getElem?_eq_some_iff.1 hx0).1
 have hl1:=(Array.getElem?_eq_some_iff.1 hx1).1
 have HX0:=Lib.hid hx0
 have HX1:=Lib.hid hx1
 have HXX:=Lib.hid hx
 obtain ⟨o,ho⟩:∃ o,s.nxt 0=o:=⟨_,rfl⟩
 have HO:=Lib.hid ho
 rw [ho]
 obtain ⟨⟨na,nk,nz,nr,nt⟩,hob⟩:∃ ob,o.getD ob0=ob:=⟨_,rfl⟩
 obtain ⟨nb,hnb⟩:∃ b,o.isSome=b:=⟨_,rfl⟩
 have HOB:=Lib.hid (And.intro hob hnb)
 unfold nxV
 rw [hob,hnb]
 unfold Ob.val
 dsimp only
 clear hs1 hs2 hp1 hp2 hx hx0 hx1 ho hob hnb
 go_upto_region 4 with fail
 have hy0:((((w2.alloc (.cells #[.int .i64 (na:Int),.int .i64 nk,.int .i64 nz,.int .i64 nr,.int .i64 nt] 95)).alloc (.cells #[.bool nb] 4)).alloc (.cells #[.int .i64 0] 3)).alloc (.cells #[.bool true] 4)).heap[w2.heap.size]?=some (obObj ⟨na,⟨nk,nz,nr,nt⟩⟩):=box1_al (box1_al (box1_al (heap_alloc_new w2 _)))
 have hy1:((((w2.alloc (.cells #[.int .i64 (na:Int),.int .i64 nk,.int .i64 nz,.int .i64 nr,.int .i64 nt] 95)).alloc (.cells #[.bool nb] 4)).alloc (.cells #[.int .i64 0] 3)).alloc (.cells #[.bool true] 4)).heap[w2.heap.size + 1]?=some (.cells #[.bool nb] 4 (0,0)):=box1_al (box1_al (by
  have:=heap_alloc_new (w2.alloc (.cells #[.int .i64 (na:Int),.int .i64 nk,.int .i64 nz,.int .i64 nr,.int .i64 nt] 95)) (.cells #[.bool nb] 4)
  rwa [World.size_alloc] at this))
 have hy2:((((w2.alloc (.cells #[.int .i64 (na:Int),.int .i64 nk,.int .i64 nz,.int .i64 nr,.int .i64 nt] 95)).alloc (.cells #[.bool nb] 4)).alloc (.cells #[.int .i64 0] 3)).alloc (.cells #[.bool true] 4)).heap[w2.heap.size + 2]?=some (.cells #[.int .i64 0] 3 (0,0)):=box1_al (by
  have:=heap_alloc_new ((w2.alloc (.cells #[.int .i64 (na:Int),.int .i64 nk,.int .i64 nz,.int .i64 nr,.int .i64 nt] 95)).alloc (.cells #[.bool nb] 4)) (.cells #[.int .i64 0] 3)
  rwa [World.size_alloc,World.size_alloc] at this)
 have hy3:((((w2.alloc (.cells #[.int .i64 (na:Int),.int .i64 nk,.int .i64 nz,.int .i64 nr,.int .i64 nt] 95)).alloc (.cells #[.bool nb] 4)).alloc (.cells #[.int .i64 0] 3)).alloc (.cells #[.bool true] 4)).heap[w2.heap.size + 3]?=some (.cells #[.bool true] 4 (0,0)):=by
  have:=heap_alloc_new (((w2.alloc (.cells #[.int .i64 (na:Int),.int .i64 nk,.int .i64 nz,.int .i64 nr,.int .i64 nt] 95)).alloc (.cells #[.bool nb] 4)).alloc (.cells #[.int .i64 0] 3)) (.cells #[.bool true] 4)
  rwa [World.size_alloc,World.size_alloc,World.size_alloc] at this
 have hs3:Still w2 ((((w2.alloc (.cells #[.int .i64 (na:Int),.int .i64 nk,.int .i64 nz,.int .i64 nr,.int .i64 nt] 95)).alloc (.cells #[.bool nb] 4)).alloc (.cells #[.int .i64 0] 3)).alloc (.cells #[.bool true] 4)):=((((Only.refl _ _ w2).alloc _).alloc _).alloc _).alloc _
 generalize (((w2.alloc (.cells #[.int .i64 (na:Int),.int .i64 nk,.int .i64 nz,.int .i64 nr,.int .i64 nt] 95)).alloc (.cells #[.bool nb] 4)).alloc (.cells #[.int .i64 0] 3)).alloc (.cells #[.bool true] 4)=w3 at *
 obtain ⟨y,hy⟩:∃ y,w2.heap.size=y:=⟨_,rfl⟩
 have hwy:w.heap.size ≤ y ∧ x + 1 < y:=⟨by rw [← hy];exact HS2.out.size,by omega⟩
 rw [hy] at hy0 hy1 hy2 hy3
 have hJ3:GoneJ w pb L R own qf C x y A B D s o 0 w3:=⟨HP.out.still (Still.trans HS2.out hs3),PFr.of (Still.trans HS2.out hs3),by rw [HXX.out];exact Nat.le_refl _,hwy.2,by rw [← HXX.out];exact HP.out.rf.top,fun g hg => by rw [← HXX.out];exact HP.out.olt g hg,at_only hs3 HX0.out (.inl hl0),⟨wh,la,ll,lc,at_only hs3 HX1.out (.inl hl1)⟩,by rw [HOB.out.1];exact hy0,by rw [HOB.out.2];exact hy1,hy2,hy3⟩
 have HJ3:=Lib.hid hJ3
 have p0:=cell_of (v:=.pointer (some ⟨pb,0,none⟩)) hJ3.px 0 rfl
 have k0:=hJ3.pr.c0
 have hpl3:=hJ3.pr.lt
 have hlt3:y + 3 < w3.heap.size:=hJ3.lt
 rw [hy]
 clear hs3 hy0 hy1 hy2 hy3 hJ3 hl0 hl1 hpl HX0 HX1 hy
 go_wp2_with fail
 refine (sall_any _ _).mono ?_
 rintro e w4 ⟨rfl,hw4⟩
 have hs4:Still w3 w4:=by rw [hw4];exact (Only.refl _ _ w3).alloc _
 have hab:w4.heap[w3.heap.size]?=some (.cells #[.pointer (some ⟨L.sb,0,none⟩)] 34):=by rw [hw4];exact heap_alloc_new w3 _
 have hJ4:=HJ3.out.still hs4
 obtain ⟨ab,habe⟩:∃ ab,w3.heap.size=ab:=⟨_,rfl⟩
 rw [habe] at hab ⊢
 have HJ4:=Lib.hid hJ4
 have HAB:=Lib.hid hab
 have hlt4:y + 3 < w4.heap.size:=hJ4.lt
 have hya:y + 4 ≤ ab:=by omega
 have HOO:=Lib.hid (HO.out)
 rw [← HO.out] at HJ4
 have HGA:=Lib.hid (gone_all w pb L R own qf C x y A B D s w4 ab HJ4.out hab hya hac)
 clear hw4 hs4 hab hJ4 habe p0 k0 hpl3 hlt3
 go_wp2_with fail
 refine HGA.out.mono ?_
 rintro e w5 ⟨rfl,s',o',t,hj5,hn5,ha5,hot⟩
 have HE:Hid (Q (.returned (.bool true)) w5):=Lib.hid (HQ.out w5 s' hj5.pr hn5 ha5 hj5.fr)
 obtain ⟨wh5,la5,ll5,lc5,hbx5⟩:=hj5.bx
 have g0:=cell_of (v:=.bool true) hj5.gd 0 rfl
 have t0:=cell_of (v:=.int .i64 t) hj5.tl 0 rfl
 have m0:=cell_of (v:=.bool o'.isSome) hj5.mr 0 rfl
 have b2:=cell_of (v:=.int .i64 A) hbx5 2 rfl
 have hlt5:y + 3 < w5.heap.size:=hj5.lt
 clear hj5 hn5 ha5 hbx5 HGA hlt4
 cases o' with
 | none =>
  rw [Option.isSome_none] at m0
  clear hot
  go_wp2_with fail
  exact HE.out
 | some ob =>
  rw [Option.isSome_some] at m0
  obtain ⟨h1,rfl⟩:1 ≤ A ∧ t=A:=hot.resolve_left (by intro e;cases e)
  have e1:decide (1 ≤ t)=true:=decide_eq_true h1
  have e2:(t == t)=true:=by simp
  go_wp2_with fail
  exact HE.out
set_option maxRecDepth 100000 in
set_option maxHeartbeats 3200000 in
theorem looked17 (w:World) (pb:Nat) (L:Lay) (R:RLay) (s:St) (own:Nat → Lb) (qf:Nat → Nat) (C:Nat) (h:PairAt w pb L R s own qf C) (wh a b c:Int) (la:Option Addr) (ll lc:Nat) (hac:s.acts + 4 ≤ 1000000000000) (Q:Ending → World → Prop)
 (hQ:∀ w' s',PairAt w' pb L R s' own qf C → s'.n=s.n → s'.acts ≤ s.acts + 2 → PFr L R w own w' own → Q (.returned (.bool true)) w') :
 Calls Tryz.prog 13 #[.pointer (some ⟨pb,0,none⟩),opVal wh 17 a b c la ll lc] w Q:=by
 have hsb:Still w (w.alloc (opObj wh 17 a b c la ll lc)):=(Only.refl _ _ w).alloc _
 have HG:=Lib.hid (fun Q hQ => gone_any _ pb L R s own qf C (h.still hsb) wh a b c la ll lc hac Q hQ)
 have HSB:=Lib.hid hsb
 have HQ:=Lib.hid hQ
 clear h hsb hQ
 go_enter Tryz.func13,Tryz.ntmps13
 go_wp2_with fail
 refine HG.out _ (fun w2 s' hp2 hn2 ha2 hf2 => ?_)
 have HE:Hid (Q (.returned (.bool true)) w2):=Lib.hid (HQ.out w2 s' hp2 hn2 ha2 ((PFr.of HSB.out).trans hf2))
 clear hp2 hn2 ha2 hf2 HG
 go_wp2_with fail
 exact HE.out
end Go.Proofs.YtfbcdmhmpfijjaaGreatDoor
