/-
  The walk of space.tidy.
-/
import Derived.Test.YtfbcdmhmpfijjaaGreatDoorQ11
set_option linter.unusedVariables false
set_option linter.unusedSimpArgs false
set_option linter.unusedSectionVars false
namespace Go.Proofs.YtfbcdmhmpfijjaaGreatDoor
open Go Go.RowKit
def St.drop (s:St) (a:Nat):St :=
 { s with
  S:=updM s.S (a:Int) none
  Q:=if 0 < (s.sh a).s then updM s.Q (s.sh a).s none else s.Q
  B:=fun j => if j=0 then setS (s.B 0) a false else s.B j
  room:=s.room - Sp.wide (s.sh a).z
  P:=if Sp.cls (s.sh a).z=8 then clrPg s.P (a / 64) (max 1 (s.P (a / 64)).r.toNat) else s.P
  low:=if Sp.cls (s.sh a).z=8 then min s.low (a / 64) else s.low }
def St.Givable (s:St) (p:Nat):Prop:=p < s.n ∧ (s.P p).free=false ∧ (s.P p).k ≠ 3 ∧ 0 ≤ (s.P p).r ∧ p + max 1 (s.P p).r.toNat ≤ s.n
theorem St.Givable.congr {s s':St} {p:Nat} (h:s.Givable p) (hn:s'.n=s.n) (hP:s'.P=s.P):s'.Givable p:=by
 unfold St.Givable at h ⊢
 rw [hn,hP];exact h
theorem SpaceAt.give {w:World} {L:Lay} {s:St} (h:SpaceAt w L s) (p:Nat) (hg:s.Givable p) :
 Calls Tryz.prog 146 #[.pointer (some ⟨L.tb,0,none⟩),.int .i64 (p:Int)] w fun e w' => e=.returned (.int .i64 0) ∧ SpaceAt w' L { s with P:=clrPg s.P p (max 1 (s.P p).r.toNat),low:=min s.low p } ∧ Only L.lo L.hi w w':=by
 obtain ⟨free,ht⟩:=h.table
 obtain ⟨g1,g2,g3,g4,g5⟩:=hg
 refine (give_any _ _ _ _ _ _ p (s.P p).r.toNat s.low _ _ w ht g1 g2 g3 (by omega) g5).mono ?_
 rintro e w' ⟨rfl,⟨free',t⟩,o⟩
 have:=h.lowle
 exact ⟨rfl,h.updT o t (by omega),h.only 2 (by omega) o⟩
theorem SpaceAt.delS {w:World} {L:Lay} {s:St} (h:SpaceAt w L s) {x:Int} (hx:(Lit.int .i64 x).wf=true) (ty:TypeId) :
 ∃ w',(Builtin.delete_ #[79,3] ty #[.map (some L.sm),.int .i64 x]).run Tryz.prog w=.ok (.tuple #[]) w' ∧ SpaceAt w' L { s with S:=updM s.S x none } ∧ Only L.lo L.hi w w':=by
 obtain ⟨w',hrun,hm,ho⟩:=h.shapes.del Tryz.underlying79 hx ty
 refine ⟨w',hrun,?_,h.only 3 (by omega) ho⟩
 refine h.updS ho (m:=s.acts) ?_ (Nat.le_refl _)
 rw [show (fun y => Option.map Sh.v (updM s.S x none y))=updM (fun y => Option.map Sh.v (s.S y)) x none from (updM_map _ _ _ _).symm]
 exact hm
theorem SpaceAt.delQ {w:World} {L:Lay} {s:St} (h:SpaceAt w L s) {x:Int} (hx:(Lit.int .i64 x).wf=true) (ty:TypeId) :
 ∃ w',(Builtin.delete_ #[80,3] ty #[.map (some L.qm),.int .i64 x]).run Tryz.prog w=.ok (.tuple #[]) w' ∧ SpaceAt w' L { s with Q:=updM s.Q x none } ∧ Only L.lo L.hi w w':=by
 obtain ⟨w',hrun,hm,ho⟩:=h.places.del Tryz.underlying80 hx ty
 refine ⟨w',hrun,?_,h.only 4 (by omega) ho⟩
 refine h.updQ ho (m:=s.acts) ?_ (Nat.le_refl _)
 rw [show (fun y => Option.map (Value.int IntKind.i64) (updM s.Q x none y))=updM (fun y => Option.map (Value.int IntKind.i64) (s.Q y)) x none from (updM_map _ _ _ _).symm]
 exact hm
theorem wpList_delete_eq {P:Program} {w:World} {ops:Array Oper} {rest:List Oper} {o:Oper} {a:Act} {Q:Exit → Act → World → Prop}
 (hg:o.guard=none) (m x:Operand) (t k:TypeId) (hop:o.op=Op.call { callee:=Callee.builtin Builtin.delete,args:=#[m,x],argTypes:=#[t,k] })
 (mv xv v':Value) (w':World) (hm:a.eval m=mv) (hx:a.eval x=xv) (hrun:(Builtin.delete_ #[t,k] o.type #[mv,xv]).run P w=.ok v' w') (hK:wpList P ops Q rest (a.put o.dst v') w') :
 wpList P ops Q (o :: rest) a w :=
 wpList_plain hg fun K hK' => by
  unfold Oper.wp
  simp [execOp,hop,resolve,invoke,builtin,hm,hx,hrun,Result.andThen]
  exact hK' _ _ hK
theorem step_delete_eq {P:Program} {ops:Array Oper} {o:Oper} {a:Act} {w:World} {K:Act → World → Prop} {Q:Exit → Act → World → Prop} {E:Prop}
 (hg:o.guard=none) (m x:Operand) (t k:TypeId) (hop:o.op=Op.call { callee:=Callee.builtin Builtin.delete,args:=#[m,x],argTypes:=#[t,k] })
 (mv xv v':Value) (w':World) (hm:a.eval m=mv) (hx:a.eval x=xv) (hrun:(Builtin.delete_ #[t,k] o.type #[mv,xv]).run P w=.ok v' w') (hK:K (a.put o.dst v') w') :
 if Region.wanted o (yielded ops a.tmps)=true then Oper.wp P o a w K Q else E:=by
 have hw:Region.wanted o (yielded ops a.tmps)=true:=by simp [Region.wanted,hg]
 rw [if_pos hw]
 unfold Oper.wp
 simp [execOp,hop,resolve,invoke,builtin,hm,hx,hrun,Result.andThen]
 exact hK
set_option maxRecDepth 100000 in
set_option maxHeartbeats 6400000 in
theorem drop_any (w:World) (L:Lay) (s:St) (h:SpaceAt w L s) (a:Nat) (ha:a < 64 * s.n) (hser:-9223372036854775808 ≤ (s.sh a).s ∧ (s.sh a).s ≤ 9223372036854775807) (hrm:-1000000000000000 ≤ s.room ∧ s.room ≤ 1000000000000000)
 (hgv:Sp.cls (s.sh a).z=8 → s.Givable (a / 64)) (Q:Ending → World → Prop)
 (hQ:∀ w',SpaceAt w' L (s.drop a) → Only L.lo L.hi w w' → Q (.returned (.tuple #[])) w') :
 Calls Tryz.prog 137 #[.pointer (some ⟨L.sb,0,none⟩),.int .i64 (a:Int)] w Q:=by
 have hn2:=h.n2
 have HQ:=Lib.hid hQ;clear hQ
 have HS:=Lib.hid h
 have HWA:=Lib.hid (wf_of (x:=(a:Int)) (by omega))
 have HWX:=Lib.hid (wf_of (x:=(s.sh a).s) hser)
 have hl:=h.lookSh a HWA.out
 have hc11:=h.c11
 have hlt:=h.sblt
 have HGV:=Lib.hid hgv
 obtain ⟨rm,hrm5⟩:∃ rm,s.room=rm:=⟨_,rfl⟩
 have HRM:=Lib.hid hrm5
 have HDR:Hid (s.drop a={ s with S:=updM s.S (a:Int) none,Q:=if 0 < (s.sh a).s then updM s.Q (s.sh a).s none else s.Q,B:=fun j => if j=0 then setS (s.B 0) a false else s.B j,room:=rm - Sp.wide (s.sh a).z,P:=if Sp.cls (s.sh a).z=8 then clrPg s.P (a / 64) (max 1 (s.P (a / 64)).r.toNat) else s.P,low:=if Sp.cls (s.sh a).z=8 then min s.low (a / 64) else s.low }):=Lib.hid (by rw [← hrm5];rfl)
 rw [hrm5] at hrm
 obtain ⟨⟨k,z,q,t⟩,hx⟩:∃ x,s.sh a=x:=⟨_,rfl⟩
 rw [hx] at hl HWX HGV HDR
 dsimp only at hl HWX HGV HDR
 have HWD:=Lib.hid (fun w => wide_any z w)
 have HOF:=Lib.hid (fun w => of_any z w)
 have hwle:=Sp.wide_le z
 obtain ⟨wd,hwd⟩:∃ wd,Sp.wide z=wd:=⟨_,rfl⟩
 rw [hwd] at HWD HDR hwle
 have hs3:IntKind.i64.wrap (rm - wd)=rm - wd:=by rw [IntKind.wrap_i64];omega
 clear h hgv hser hrm5 hx hwd
 have hxb:=heap_alloc_new w (.cells #[.int .i64 k,.int .i64 z,.int .i64 q,.int .i64 t] 92)
 obtain ⟨w1,hdel,h1,ho1⟩:=(HS.out.alloc (.cells #[.int .i64 k,.int .i64 z,.int .i64 q,.int .i64 t] 92)).delS HWA.out 0
 have HXH:Hid (L.hi ≤ w.heap.size):=Lib.hid HS.out.top
 have HX:Hid (∀ w',Only L.lo L.hi (w.alloc (.cells #[.int .i64 k,.int .i64 z,.int .i64 q,.int .i64 t] 92)) w' → w'.heap[w.heap.size]?=some (.cells #[.int .i64 k,.int .i64 z,.int .i64 q,.int .i64 t] 92)):=Lib.hid fun w' ho => only_new ho HXH.out
 have hxb1:=HX.out _ ho1
 have hlt1:=(Array.getElem?_eq_some_iff.1 hxb1).1
 have hx2:=cell_of (v:=.int .i64 q) hxb1 2 rfl
 have H1:=Lib.hid h1
 have HO1:=Lib.hid ho1
 clear h1 ho1 hxb hxb1
 have HDEL:=Lib.hid hdel;clear hdel
 obtain ⟨c8,hc8⟩:∃ c8,Sp.cls z=c8:=⟨_,rfl⟩
 rw [hc8] at HOF HDR HGV
 clear hc8
 have ha0:(0:Int) ≤ (a:Int):=by omega
 by_cases hq:0 < q
 ·by_cases h8:c8=8
  ·subst h8
   obtain ⟨p,hp⟩:∃ p,a / 64=p:=⟨_,rfl⟩
   have HP:=Lib.hid hp
   have HGP0:Hid (s.Givable p):=Lib.hid (by rw [← hp];exact HGV.out (by trivial))
   have hdiv:(a:Int) / 64=(p:Int):=by omega
   have hpM:(p:Int) ≤ 262144:=by omega
   have hp0:(0:Int) ≤ (p:Int):=by omega
   clear hp
   have hx2':=hx2
   obtain ⟨w2,hdel,h2,ho2⟩:=H1.out.drew.delQ HWX.out 0
   have hc12:=H1.out.c12
   have hd12:=h2.c12
   have ho12:Only L.lo L.hi w1 w2:=(Only.refl L.lo L.hi w1).drew.trans ho2
   have hxb2:=HX.out _ (HO1.out.trans ho12)
   have hy2:=cell_of (v:=.int .i64 q) hxb2 2 rfl
   have HDEL2:=Lib.hid hdel
   obtain ⟨s2,hs2⟩:∃ s2:St,s2={ s with S:=updM s.S (a:Int) none,Q:=updM s.Q q none }:=⟨_,rfl⟩
   have H2:Hid (SpaceAt w2 L s2):=Lib.hid (by rw [hs2];exact h2)
   have HO2:=Lib.hid (((Only.refl L.lo L.hi w).alloc _).trans (HO1.out.trans ho12))
   have HX2:Hid (∀ w',Only L.lo L.hi w2 w' → w'.heap[w.heap.size]?=some (.cells #[.int .i64 k,.int .i64 z,.int .i64 q,.int .i64 t] 92)):=Lib.hid fun w' ho => HX.out _ ((HO1.out.trans ho12).trans ho)
   have HA2:Hid (a < 64 * s2.n):=Lib.hid (by rw [hs2];exact ha)
   have HRM2:Hid (s2.room=rm):=Lib.hid (by rw [hs2];exact HRM.out)
   rw [if_pos hq] at HDR
   have HDR:Hid (s.drop a={ s2 with B:=fun j => if j=0 then setS (s2.B 0) a false else s2.B j,room:=rm - wd,P:=if (8:Int)=8 then clrPg s2.P (a / 64) (max 1 (s2.P (a / 64)).r.toNat) else s2.P,low:=if (8:Int)=8 then min s2.low (a / 64) else s2.low }):=Lib.hid (by rw [HDR.out,hs2])
   have HGP:Hid (s2.Givable p):=Lib.hid ((HGP0.out).congr (by rw [hs2]) (by rw [hs2]))
   have hd:decide (0 < q)=true:=decide_eq_true hq
   clear hdel h2 ho2 ho12 hxb2 hs2 ha
   go_enter Tryz.func137,Tryz.ntmps137
   go_wp2_with (at_delete;refine wpList_delete_eq rfl _ _ 79 3 rfl _ _ _ _ rfl rfl HDEL.out ?_)
   go_region_held3 (fun w' => w'.cell? ⟨L.sb,12,none⟩=some (.map (some L.qm)) ∧ w'.cell? ⟨w.heap.size,2,none⟩=some (.int .i64 q)) (first | exact ⟨hc12,hx2⟩ | exact ⟨hd12,hy2⟩) ((refine step_delete_eq rfl _ _ 80 3 rfl _ _ _ _ rfl rfl HDEL2.out ?_))
   clear hc12 hd12 hy2 hx2'
   have hc2:=H2.out.c2
   go_wp2_with fail
   refine (H2.out.clear 0 (by omega) a HA2.out).mono ?_
   rintro e w3 ⟨rfl,h3,ho3⟩
   have hR3:((s2.setB 0 (setS (s2.B 0) a false)).room)=rm:=HRM2.out
   obtain ⟨s3,hs3e⟩:∃ s3,s2.setB 0 (setS (s2.B 0) a false)=s3:=⟨_,rfl⟩
   have HS3:=Lib.hid hs3e
   rw [hs3e] at h3 hR3
   have hc14:=h3.c14
   rw [hR3] at hc14
   have hf14:=h3.f 14
   have hlt3:=h3.sblt
   have hxc:=HX2.out _ ho3
   have hx1:=cell_of (v:=.int .i64 z) hxc 1 rfl
   have H3:=Lib.hid h3
   have HO3:=Lib.hid (HO2.out.trans ho3)
   have HX3:Hid (∀ w',Only L.lo L.hi w3 w' → w'.heap[w.heap.size]?=some (.cells #[.int .i64 k,.int .i64 z,.int .i64 q,.int .i64 t] 92)):=Lib.hid fun w' ho => HX2.out _ (ho3.trans ho)
   have HR3:=Lib.hid hR3
   clear h3 ho3 hxc hc2 hs3e hR3
   go_wp2_with fail
   go_region_law (first | (go_simp;go_at_call 49;refine (HWD.out _).mono ?_;rintro e w10 ⟨rfl,hs10⟩;have H10:=Lib.hid (H3.out.drew.still hs10);have HOA:=Lib.hid (HO3.out.drew.andStill hs10);have HOB:=Lib.hid ((Only.refl L.lo L.hi w3).drew.andStill hs10);have hd14:=H10.out.c14;rw [HR3.out] at hd14;have hf14b:=H10.out.f 14;clear hs10))
   all_goals
    have h11:=H10.out.setRoom (rm - wd)
    have hoC:=H10.out.only 0 (by omega) (only_cell w10 L.sb 14 (.int .i64 (rm - wd)))
    have hxc:=HX3.out _ (HOB.out.trans hoC)
    have hx1c:=cell_of (v:=.int .i64 z) hxc 1 rfl
    have H11:=Lib.hid h11
    have HO11:=Lib.hid (HOA.out.trans hoC)
    clear h11 hoC hxc
    generalize w10.setCell ⟨L.sb,14,none⟩ (.int .i64 (rm - wd))=w11 at *
    go_wp2_with fail
    refine (HOF.out _).mono ?_
    rintro e w12 ⟨rfl,hs12⟩
    have H12:=Lib.hid (H11.out.still hs12)
    have HO12:=Lib.hid (HO11.out.andStill hs12)
    clear hs12 hx1c
    have hc1:=H12.out.c1
    go_wp2_with fail
    have hgp3:({ s3 with room:=rm - wd }:St).Givable p:=HGP.out.congr (by rw [← HS3.out];rfl) (by rw [← HS3.out];rfl)
    (with_reducible refine (H12.out.give p hgp3).mono ?_)
    rintro e w13 ⟨rfl,h13,ho13⟩
    have hfin:SpaceAt w13 L (s.drop a):=by
     rw [HDR.out,if_pos trivial,if_pos trivial,HP.out]
     rw [← HS3.out] at h13
     exact h13
    have HFIN:=Lib.hid hfin;have HOF2:=Lib.hid (HO12.out.trans ho13)
    clear hfin h13 ho13
    go_wp2
    go_end0
    exact HQ.out _ HFIN.out HOF2.out
  ·have H8:=Lib.hid h8
   have hb8:(c8 == 8)=false:=beq_eq_false_iff_ne.2 h8
   clear h8
   have hx2':=hx2
   obtain ⟨w2,hdel,h2,ho2⟩:=H1.out.drew.delQ HWX.out 0
   have hc12:=H1.out.c12
   have hd12:=h2.c12
   have ho12:Only L.lo L.hi w1 w2:=(Only.refl L.lo L.hi w1).drew.trans ho2
   have hxb2:=HX.out _ (HO1.out.trans ho12)
   have hy2:=cell_of (v:=.int .i64 q) hxb2 2 rfl
   have HDEL2:=Lib.hid hdel
   obtain ⟨s2,hs2⟩:∃ s2:St,s2={ s with S:=updM s.S (a:Int) none,Q:=updM s.Q q none }:=⟨_,rfl⟩
   have H2:Hid (SpaceAt w2 L s2):=Lib.hid (by rw [hs2];exact h2)
   have HO2:=Lib.hid (((Only.refl L.lo L.hi w).alloc _).trans (HO1.out.trans ho12))
   have HX2:Hid (∀ w',Only L.lo L.hi w2 w' → w'.heap[w.heap.size]?=some (.cells #[.int .i64 k,.int .i64 z,.int .i64 q,.int .i64 t] 92)):=Lib.hid fun w' ho => HX.out _ ((HO1.out.trans ho12).trans ho)
   have HA2:Hid (a < 64 * s2.n):=Lib.hid (by rw [hs2];exact ha)
   have HRM2:Hid (s2.room=rm):=Lib.hid (by rw [hs2];exact HRM.out)
   rw [if_pos hq] at HDR
   have HDR:Hid (s.drop a={ s2 with B:=fun j => if j=0 then setS (s2.B 0) a false else s2.B j,room:=rm - wd,P:=if c8=8 then clrPg s2.P (a / 64) (max 1 (s2.P (a / 64)).r.toNat) else s2.P,low:=if c8=8 then min s2.low (a / 64) else s2.low }):=Lib.hid (by rw [HDR.out,hs2])
   have hd:decide (0 < q)=true:=decide_eq_true hq
   clear hdel h2 ho2 ho12 hxb2 hs2 ha
   go_enter Tryz.func137,Tryz.ntmps137
   go_wp2_with (at_delete;refine wpList_delete_eq rfl _ _ 79 3 rfl _ _ _ _ rfl rfl HDEL.out ?_)
   go_region_held3 (fun w' => w'.cell? ⟨L.sb,12,none⟩=some (.map (some L.qm)) ∧ w'.cell? ⟨w.heap.size,2,none⟩=some (.int .i64 q)) (first | exact ⟨hc12,hx2⟩ | exact ⟨hd12,hy2⟩) ((refine step_delete_eq rfl _ _ 80 3 rfl _ _ _ _ rfl rfl HDEL2.out ?_))
   clear hc12 hd12 hy2 hx2'
   have hc2:=H2.out.c2
   go_wp2_with fail
   refine (H2.out.clear 0 (by omega) a HA2.out).mono ?_
   rintro e w3 ⟨rfl,h3,ho3⟩
   have hR3:((s2.setB 0 (setS (s2.B 0) a false)).room)=rm:=HRM2.out
   obtain ⟨s3,hs3e⟩:∃ s3,s2.setB 0 (setS (s2.B 0) a false)=s3:=⟨_,rfl⟩
   have HS3:=Lib.hid hs3e
   rw [hs3e] at h3 hR3
   have hc14:=h3.c14
   rw [hR3] at hc14
   have hf14:=h3.f 14
   have hlt3:=h3.sblt
   have hxc:=HX2.out _ ho3
   have hx1:=cell_of (v:=.int .i64 z) hxc 1 rfl
   have H3:=Lib.hid h3
   have HO3:=Lib.hid (HO2.out.trans ho3)
   have HX3:Hid (∀ w',Only L.lo L.hi w3 w' → w'.heap[w.heap.size]?=some (.cells #[.int .i64 k,.int .i64 z,.int .i64 q,.int .i64 t] 92)):=Lib.hid fun w' ho => HX2.out _ (ho3.trans ho)
   have HR3:=Lib.hid hR3
   clear h3 ho3 hxc hc2 hs3e hR3
   go_wp2_with fail
   go_region_law (first | (go_simp;go_at_call 49;refine (HWD.out _).mono ?_;rintro e w10 ⟨rfl,hs10⟩;have H10:=Lib.hid (H3.out.drew.still hs10);have HOA:=Lib.hid (HO3.out.drew.andStill hs10);have HOB:=Lib.hid ((Only.refl L.lo L.hi w3).drew.andStill hs10);have hd14:=H10.out.c14;rw [HR3.out] at hd14;have hf14b:=H10.out.f 14;clear hs10))
   all_goals
    have h11:=H10.out.setRoom (rm - wd)
    have hoC:=H10.out.only 0 (by omega) (only_cell w10 L.sb 14 (.int .i64 (rm - wd)))
    have hxc:=HX3.out _ (HOB.out.trans hoC)
    have hx1c:=cell_of (v:=.int .i64 z) hxc 1 rfl
    have H11:=Lib.hid h11
    have HO11:=Lib.hid (HOA.out.trans hoC)
    clear h11 hoC hxc
    generalize w10.setCell ⟨L.sb,14,none⟩ (.int .i64 (rm - wd))=w11 at *
    go_wp2_with fail
    refine (HOF.out _).mono ?_
    rintro e w12 ⟨rfl,hs12⟩
    have hfin:SpaceAt w12 L (s.drop a):=by
     rw [HDR.out,if_neg H8.out,if_neg H8.out]
     have:=H11.out.still hs12
     rw [← HS3.out] at this
     exact this
    have HFIN:=Lib.hid hfin;have HOF2:=Lib.hid (HO11.out.andStill hs12)
    clear hfin hs12
    go_wp2
    go_end0
    exact HQ.out _ HFIN.out HOF2.out
 ·by_cases h8:c8=8
  ·subst h8
   obtain ⟨p,hp⟩:∃ p,a / 64=p:=⟨_,rfl⟩
   have HP:=Lib.hid hp
   have HGP0:Hid (s.Givable p):=Lib.hid (by rw [← hp];exact HGV.out (by trivial))
   have hdiv:(a:Int) / 64=(p:Int):=by omega
   have hpM:(p:Int) ≤ 262144:=by omega
   have hp0:(0:Int) ≤ (p:Int):=by omega
   clear hp
   have hd:decide (0 < q)=false:=decide_eq_false hq
   obtain ⟨s2,hs2⟩:∃ s2:St,s2={ s with S:=updM s.S (a:Int) none }:=⟨_,rfl⟩
   have H2:Hid (SpaceAt w1 L s2):=Lib.hid (by rw [hs2];exact H1.out)
   have HO2:=Lib.hid (((Only.refl L.lo L.hi w).alloc _).trans HO1.out)
   have HX2:Hid (∀ w',Only L.lo L.hi w1 w' → w'.heap[w.heap.size]?=some (.cells #[.int .i64 k,.int .i64 z,.int .i64 q,.int .i64 t] 92)):=Lib.hid fun w' ho => HX.out _ (HO1.out.trans ho)
   have HA2:Hid (a < 64 * s2.n):=Lib.hid (by rw [hs2];exact ha)
   have HRM2:Hid (s2.room=rm):=Lib.hid (by rw [hs2];exact HRM.out)
   rw [if_neg hq] at HDR
   have HDR:Hid (s.drop a={ s2 with B:=fun j => if j=0 then setS (s2.B 0) a false else s2.B j,room:=rm - wd,P:=if (8:Int)=8 then clrPg s2.P (a / 64) (max 1 (s2.P (a / 64)).r.toNat) else s2.P,low:=if (8:Int)=8 then min s2.low (a / 64) else s2.low }):=Lib.hid (by rw [HDR.out,hs2])
   have HGP:Hid (s2.Givable p):=Lib.hid ((HGP0.out).congr (by rw [hs2]) (by rw [hs2]))
   clear hs2 ha hq
   have hc2:=H2.out.c2
   go_enter Tryz.func137,Tryz.ntmps137
   go_wp2_with (at_delete;refine wpList_delete_eq rfl _ _ 79 3 rfl _ _ _ _ rfl rfl HDEL.out ?_)
   obtain ⟨w2,rfl⟩:∃ w2,w1=w2:=⟨_,rfl⟩
   refine (H2.out.clear 0 (by omega) a HA2.out).mono ?_
   rintro e w3 ⟨rfl,h3,ho3⟩
   have hR3:((s2.setB 0 (setS (s2.B 0) a false)).room)=rm:=HRM2.out
   obtain ⟨s3,hs3e⟩:∃ s3,s2.setB 0 (setS (s2.B 0) a false)=s3:=⟨_,rfl⟩
   have HS3:=Lib.hid hs3e
   rw [hs3e] at h3 hR3
   have hc14:=h3.c14
   rw [hR3] at hc14
   have hf14:=h3.f 14
   have hlt3:=h3.sblt
   have hxc:=HX2.out _ ho3
   have hx1:=cell_of (v:=.int .i64 z) hxc 1 rfl
   have H3:=Lib.hid h3
   have HO3:=Lib.hid (HO2.out.trans ho3)
   have HX3:Hid (∀ w',Only L.lo L.hi w3 w' → w'.heap[w.heap.size]?=some (.cells #[.int .i64 k,.int .i64 z,.int .i64 q,.int .i64 t] 92)):=Lib.hid fun w' ho => HX2.out _ (ho3.trans ho)
   have HR3:=Lib.hid hR3
   clear h3 ho3 hxc hc2 hs3e hR3
   go_wp2_with fail
   go_region_law (first | (go_simp;go_at_call 49;refine (HWD.out _).mono ?_;rintro e w10 ⟨rfl,hs10⟩;have H10:=Lib.hid (H3.out.drew.still hs10);have HOA:=Lib.hid (HO3.out.drew.andStill hs10);have HOB:=Lib.hid ((Only.refl L.lo L.hi w3).drew.andStill hs10);have hd14:=H10.out.c14;rw [HR3.out] at hd14;have hf14b:=H10.out.f 14;clear hs10))
   all_goals
    have h11:=H10.out.setRoom (rm - wd)
    have hoC:=H10.out.only 0 (by omega) (only_cell w10 L.sb 14 (.int .i64 (rm - wd)))
    have hxc:=HX3.out _ (HOB.out.trans hoC)
    have hx1c:=cell_of (v:=.int .i64 z) hxc 1 rfl
    have H11:=Lib.hid h11
    have HO11:=Lib.hid (HOA.out.trans hoC)
    clear h11 hoC hxc
    generalize w10.setCell ⟨L.sb,14,none⟩ (.int .i64 (rm - wd))=w11 at *
    go_wp2_with fail
    refine (HOF.out _).mono ?_
    rintro e w12 ⟨rfl,hs12⟩
    have H12:=Lib.hid (H11.out.still hs12)
    have HO12:=Lib.hid (HO11.out.andStill hs12)
    clear hs12 hx1c
    have hc1:=H12.out.c1
    go_wp2_with fail
    have hgp3:({ s3 with room:=rm - wd }:St).Givable p:=HGP.out.congr (by rw [← HS3.out];rfl) (by rw [← HS3.out];rfl)
    (with_reducible refine (H12.out.give p hgp3).mono ?_)
    rintro e w13 ⟨rfl,h13,ho13⟩
    have hfin:SpaceAt w13 L (s.drop a):=by
     rw [HDR.out,if_pos trivial,if_pos trivial,HP.out]
     rw [← HS3.out] at h13
     exact h13
    have HFIN:=Lib.hid hfin;have HOF2:=Lib.hid (HO12.out.trans ho13)
    clear hfin h13 ho13
    go_wp2
    go_end0
    exact HQ.out _ HFIN.out HOF2.out
  ·have H8:=Lib.hid h8
   have hb8:(c8 == 8)=false:=beq_eq_false_iff_ne.2 h8
   clear h8
   have hd:decide (0 < q)=false:=decide_eq_false hq
   obtain ⟨s2,hs2⟩:∃ s2:St,s2={ s with S:=updM s.S (a:Int) none }:=⟨_,rfl⟩
   have H2:Hid (SpaceAt w1 L s2):=Lib.hid (by rw [hs2];exact H1.out)
   have HO2:=Lib.hid (((Only.refl L.lo L.hi w).alloc _).trans HO1.out)
   have HX2:Hid (∀ w',Only L.lo L.hi w1 w' → w'.heap[w.heap.size]?=some (.cells #[.int .i64 k,.int .i64 z,.int .i64 q,.int .i64 t] 92)):=Lib.hid fun w' ho => HX.out _ (HO1.out.trans ho)
   have HA2:Hid (a < 64 * s2.n):=Lib.hid (by rw [hs2];exact ha)
   have HRM2:Hid (s2.room=rm):=Lib.hid (by rw [hs2];exact HRM.out)
   rw [if_neg hq] at HDR
   have HDR:Hid (s.drop a={ s2 with B:=fun j => if j=0 then setS (s2.B 0) a false else s2.B j,room:=rm - wd,P:=if c8=8 then clrPg s2.P (a / 64) (max 1 (s2.P (a / 64)).r.toNat) else s2.P,low:=if c8=8 then min s2.low (a / 64) else s2.low }):=Lib.hid (by rw [HDR.out,hs2])
   clear hs2 ha hq
   have hc2:=H2.out.c2
   go_enter Tryz.func137,Tryz.ntmps137
   go_wp2_with (at_delete;refine wpList_delete_eq rfl _ _ 79 3 rfl _ _ _ _ rfl rfl HDEL.out ?_)
   obtain ⟨w2,rfl⟩:∃ w2,w1=w2:=⟨_,rfl⟩
   refine (H2.out.clear 0 (by omega) a HA2.out).mono ?_
   rintro e w3 ⟨rfl,h3,ho3⟩
   have hR3:((s2.setB 0 (setS (s2.B 0) a false)).room)=rm:=HRM2.out
   obtain ⟨s3,hs3e⟩:∃ s3,s2.setB 0 (setS (s2.B 0) a false)=s3:=⟨_,rfl⟩
   have HS3:=Lib.hid hs3e
   rw [hs3e] at h3 hR3
   have hc14:=h3.c14
   rw [hR3] at hc14
   have hf14:=h3.f 14
   have hlt3:=h3.sblt
   have hxc:=HX2.out _ ho3
   have hx1:=cell_of (v:=.int .i64 z) hxc 1 rfl
   have H3:=Lib.hid h3
   have HO3:=Lib.hid (HO2.out.trans ho3)
   have HX3:Hid (∀ w',Only L.lo L.hi w3 w' → w'.heap[w.heap.size]?=some (.cells #[.int .i64 k,.int .i64 z,.int .i64 q,.int .i64 t] 92)):=Lib.hid fun w' ho => HX2.out _ (ho3.trans ho)
   have HR3:=Lib.hid hR3
   clear h3 ho3 hxc hc2 hs3e hR3
   go_wp2_with fail
   go_region_law (first | (go_simp;go_at_call 49;refine (HWD.out _).mono ?_;rintro e w10 ⟨rfl,hs10⟩;have H10:=Lib.hid (H3.out.drew.still hs10);have HOA:=Lib.hid (HO3.out.drew.andStill hs10);have HOB:=Lib.hid ((Only.refl L.lo L.hi w3).drew.andStill hs10);have hd14:=H10.out.c14;rw [HR3.out] at hd14;have hf14b:=H10.out.f 14;clear hs10))
   all_goals
    have h11:=H10.out.setRoom (rm - wd)
    have hoC:=H10.out.only 0 (by omega) (only_cell w10 L.sb 14 (.int .i64 (rm - wd)))
    have hxc:=HX3.out _ (HOB.out.trans hoC)
    have hx1c:=cell_of (v:=.int .i64 z) hxc 1 rfl
    have H11:=Lib.hid h11
    have HO11:=Lib.hid (HOA.out.trans hoC)
    clear h11 hoC hxc
    generalize w10.setCell ⟨L.sb,14,none⟩ (.int .i64 (rm - wd))=w11 at *
    go_wp2_with fail
    refine (HOF.out _).mono ?_
    rintro e w12 ⟨rfl,hs12⟩
    have hfin:SpaceAt w12 L (s.drop a):=by
     rw [HDR.out,if_neg H8.out,if_neg H8.out]
     have:=H11.out.still hs12
     rw [← HS3.out] at this
     exact this
    have HFIN:=Lib.hid hfin;have HOF2:=Lib.hid (HO11.out.andStill hs12)
    clear hfin hs12
    go_wp2
    go_end0
    exact HQ.out _ HFIN.out HOF2.out
end Go.Proofs.YtfbcdmhmpfijjaaGreatDoor
namespace Go.Proofs.YtfbcdmhmpfijjaaGreatDoor
open Go Go.RowKit
def St.tidyLoop (s:St) (p c:Nat):Nat → St
 | 0 => s
 | i + 1 =>
  if (s.tidyLoop p c i).B 0 (p * 64 + i * Sp.cw c) then s.tidyLoop p c i
  else ((s.tidyLoop p c i).setB (c + 1) (setS ((s.tidyLoop p c i).B (c + 1)) (p * 64 + i * Sp.cw c) true)).setWs (clrW (s.tidyLoop p c i).W (p * 64 + i * Sp.cw c) (Sp.cw c))
theorem St.tidyLoop_n (s:St) (p c:Nat):∀ i,(s.tidyLoop p c i).n=s.n
 | 0 => rfl
 | i + 1 => by
  unfold St.tidyLoop
  split
  ·exact St.tidyLoop_n s p c i
  ·exact St.tidyLoop_n s p c i
def St.Empty (s:St) (p:Nat):Prop:=(s.P p).k=1 ∧ Bm.count (s.B 0) (64 * s.n) ((p * 64:Nat):Int) ((p * 64 + 64:Nat):Int)=0
instance (s:St) (p:Nat):Decidable (s.Empty p):=by unfold St.Empty;infer_instance
def St.tidy (s:St) (p:Nat):St :=
 if s.Empty p then ({ s with P:=clrPg s.P p (max 1 (s.P p).r.toNat),low:=min s.low p }:St).setWs (clrW s.W (p * 64) 64)
 else if (s.P p).k=0 then s.setWs (clrW s.W (p * 64) 64)
 else if (s.P p).k=1 then
  (s.tidyLoop p (s.P p).c.toNat (Sp.bk (s.P p).c.toNat)).setWs (clrW (s.tidyLoop p (s.P p).c.toNat (Sp.bk (s.P p).c.toNat)).W (p * 64 + Sp.bk (s.P p).c.toNat * Sp.cw (s.P p).c.toNat) (64 - Sp.bk (s.P p).c.toNat * Sp.cw (s.P p).c.toNat))
 else s
theorem SpaceAt.state {w:World} {L:Lay} {s:St} (h:SpaceAt w L s) (p:Nat) (hp:p < s.n) :
 Calls Tryz.prog 147 #[.pointer (some ⟨L.tb,0,none⟩),.int .i64 (p:Int)] w fun e w' => e=.returned (.tuple #[.agg #[.int .i64 (s.P p).k,.int .i64 (s.P p).c,.int .i64 (s.P p).r],.bool true]) ∧ Still w w':=by
 obtain ⟨free,ht⟩:=h.table
 exact state_any _ _ _ _ _ _ p _ _ _ w ht hp
set_option maxRecDepth 100000 in
set_option maxHeartbeats 3200000 in
theorem tidy_other (w:World) (L:Lay) (s:St) (h:SpaceAt w L s) (p:Nat) (hp:p < s.n) (hk0:(s.P p).k ≠ 0) (hk1:(s.P p).k ≠ 1) (Q:Ending → World → Prop)
 (hQ:∀ w',SpaceAt w' L s → Only L.lo L.hi w w' → Q (.returned (.tuple #[])) w') :
 Calls Tryz.prog 140 #[.pointer (some ⟨L.sb,0,none⟩),.int .i64 (p:Int)] w Q:=by
 have HQ:=Lib.hid hQ;clear hQ
 have hn2:=h.n2
 have HS:=Lib.hid h
 have HST:=Lib.hid (h.state p hp)
 have hc1:=h.c1
 have hp0:(0:Int) ≤ (p:Int):=by omega
 have hpM:(p:Int) ≤ 4096:=by omega
 obtain ⟨⟨k,c,r⟩,hpg⟩:∃ g,s.P p=g:=⟨_,rfl⟩
 rw [hpg] at HST hk0 hk1
 dsimp only at HST hk0 hk1
 have hb0:(k == 0)=false:=beq_eq_false_iff_ne.2 hk0
 have hb1:(k == 1)=false:=beq_eq_false_iff_ne.2 hk1
 clear h hpg hk0 hk1
 go_enter Tryz.func140,Tryz.ntmps140
 go_wp2_with fail
 refine HST.out.mono ?_
 rintro e w1 ⟨rfl,hs1⟩
 have H1:=Lib.hid (HS.out.still hs1)
 have HO1:=Lib.hid (hs1.any L.lo L.hi)
 clear hs1
 go_wp2
 go_end0
 exact HQ.out _ (H1.out.alloc _) (HO1.out.alloc _)
set_option maxRecDepth 100000 in
set_option maxHeartbeats 3200000 in
theorem tidy_free (w:World) (L:Lay) (s:St) (h:SpaceAt w L s) (p:Nat) (hp:p < s.n) (hk0:(s.P p).k=0) (Q:Ending → World → Prop)
 (hQ:∀ w',SpaceAt w' L (s.setWs (clrW s.W (p * 64) 64)) → Only L.lo L.hi w w' → Q (.returned (.tuple #[])) w') :
 Calls Tryz.prog 140 #[.pointer (some ⟨L.sb,0,none⟩),.int .i64 (p:Int)] w Q:=by
 have HQ:=Lib.hid hQ;clear hQ
 have hn2:=h.n2
 have HS:=Lib.hid h
 have HST:=Lib.hid (h.state p hp)
 have hc1:=h.c1
 have hp0:(0:Int) ≤ (p:Int):=by omega
 have hpM:(p:Int) ≤ 4096:=by omega
 obtain ⟨⟨k,c,r⟩,hpg⟩:∃ g,s.P p=g:=⟨_,rfl⟩
 rw [hpg] at HST hk0
 dsimp only at HST hk0
 subst hk0
 obtain ⟨N,hN⟩:∃ N,64 * s.n=N:=⟨_,rfl⟩
 have HN:=Lib.hid hN
 have hNN:(p:Int) * 64 + 64 ≤ (N:Int):=by omega
 have hNN2:p * 64 + 64 ≤ N:=by omega
 clear h hpg hN
 go_enter Tryz.func140,Tryz.ntmps140
 go_wp2_with fail
 refine HST.out.mono ?_
 rintro e w1 ⟨rfl,hs1⟩
 have hlt1:=(HS.out.still hs1).sblt
 have H1:=Lib.hid ((HS.out.still hs1).alloc (.cells #[.int .i64 0,.int .i64 c,.int .i64 r] 146))
 have HO1:=Lib.hid ((hs1.any L.lo L.hi).alloc (.cells #[.int .i64 0,.int .i64 c,.int .i64 r] 146))
 have hc0:=(HS.out.still hs1).c0N HN.out
 obtain ⟨w2,hcl,h2,ho2⟩:=H1.out.clr (a:=p * 64) (b:=p * 64 + 64) (wd:=64) HN.out (by omega) (by omega) (by omega) hNN2
 rw [show p * 64 + 64 - p * 64=64 by omega] at hcl
 have H2:=Lib.hid h2
 have HO2:=Lib.hid (HO1.out.trans ho2)
 clear hs1 h2 ho2
 go_wp2
 go_end0
 exact HQ.out _ H2.out HO2.out
theorem SpaceAt.countR {w:World} {L:Lay} {s:St} (h:SpaceAt w L s) (j:Nat) (hj:j < 9) (f t:Int) (hf:f ≤ 9223372036854775807) (ht:-9223372036854775808 ≤ t) :
 Calls Tryz.prog 111 #[.pointer (some (L.m j)),.int .i64 f,.int .i64 t] w fun e w' => e=.returned (.int .i64 (Bm.count (s.B j) (64 * s.n) f t:Nat)) ∧ ∃ m,w'=w.drewN m :=
 countRange_any _ _ _ _ _ f t w (h.maps j hj) hf ht
theorem cast64 (p:Nat):((p * 64:Nat):Int)=(p:Int) * 64 ∧ ((p * 64 + 64:Nat):Int)=(p:Int) * 64 + 64:=by omega
set_option maxRecDepth 100000 in
set_option maxHeartbeats 3200000 in
theorem tidy_empty (w:World) (L:Lay) (s:St) (h:SpaceAt w L s) (p:Nat) (hp:p < s.n) (hE:s.Empty p) (hg:s.Givable p) (Q:Ending → World → Prop)
 (hQ:∀ w',SpaceAt w' L (({ s with P:=clrPg s.P p (max 1 (s.P p).r.toNat),low:=min s.low p }:St).setWs (clrW s.W (p * 64) 64)) → Only L.lo L.hi w w' → Q (.returned (.tuple #[])) w') :
 Calls Tryz.prog 140 #[.pointer (some ⟨L.sb,0,none⟩),.int .i64 (p:Int)] w Q:=by
 have HQ:=Lib.hid hQ;clear hQ
 have hn2:=h.n2
 have HS:=Lib.hid h
 have HST:=Lib.hid (h.state p hp)
 have HG:=Lib.hid hg
 have hc1:=h.c1
 have hp0:(0:Int) ≤ (p:Int):=by omega
 have hpM:(p:Int) ≤ 4096:=by omega
 obtain ⟨hk,hcnt⟩:=hE
 have HCN:Hid (∀ w1,SpaceAt w1 L s → Calls Tryz.prog 111 #[.pointer (some (L.m 0)),.int .i64 ((p:Int) * 64),.int .i64 ((p:Int) * 64 + 64)] w1 fun e w' => e=.returned (.int .i64 0) ∧ ∃ m,w'=w1.drewN m):=Lib.hid fun w1 h1 => by
  have:=h1.countR 0 (by omega) ((p * 64:Nat):Int) ((p * 64 + 64:Nat):Int) (by omega) (by omega)
  rw [hcnt,(cast64 p).1,(cast64 p).2] at this
  exact this
 obtain ⟨pg,hpg⟩:∃ g,s.P p=g:=⟨_,rfl⟩
 rw [hpg] at HST hk
 obtain ⟨k,c,r⟩:=pg
 dsimp only at HST hk
 subst hk
 obtain ⟨N,hN⟩:∃ N,64 * s.n=N:=⟨_,rfl⟩
 have HN:=Lib.hid hN
 have hNN:(p:Int) * 64 + 64 ≤ (N:Int):=by omega
 have hNN2:p * 64 + 64 ≤ N:=by omega
 clear h hN hcnt hg hpg
 go_enter Tryz.func140,Tryz.ntmps140
 go_wp2_with fail
 refine HST.out.mono ?_
 rintro e w1 ⟨rfl,hs1⟩
 have h1:=HS.out.still hs1
 have hlt1:=h1.sblt
 have hc2:=h1.c2
 have hb1:=heap_alloc_new w1 (.cells #[.int .i64 1,.int .i64 c,.int .i64 r] 146)
 have HTOP1:=Lib.hid h1.top
 have HPB:Hid (w.heap.size ≤ w1.heap.size):=Lib.hid hs1.size
 have H1:=Lib.hid (h1.alloc (.cells #[.int .i64 1,.int .i64 c,.int .i64 r] 146))
 have HO1:=Lib.hid ((hs1.any L.lo L.hi).alloc (.cells #[.int .i64 1,.int .i64 c,.int .i64 r] 146))
 have hlt2:w1.heap.size < (w1.alloc (.cells #[.int .i64 1,.int .i64 c,.int .i64 r] 146)).heap.size:=by simp
 clear hs1 h1
 go_wp2_with fail
 refine (HCN.out _ H1.out).mono ?_
 rintro e w2 ⟨rfl,m,rfl⟩
 have H2:=Lib.hid (H1.out.drewN m)
 have HO2:=Lib.hid (HO1.out.drewN m)
 replace hb1:((w1.alloc (.cells #[.int .i64 1,.int .i64 c,.int .i64 r] 146)).drewN m).heap[w1.heap.size]?=some (.cells #[.int .i64 1,.int .i64 c,.int .i64 r] 146):=hb1
 generalize (w1.alloc (.cells #[.int .i64 1,.int .i64 c,.int .i64 r] 146)).drewN m=w2 at *
 generalize w1.heap.size=pb at *
 clear H1 HO1 hc2 hlt1 hlt2
 have hc1:=H2.out.c1
 go_wp2_with fail
 (with_reducible refine (H2.out.give p HG.out).mono ?_)
 rintro e w3 ⟨rfl,h3,ho3⟩
 have hb3:w3.heap[pb]?=some (.cells #[.int .i64 1,.int .i64 c,.int .i64 r] 146):=by
  rw [ho3.block pb (Array.getElem?_eq_some_iff.1 hb1).1 (.inr HTOP1.out)];exact hb1
 have hlt3:=(Array.getElem?_eq_some_iff.1 hb3).1
 have hx0:=cell_of (v:=.int .i64 1) hb3 0 rfl
 have hx1:=cell_of (v:=.int .i64 c) hb3 1 rfl
 have hx2:=cell_of (v:=.int .i64 r) hb3 2 rfl
 have hf0:=frozen_of hb3 0
 have hf1:=frozen_of hb3 1
 have hf2:=frozen_of hb3 2
 have H3:=Lib.hid (((h3.setNew HTOP1.out 0 (.int .i64 0)).setNew HTOP1.out 1 (.int .i64 0)).setNew HTOP1.out 2 (.int .i64 0))
 have HO3:=Lib.hid ((((HO2.out.trans ho3).setCell (p:=⟨pb,0,none⟩) (.inr HPB.out) (.int .i64 0)).setCell (p:=⟨pb,1,none⟩) (.inr HPB.out) (.int .i64 0)).setCell (p:=⟨pb,2,none⟩) (.inr HPB.out) (.int .i64 0))
 have hc0:w3.cell? ⟨L.sb,0,none⟩=some (.slice (some ⟨L.wb,0,none⟩) N N):=h3.c0N HN.out
 have hlsb:=h3.sblt
 obtain ⟨w4,hcl,h4,ho4⟩:=H3.out.clr (a:=p * 64) (b:=p * 64 + 64) (wd:=64) HN.out (by omega) (by omega) (by omega) hNN2
 rw [show p * 64 + 64 - p * 64=64 by omega] at hcl
 have H4:=Lib.hid h4
 have HO4:=Lib.hid (HO3.out.trans ho4)
 have hpsb:L.sb ≠ pb:=by have:=h3.top;have:=HTOP1.out;have:=h3.ok.inn 0 (by omega);simp only [Lay.a,Lay.b] at this;omega
 clear h3 ho3 hb3 h4 ho4
 go_wp2
 go_end0
 exact HQ.out _ H4.out HO4.out
end Go.Proofs.YtfbcdmhmpfijjaaGreatDoor
