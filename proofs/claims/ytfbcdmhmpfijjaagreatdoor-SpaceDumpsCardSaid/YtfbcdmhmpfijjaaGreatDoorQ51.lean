/-
  A script and a list of ints that came in, opened.
-/
import Derived.Laws.Rows
import Derived.Test.YtfbcdmhmpfijjaaGreatDoorQ46
import Derived.Test.YtfbcdmhmpfijjaaGreatDoorQ47
import Derived.Test.YtfbcdmhmpfijjaaGreatDoorQ49
import Derived.Test.YtfbcdmhmpfijjaaGreatDoorQ50
import Derived.Test.YtfbcdmhmpfijjaaGreatDoorQ21
import Derived.Deep.Slices
import Derived.Deep.Fields
import Derived.ChangeSame
set_option linter.unusedVariables false
set_option linter.unusedSimpArgs false
set_option linter.unusedSectionVars false
namespace Go.Proofs.YtfbcdmhmpfijjaaGreatDoor
open Go Go.RowKit
theorem look10_ok:StepOk 13 10 10:=fun w pb L R s own C h wh k a b c la ll lc zs h1 h2 ha _ _ _ _ _ _ _ Q hQ => by
 obtain rfl:k=10:=by omega
 refine (looked10 w pb L R s own _ C h wh a b c la ll lc ha).mono ?_
 rintro e w' ⟨rfl,hs⟩
 exact hQ w' s own ((h.still hs).mono (by omega)) rfl (by omega) (PFr.of hs)
theorem look11_ok:StepOk 13 11 13:=fun w pb L R s own C h wh k a b c la ll lc zs h1 h2 ha _ _ _ _ _ _ _ Q hQ => by
 have e:k=11 ∨ k=12 ∨ k=13:=by omega
 rcases e with rfl | rfl | rfl
 ·refine (looked11 w pb L R s own _ C h wh a b c la ll lc ha).mono ?_
  rintro e w' ⟨rfl,hs⟩
  exact hQ w' s own ((h.still hs).mono (by omega)) rfl (by omega) (PFr.of hs)
 ·refine (looked12 w pb L R s own _ C h wh a b c la ll lc ha).mono ?_
  rintro e w' ⟨rfl,hs⟩
  exact hQ w' s own ((h.still hs).mono (by omega)) rfl (by omega) (PFr.of hs)
 ·refine (looked13 w pb L R s own _ C h wh a b c la ll lc ha).mono ?_
  rintro e w' ⟨rfl,hs⟩
  exact hQ w' s own ((h.still hs).mono (by omega)) rfl (by omega) (PFr.of hs)
theorem look14_ok:StepOk 13 14 14:=fun w pb L R s own C h wh k a b c la ll lc zs h1 h2 _ _ _ hz hl _ hac _ Q hQ => by
 obtain rfl:k=14:=by omega
 refine (looked14 w pb L R s own _ C h wh a b c la ll lc zs hz hl hac).mono ?_
 rintro e w' ⟨rfl,hs⟩
 exact hQ w' s own ((h.still hs).mono (by omega)) rfl (by omega) (PFr.of hs)
theorem look15_ok:StepOk 13 15 17:=fun w pb L R s own C h wh k a b c la ll lc zs h1 h2 ha _ _ _ _ _ hac hC Q hQ => by
 have e:k=15 ∨ k=16 ∨ k=17:=by omega
 rcases e with rfl | rfl | rfl
 ·refine (looked15 w pb L R s own _ C h wh a b c la ll lc ha).mono ?_
  rintro e w' ⟨rfl,hs⟩
  exact hQ w' s own ((h.still hs).mono (by omega)) rfl (by omega) (PFr.of hs)
 ·refine (looked16 w pb L R s own _ C h (by omega) wh a b c la ll lc).mono ?_
  rintro e w' ⟨rfl,own',hp,hf⟩
  exact hQ w' s own' (hp.mono (by omega)) rfl (by omega) hf
 ·exact looked17 w pb L R s own _ C h wh a b c la ll lc (by omega) Q fun w' s' hp hn ha hf => hQ w' s' own (hp.mono (by omega)) hn ha hf
theorem StepOk.join {f:Nat} {a b c d:Int} (h1:StepOk f a b) (h2:StepOk f c d) (hc:c=b + 1):StepOk f a d:=fun w pb L R s own C h wh k x y z la ll lc zs k1 k2 => by
 by_cases hk:k ≤ b
 ·exact h1 w pb L R s own C h wh k x y z la ll lc zs k1 hk
 ·exact h2 w pb L R s own C h wh k x y z la ll lc zs (by omega) k2
theorem look10_13:StepOk 13 10 13:=look10_ok.join look11_ok rfl
theorem look_all:StepOk 13 10 20:=(((look10_13.join look14_ok rfl).join look15_ok rfl).join look18_ok rfl).join look19_ok rfl
end Go.Proofs.YtfbcdmhmpfijjaaGreatDoor
namespace Go.Proofs.YtfbcdmhmpfijjaaGreatDoor
open Go Go.RowKit Go.ChangeShapes Go.WideShapes Go.Deep
theorem list6 {α:Type} (l:List α) (h:l.length=6):∃ c0 c1 c2 c3 c4 c5,l=[c0,c1,c2,c3,c4,c5]:=by
 match l,h with
 | [c0,c1,c2,c3,c4,c5],_ => exact ⟨_,_,_,_,_,_,rfl⟩
instance:Inhabited OpV:=⟨⟨0,0,0,0,none,0,0,fun _ => 0⟩⟩
theorem field_int {H:Type} {enc:TypeId × Value → H} {w:World} {base:Nat} {spare:Nat → Bool} {held:Bool} {n:Nat} {c:Value} {y:DataW H × List MemPlace} (h:DataW.trod enc Tryz.prog w base spare held n 3 [c]=some y) :
 ∃ z:Int,c=.int .i64 z ∧ (Lit.int .i64 z).wf=true:=by
 obtain ⟨z,h1,_,h3⟩:=DataW.trod_int Tryz.underlying3 h
 injection h1 with h1
 exact ⟨z,h1,h3⟩
theorem ints_of_trod {H:Type} {enc:TypeId × Value → H} {w:World} {base:Nat} {spare:Nat → Bool} {held:Bool} {n:Nat} {c:Value} {y:DataW H × List MemPlace} (h:DataW.trod enc Tryz.prog w base spare held n 27 [c]=some y) :
 ∃ a len cap zs,c=.slice a len cap ∧ IsRowI w a len cap zs ∧ ∀ x,a=some x → 0 < len → x.block < w.heap.size:=by
 rcases open_ints Tryz.underlying27 Tryz.underlying3 (by kernel_rfl) h with ⟨hcs,_⟩ | ⟨x,l,cp,zs,hcs,_,hl,hm,hz,_,hcell,hwz⟩
 ·injection hcs with hcs _
  exact ⟨none,0,0,fun _ => 0,hcs,⟨by omega,fun i hi => by omega⟩,fun x hx => by cases hx⟩
 ·injection hcs with hcs _
  have hlz:l ≤ zs.length:=by rw [hz];split <;> omega
  have hm':cp ≤ 9223372036854775807:=hm
  refine ⟨some x,l,cp,fun i => zs.getD i 0,hcs,⟨by omega,fun i hi => ⟨x,rfl,hcell i (by omega),?_⟩⟩,fun y hy h0 => ?_⟩
  ·refine hwz _ ?_
   show zs.getD i 0 ∈ zs
   rw [List.getD_eq_getElem?_getD,List.getElem?_eq_getElem (by omega)]
   exact List.getElem_mem _
  ·injection hy with hy
   subst hy
   have:=World.block_lt_of_cell? w _ (hcell 0 (by omega))
   rwa [add_block] at this
theorem opsB_of_trod {H:Type} {enc:TypeId × Value → H} {w:World} {base:Nat} {spare:Nat → Bool} {held:Bool} {a:Option Addr} {len cap:Nat} {d:DataW H} {p:List MemPlace}
 (h:DataW.Trod enc Tryz.prog w base spare held 31 (.slice a len cap) d p):∃ z,OpsB w w.heap.size a len z:=by
 obtain ⟨fuel,h⟩:=h
 rcases open_slice Tryz.underlying31 h with ⟨hcs,_⟩ | ⟨x,l,c,m,n,D,Pl,hcs,hb,hl,hm,hmm,_,hi⟩
 ·simp [Value.cells] at hcs
  obtain ⟨rfl,rfl,rfl⟩:=hcs
  exact ⟨fun _ => default,by omega,fun i hi => by omega⟩
 ·simp [Value.cells] at hcs
  obtain ⟨rfl,rfl,rfl⟩:=hcs
  have hm':cap ≤ 9223372036854775807:=hm
  have hall:∀ i,i < len → ∃ o:OpV,x.block < w.heap.size ∧ OpAt w (x.add (i * 6)) o ∧ ∀ y,o.la=some y → 0 < o.ll → y.block < w.heap.size:=by
   intro i hil
   obtain ⟨cs',hc,ht'⟩:=hi i (by rw [hmm];split <;> omega)
   have hC:Tryz.prog.cellsOf 29 = 6:=by kernel_rfl
   rw [hC] at hc
   obtain ⟨xs,n',_,_,hlen,hxl,hf⟩:=DataW.trod_struct Tryz.underlying29 ht'
   obtain ⟨_,hcl,hat⟩:=World.cells?_some hc
   have hcs6:=list6 cs' hcl
   obtain ⟨c0,c1,c2,c3,c4,c5,rfl⟩:=hcs6
   have hdone:True:=trivial
   ·skip
    have hC1:Tryz.prog.cellsOf 3 = 1:=by kernel_rfl
    have hC2:Tryz.prog.cellsOf 27 = 1:=by kernel_rfl
    have e0:DataW.trod enc Tryz.prog w base spare held n' 3 [c0]=xs[0]?:=by
     have e:DataW.trod enc Tryz.prog w base spare held n' 3 ((List.drop 0 [c0,c1,c2,c3,c4,c5]).take (Tryz.prog.cellsOf 3))=xs[0]?:=hf 0 _ rfl
     rw [hC1] at e
     exact e
    rw [List.getElem?_eq_getElem (by rw [hxl];decide)] at e0
    obtain ⟨z0,rfl,u0⟩:=field_int e0
    have e1:DataW.trod enc Tryz.prog w base spare held n' 3 [c1]=xs[1]?:=by
     have e:DataW.trod enc Tryz.prog w base spare held n' 3 ((List.drop 1 [.int .i64 z0,c1,c2,c3,c4,c5]).take (Tryz.prog.cellsOf 3))=xs[1]?:=hf 1 _ rfl
     rw [hC1] at e
     exact e
    rw [List.getElem?_eq_getElem (by rw [hxl];decide)] at e1
    obtain ⟨z1,rfl,u1⟩:=field_int e1
    have e2:DataW.trod enc Tryz.prog w base spare held n' 3 [c2]=xs[2]?:=by
     have e:DataW.trod enc Tryz.prog w base spare held n' 3 ((List.drop 2 [.int .i64 z0,.int .i64 z1,c2,c3,c4,c5]).take (Tryz.prog.cellsOf 3))=xs[2]?:=hf 2 _ rfl
     rw [hC1] at e
     exact e
    rw [List.getElem?_eq_getElem (by rw [hxl];decide)] at e2
    obtain ⟨z2,rfl,u2⟩:=field_int e2
    have e3:DataW.trod enc Tryz.prog w base spare held n' 3 [c3]=xs[3]?:=by
     have e:DataW.trod enc Tryz.prog w base spare held n' 3 ((List.drop 3 [.int .i64 z0,.int .i64 z1,.int .i64 z2,c3,c4,c5]).take (Tryz.prog.cellsOf 3))=xs[3]?:=hf 3 _ rfl
     rw [hC1] at e
     exact e
    rw [List.getElem?_eq_getElem (by rw [hxl];decide)] at e3
    obtain ⟨z3,rfl,u3⟩:=field_int e3
    have e4:DataW.trod enc Tryz.prog w base spare held n' 3 [c4]=xs[4]?:=by
     have e:DataW.trod enc Tryz.prog w base spare held n' 3 ((List.drop 4 [.int .i64 z0,.int .i64 z1,.int .i64 z2,.int .i64 z3,c4,c5]).take (Tryz.prog.cellsOf 3))=xs[4]?:=hf 4 _ rfl
     rw [hC1] at e
     exact e
    rw [List.getElem?_eq_getElem (by rw [hxl];decide)] at e4
    obtain ⟨z4,rfl,u4⟩:=field_int e4
    have e5:DataW.trod enc Tryz.prog w base spare held n' 27 [c5]=xs[5]?:=by
     have e:DataW.trod enc Tryz.prog w base spare held n' 27 ((List.drop 5 [.int .i64 z0,.int .i64 z1,.int .i64 z2,.int .i64 z3,.int .i64 z4,c5]).take (Tryz.prog.cellsOf 27))=xs[5]?:=hf 5 _ rfl
     rw [hC2] at e
     exact e
    rw [List.getElem?_eq_getElem (by rw [hxl];decide)] at e5
    obtain ⟨la,ll,lc,zs,rfl,u5,hbl⟩:=ints_of_trod e5
    have h0:=hat 0 (by decide)
    have hblk:=World.block_lt_of_cell? w _ h0
    refine ⟨⟨z1,z2,z3,z4,la,ll,lc,zs⟩,?_,⟨⟨z0,h0⟩,hat 1 (by decide),hat 2 (by decide),hat 3 (by decide),hat 4 (by decide),hat 5 (by decide),u2,u3,u4,u5⟩,hbl⟩
    rw [add_block,add_block] at hblk
    exact hblk
  obtain ⟨f,hf⟩:=choose_lt hall
  exact ⟨f,by omega,fun i hil => ⟨x,rfl,(hf i hil).1,(hf i hil).2⟩⟩
end Go.Proofs.YtfbcdmhmpfijjaaGreatDoor
