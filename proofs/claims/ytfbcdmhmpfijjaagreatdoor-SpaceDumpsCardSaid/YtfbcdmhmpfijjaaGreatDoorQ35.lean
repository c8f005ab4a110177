/-
  The walks of the document's layout: Size, Fits, Numbered.
-/
import Derived.Laws.Rows
import Derived.Test.YtfbcdmhmpfijjaaGreatDoorQ34
import Derived.Test.YtfbcdmhmpfijjaaGreatDoorQ16
import Derived.Test.YtfbcdmhmpfijjaaGreatDoorQ24
set_option linter.unusedVariables false
set_option linter.unusedSimpArgs false
set_option linter.unusedSectionVars false
namespace Go.Proofs.YtfbcdmhmpfijjaaGreatDoor
open Go Go.RowKit
def BB (w:World) (b n:Nat) (f:Nat → Bool):Prop:=∃ cur,w.heap[b]?=some (.cells cur 4 (0,0)) ∧ ∀ i,i < n → cur[i]?=some (.bool (f i))
section
variable {w w':World} {b n:Nat} {f:Nat → Bool} (h:BB w b n f)
include h
theorem BB.lt:b < w.heap.size:=by obtain ⟨cur,h1,_⟩:=h;exact (Array.getElem?_eq_some_iff.1 h1).1
theorem BB.frozen (j:Nat):w.frozen? ⟨b,j,none⟩=false:=by obtain ⟨cur,h1,_⟩:=h;simp [World.frozen?,h1]
theorem BB.cell {i:Nat} (hi:i < n):w.cell? ⟨b,i,none⟩=some (.bool (f i)):=by
 obtain ⟨cur,h1,h2⟩:=h
 simp only [World.cell?,h1]
 exact h2 i hi
theorem BB.only {lo hi:Nat} (ho:Only lo hi w w') (hb:b < lo ∨ hi ≤ b):BB w' b n f:=by
 obtain ⟨cur,h1,h2⟩:=h
 exact ⟨cur,at_only ho h1 hb,h2⟩
theorem BB.still (ho:Still w w'):BB w' b n f:=h.only ho (.inl h.lt)
theorem BB.set {i:Nat} (hi:i < n) (v:Bool):BB (w.setCell ⟨b,i,none⟩ (.bool v)) b n (setS f i v):=by
 obtain ⟨cur,h1,h2⟩:=h
 refine ⟨cur.setIfInBounds i (.bool v),?_,fun j hj => ?_⟩
 ·simp only [World.setCell,Array.getElem?_modify,h1,if_pos,Option.map_some,Option.isSome_none,Bool.false_eq_true,if_false]
 ·have hlt:=(Array.getElem?_eq_some_iff.1 (h2 i hi)).1
  rw [Array.getElem?_setIfInBounds]
  unfold setS
  by_cases e:j=i
  ·subst e;rw [if_pos rfl,if_pos hlt,if_pos rfl]
  ·rw [if_neg (fun e2 => e e2.symm),if_neg e]
   exact h2 j hj
end
theorem Tryz.infoBo:(Tryz.prog.info? 4).map (fun i => (i.zero,i.size,i.bytes))=some (some (.bool false),1,1):=by kernel_rfl
theorem bb_made (w:World) (n:Nat):BB (w.alloc (.cells (madeCells #[.bool false] n) 4)) w.heap.size n (fun _ => false):=by
 refine ⟨_,heap_alloc_new w _,fun i hi => ?_⟩
 have hs:i < (madeCells #[Value.bool false] n).size:=by rw [size_madeCells];omega
 rw [Array.getElem?_eq_getElem hs]
 unfold madeCells
 simp [Nat.mod_one]
theorem bools_make (w:World) (n:Nat) (hn:n ≤ 262144):(Instr.makeSlice 154 (.int .i64 (n:Int)) (.int .i64 (n:Int))).run Tryz.prog w=.ok (.slice (some ⟨w.heap.size,0,none⟩) n n) (w.alloc (.cells (madeCells #[.bool false] n) 4)):=by
 obtain ⟨i0,hi,hz0,hz1,hz2⟩:=info_parts Tryz.infoBo
 have:=run_make (P:=Tryz.prog) w 154 4 i0 (.bool false) Tryz.underlying154 hi hz0 .i64 .i64 (n:Int) (n:Int) (by omega) (Int.le_refl _) (by rw [hz2];omega) (by omega)
 rw [hz1,Int.toNat_natCast,Nat.mul_one] at this
 exact this
theorem RefAt.clrObj {w:World} {R:RLay} {s:St} (h:RefAt w R s) {a:Nat} (ha:a < 64 * s.n) :
 RefAt (((((w.setCell ⟨R.ob,a * 5,none⟩ (.int .i64 0)).setCell ⟨R.ob,a * 5 + 1,none⟩ (.int .i64 0)).setCell ⟨R.ob,a * 5 + 2,none⟩ (.int .i64 0)).setCell ⟨R.ob,a * 5 + 3,none⟩ (.int .i64 0)).setCell ⟨R.ob,a * 5 + 4,none⟩ (.int .i64 0)) R
  { s with B:=fun j => if j=0 then setS (s.B 0) a false else s.B j }:=by
 have o:=h.ok
 have ho:Only R.ob (R.ob + 1) w (((((w.setCell ⟨R.ob,a * 5,none⟩ (.int .i64 0)).setCell ⟨R.ob,a * 5 + 1,none⟩ (.int .i64 0)).setCell ⟨R.ob,a * 5 + 2,none⟩ (.int .i64 0)).setCell ⟨R.ob,a * 5 + 3,none⟩ (.int .i64 0)).setCell ⟨R.ob,a * 5 + 4,none⟩ (.int .i64 0)) :=
  ((((only_cell w R.ob _ _).trans (only_cell _ R.ob _ _)).trans (only_cell _ R.ob _ _)).trans (only_cell _ R.ob _ _)).trans (only_cell _ R.ob _ _)
 have h0:=h.objs.set ha (d:=0) (by omega) 0
 have h1:=h0.set ha (d:=1) (by omega) 0
 have h2:=h1.set ha (d:=2) (by omega) 0
 have h3:=h2.set ha (d:=3) (by omega) 0
 have h4:=h3.set ha (d:=4) (by omega) 0
 refine ⟨o,Nat.le_trans h.top ho.size,h.n1,h.n2,?_,?_,h.words.kept ho ?_,h.pages.kept ho ?_,h4.congr fun i hi d hd => ?_⟩
 ·exact (ho.block _ h.lts.1 (by have:=o.ro;omega)).trans h.head
 ·exact (ho.block _ h.lts.2.1 (by have:=o.to';omega)).trans h.thead
 ·have:=o.wo;omega
 ·have:=o.po;omega
 ·unfold St.ro setS
  dsimp only
  by_cases e:i=a
  ·subst e
   have hd5:d=0 ∨ d=1 ∨ d=2 ∨ d=3 ∨ d=4:=by omega
   rcases hd5 with rfl | rfl | rfl | rfl | rfl <;> simp
  ·simp [e]
   rfl
def St.dk (s:St) (stay:Nat → Bool) (a:Nat):St:={ s with B:=fun j => if j=0 then (fun x => s.B 0 x && (decide (a ≤ x) || stay x)) else s.B j }
theorem dk_zero (s:St) (stay:Nat → Bool):s.dk stay 0=s:=by
 have:(s.dk stay 0).B=s.B:=by
  funext j
  unfold St.dk
  dsimp only
  by_cases e:j=0
  ·rw [if_pos e];subst e;funext x;simp
  ·rw [if_neg e]
 unfold St.dk at this ⊢
 cases s
 simp only at this
 simp only [this]
theorem dk_B0 (s:St) (stay:Nat → Bool) (a x:Nat):(s.dk stay a).B 0 x=(s.B 0 x && (decide (a ≤ x) || stay x)):=rfl
theorem dk_same (s:St) (stay:Nat → Bool) {a:Nat} (h:s.B 0 a=false ∨ stay a=true):(s.dk stay (a + 1)).B 0=(s.dk stay a).B 0:=by
 funext x
 rw [dk_B0,dk_B0]
 by_cases e:x=a
 ·subst e
  rcases h with h | h <;> rw [h] <;> simp
 ·congr 2
  exact decide_eq_decide.2 (by omega)
theorem dk_drop (s:St) (stay:Nat → Bool) {a:Nat} (h:stay a=false):(s.dk stay (a + 1)).B 0=setS ((s.dk stay a).B 0) a false:=by
 funext x
 unfold setS
 by_cases e:x=a
 ·subst e
  rw [if_pos rfl,dk_B0,h,decide_eq_false (by omega)]
  simp
 ·rw [if_neg e,dk_B0,dk_B0]
  congr 2
  exact decide_eq_decide.2 (by omega)
structure PgI (s t:St) (p:Nat) (P:Nat → Pg):Prop where
 low:∀ q,q < p → P q=t.P q
 run:∀ q,p ≤ q → q < s.n → (∃ h r,s.Run h r ∧ h < p ∧ h < q ∧ q < h + r) → P q=t.P q
 oth:∀ q,p ≤ q → q < s.n → (¬∃ h r,s.Run h r ∧ h < p ∧ h < q ∧ q < h + r) → P q=s.P q
section
variable {s t:St} {stay:Nat → Bool} {p:Nat} {P:Nat → Pg}
theorem PgI.start (s t:St):PgI s t 0 s.P:=⟨fun q hq => absurd hq (Nat.not_lt_zero _),fun q _ _ ⟨h,r,_,hh,_⟩ => absurd hh (Nat.not_lt_zero _),fun q _ _ _ => rfl⟩
theorem St.Mid.run2 (h:s.Mid) {p:Nat} {c r:Int} (hp:p < s.n) (hP:s.P p=⟨2,c,r⟩):∃ m:Nat,r=(m:Int) ∧ s.Run p m:=by
 rcases h.pages p hp with e | ⟨c',_,e⟩ | ⟨q,m,hr,h3,h4⟩
 ·rw [e] at hP;injection hP with e2 _ _;omega
 ·rw [e] at hP;injection hP with e2 _ _;omega
 ·by_cases hq:p=q
  ·subst hq
   have:=hr.2.2.1
   rw [hP] at this
   injection this with _ _ e3
   exact ⟨m,e3,hr⟩
  ·have:=hr.2.2.2 p (by omega) (by omega)
   rw [hP] at this
   injection this with e2 _ _
   omega
variable (hm:s.Mid) (hk:s.KeptU t stay) (hp:p < s.n) (hi:PgI s t p P)
include hm hk hp hi
omit hm in
theorem PgI.inside {h r:Nat} (hr:s.Run h r) (h1:h < p) (h2:p < h + r):P p=t.P p ∧ (P p=⟨3,0,0⟩ ∨ P p=⟨0,0,0⟩):=by
 have e:=hi.run p (Nat.le_refl _) hp ⟨h,r,hr,h1,h1,h2⟩
 refine ⟨e,?_⟩
 rw [e]
 rcases hk.back p hp with e2 | e2
 ·rw [e2];exact .inl (hr.2.2.2 p h1 h2)
 ·exact .inr e2
omit hm in
theorem PgI.here:P p=s.P p ∧ (¬∃ h r,s.Run h r ∧ h < p ∧ p < h + r) ∨ (P p=t.P p ∧ (P p=⟨3,0,0⟩ ∨ P p=⟨0,0,0⟩) ∧ s.P p=⟨3,0,0⟩):=by
 by_cases e:∃ h r,s.Run h r ∧ h < p ∧ p < h + r
 ·obtain ⟨h,r,hr,h1,h2⟩:=e
  obtain ⟨a,b⟩:=PgI.inside hk hp hi hr h1 h2
  exact .inr ⟨a,b,hr.2.2.2 p h1 h2⟩
 ·exact .inl ⟨hi.oth p (Nat.le_refl _) hp fun ⟨h,r,hr,h1,h2,h3⟩ => e ⟨h,r,hr,h1,h3⟩,e⟩
omit hm hk hp in
theorem PgI.leave (h1:P p=t.P p) (h2:∀ r,¬s.Run p r):PgI s t (p + 1) P:=by
 refine ⟨fun q hq => ?_,fun q h3 h4 ⟨h,r,hr,h5,h6,h7⟩ => ?_,fun q h3 h4 hno => ?_⟩
 ·by_cases e:q=p
  ·rw [e];exact h1
  ·exact hi.low q (by omega)
 ·by_cases e:h=p
  ·rw [e] at hr;exact absurd hr (h2 r)
  ·exact hi.run q (by omega) h4 ⟨h,r,hr,by omega,h6,h7⟩
 ·exact hi.oth q (by omega) h4 fun ⟨h,r,hr,h5,h6,h7⟩ => hno ⟨h,r,hr,by omega,h6,h7⟩
theorem PgI.idle (hkd:(P p).k=0 ∨ (P p).k=3):PgI s t (p + 1) P:=by
 rcases PgI.here hk hp hi with ⟨e,hno⟩ | ⟨e,_,e3⟩
 ·refine PgI.leave hi ?_ fun r hr => ?_
  ·rw [e] at hkd ⊢
   rcases hm.pages p hp with e2 | ⟨c,_,e2⟩ | ⟨h,r,hr,h3,h4⟩
   ·rcases hk.back p hp with e4 | e4
    ·exact e4.symm
    ·rw [e2,e4]
   ·rw [e2] at hkd
    rcases hkd with hkd | hkd <;> (have:(1:Int)=_:=hkd;omega)
   ·by_cases eh:h=p
    ·subst eh
     rw [hr.2.2.1] at hkd
     rcases hkd with hkd | hkd <;> (have:(2:Int)=_:=hkd;omega)
    ·exact absurd ⟨h,r,hr,by omega,h4⟩ hno
  ·rw [e,hr.2.2.1] at hkd
   rcases hkd with hkd | hkd <;> (have:(2:Int)=_:=hkd;omega)
 ·refine PgI.leave hi e fun r hr => ?_
  rw [hr.2.2.1] at e3
  injection e3 with e3 _ _
  omega
theorem PgI.cls (hkd:(P p).k=1):(∃ c:Nat,c < 8 ∧ s.P p=⟨1,c,0⟩) ∧ P p=s.P p ∧ ((∃ i,i < 64 ∧ t.B 0 (p * 64 + i)=true) → PgI s t (p + 1) P) ∧ ((¬∃ i,i < 64 ∧ t.B 0 (p * 64 + i)=true) → PgI s t (p + 1) (clrPg P p 1)):=by
 rcases PgI.here hk hp hi with ⟨e,hno⟩ | ⟨e,e2,_⟩
 ·have hc:∃ c:Nat,c < 8 ∧ s.P p=⟨1,c,0⟩:=by
   rw [e] at hkd
   rcases hm.pages p hp with e2 | e2 | ⟨h,r,hr,h3,h4⟩
   ·rw [e2] at hkd;have:(0:Int)=1:=hkd;omega
   ·exact e2
   ·by_cases eh:h=p
    ·subst eh;rw [hr.2.2.1] at hkd;have:(2:Int)=1:=hkd;omega
    ·exact absurd ⟨h,r,hr,by omega,h4⟩ hno
  obtain ⟨c,hc8,hcp⟩:=hc
  have hnr:∀ r,¬s.Run p r:=fun r hr => by rw [hr.2.2.1] at hcp;injection hcp with e2 _ _;omega
  refine ⟨⟨c,hc8,hcp⟩,e,fun ⟨i,hi64,hb⟩ => PgI.leave hi ?_ hnr,fun hnb => ?_⟩
  ·rw [e]
   have hfit:=(hk.mid.obj _ hb).2
   have hpg:=hfit.beg.page
   rw [show (p * 64 + i) / 64=p by omega] at hpg
   exact ((hk.back p hp).resolve_right hpg).symm
  ·have ht:t.P p=⟨0,0,0⟩:=by
    rcases hk.back p hp with e2 | e2
    ·rw [hcp] at e2
     obtain ⟨x,hx,hb⟩:=hk.used p c hp e2
     exact absurd ⟨x - p * 64,by omega,by rw [show p * 64 + (x - p * 64)=x by omega];exact hb⟩ hnb
    ·exact e2
   refine ⟨fun q hq => ?_,fun q h3 h4 ⟨h,r,hr,h5,h6,h7⟩ => ?_,fun q h3 h4 hno2 => ?_⟩
   ·by_cases eq:q=p
    ·rw [eq,clrPg_in (Nat.le_refl _) (by omega),ht]
    ·rw [clrPg_out (by omega)];exact hi.low q (by omega)
   ·rw [clrPg_out (by omega)]
    by_cases eh:h=p
    ·rw [eh] at hr;exact absurd hr (hnr r)
    ·exact hi.run q (by omega) h4 ⟨h,r,hr,by omega,h6,h7⟩
   ·rw [clrPg_out (by omega)]
    exact hi.oth q (by omega) h4 fun ⟨h,r,hr,h5,h6,h7⟩ => hno2 ⟨h,r,hr,by omega,h6,h7⟩
 ·exfalso
  rcases e2 with e2 | e2 <;> rw [e2] at hkd
  ·have:(3:Int)=1:=hkd;omega
  ·have:(0:Int)=1:=hkd;omega
theorem PgI.head (hkd:(P p).k=2):∃ r:Nat,s.Run p r ∧ P p=⟨2,0,(r:Int)⟩ ∧ (t.B 0 (p * 64)=true → PgI s t (p + 1) P) ∧ (t.B 0 (p * 64)=false → PgI s t (p + 1) (clrPg P p r)):=by
 rcases PgI.here hk hp hi with ⟨e,hno⟩ | ⟨e,e2,_⟩
 ·obtain ⟨r,hr⟩:∃ r:Nat,s.Run p r:=by
   rw [e] at hkd
   rcases hm.pages p hp with e2 | ⟨c,_,e2⟩ | ⟨h,r,hr,h3,h4⟩
   ·rw [e2] at hkd;have:(0:Int)=2:=hkd;omega
   ·rw [e2] at hkd;have:(1:Int)=2:=hkd;omega
   ·by_cases eh:h=p
    ·subst eh;exact ⟨r,hr⟩
    ·exact absurd ⟨h,r,hr,by omega,h4⟩ hno
  have hPp:P p=⟨2,0,(r:Int)⟩:=e.trans hr.2.2.1
  have hpn:p + r ≤ s.n:=hr.2.1
  refine ⟨r,hr,hPp,fun hb => ?_,fun hb => ?_⟩
  ·
   have htp:t.P p=s.P p:=by
    have hfit:=(hk.mid.obj _ hb).2
    have hpg:=hfit.beg.page
    rw [show p * 64 / 64=p by omega] at hpg
    exact (hk.back p hp).resolve_right hpg
   obtain ⟨m,em,htr⟩:=hk.mid.run2 (p:=p) (by rw [hk.n];exact hp) (htp.trans hr.2.2.1)
   have hmr:r=m:=by omega
   subst hmr
   have hin:∀ q,p < q → q < p + r → t.P q=s.P q:=fun q h1 h2 => (htr.2.2.2 q h1 h2).trans (hr.2.2.2 q h1 h2).symm
   refine ⟨fun q hq => ?_,fun q h3 h4 ⟨h,r',hr',h5,h6,h7⟩ => ?_,fun q h3 h4 hno2 => ?_⟩
   ·by_cases eq:q=p
    ·rw [eq,e,htp]
    ·exact hi.low q (by omega)
   ·by_cases eh:h=p
    ·subst eh
     have:=hr'.same hr
     subst this
     rw [hin q h6 h7]
     refine hi.oth q (by omega) h4 fun ⟨h2,r2,hr2,g1,g2,g3⟩ => ?_
     have:=hr2.apart hr (by omega)
     omega
    ·exact hi.run q (by omega) h4 ⟨h,r',hr',by omega,h6,h7⟩
   ·exact hi.oth q (by omega) h4 fun ⟨h,r',hr',h5,h6,h7⟩ => hno2 ⟨h,r',hr',by omega,h6,h7⟩
  ·
   have ht0:t.P p=⟨0,0,0⟩:=by
    rcases hk.back p hp with e2 | e2
    ·obtain ⟨m,em,htr⟩:=hk.mid.run2 (p:=p) (by rw [hk.n];exact hp) (e2.trans hr.2.2.1)
     have:=hk.mid.runs p m htr
     rw [hb] at this
     cases this
    ·exact e2
   have hin:∀ q,p < q → q < p + r → t.P q=⟨0,0,0⟩:=fun q h1 h2 => by
    rcases hk.back q (by omega) with e2 | e2
    ·exfalso
     rw [hr.2.2.2 q h1 h2] at e2
     rcases hk.mid.pages q (by rw [hk.n];omega) with e3 | ⟨c,_,e3⟩ | ⟨h',r',htr,h3,h4⟩
     ·rw [e2] at e3;injection e3 with e4 _ _;omega
     ·rw [e2] at e3;injection e3 with e4 _ _;omega
     ·have hh:h' < s.n:=by
       have g1:=htr.2.1
       have g2:=htr.1
       rw [hk.n] at g1
       omega
      have hsp:s.P h'=⟨2,0,(r':Int)⟩:=by
       rcases hk.back h' hh with e4 | e4
       ·rw [← e4];exact htr.2.2.1
       ·rw [htr.2.2.1] at e4;injection e4 with e5 _ _;omega
      obtain ⟨m,em,hsr⟩:=hm.run2 hh hsp
      have hmr:r'=m:=by omega
      subst hmr
      by_cases eh:h'=p
      ·subst eh
       have:=htr.2.2.1
       rw [ht0] at this
       injection this with e5 _ _
       omega
      ·have:=hsr.apart hr eh
       omega
    ·exact e2
   refine ⟨fun q hq => ?_,fun q h3 h4 ⟨h,r',hr',h5,h6,h7⟩ => ?_,fun q h3 h4 hno2 => ?_⟩
   ·by_cases eq:q=p
    ·have:=hr.1
     rw [eq,clrPg_in (Nat.le_refl _) (by omega),ht0]
    ·rw [clrPg_out (by omega)];exact hi.low q (by omega)
   ·by_cases ein:p ≤ q ∧ q < p + r
    ·rw [clrPg_in ein.1 ein.2,hin q (by omega) ein.2]
    ·rw [clrPg_out ein]
     by_cases eh:h=p
     ·subst eh
      have:=hr'.same hr
      omega
     ·exact hi.run q (by omega) h4 ⟨h,r',hr',by omega,h6,h7⟩
   ·by_cases ein:p ≤ q ∧ q < p + r
    ·exact absurd ⟨p,r,hr,by omega,by omega,ein.2⟩ hno2
    ·rw [clrPg_out ein]
     exact hi.oth q (by omega) h4 fun ⟨h,r',hr',h5,h6,h7⟩ => hno2 ⟨h,r',hr',by omega,h6,h7⟩
 ·exfalso
  rcases e2 with e2 | e2 <;> rw [e2] at hkd
  ·have:(3:Int)=2:=hkd;omega
  ·have:(0:Int)=2:=hkd;omega
end
end Go.Proofs.YtfbcdmhmpfijjaaGreatDoor
namespace Go.Proofs.YtfbcdmhmpfijjaaGreatDoor
open Go Go.RowKit
structure Rwr where
 len:Nat
 rest:Int
 least:Nat
 most:Nat
 per:Nat
def Rw:Nat → Rwr
 | 1 => ⟨2,0,0,0,0⟩ | 2 => ⟨1,0,0,0,0⟩ | 3 => ⟨0,2,0,1023,1⟩ | 4 => ⟨1,1,0,4096,8⟩ | 5 => ⟨1,0,0,0,0⟩ | 6 => ⟨0,2,0,64,1⟩ | 7 => ⟨1,0,0,0,0⟩
 | 8 => ⟨2,0,0,0,0⟩ | 9 => ⟨2,0,0,0,0⟩ | 10 => ⟨2,0,0,0,0⟩ | 11 => ⟨4,2,0,128,1⟩ | 12 => ⟨0,9,4,512,1⟩ | _ => ⟨3,0,0,0,0⟩
theorem kinds13 {k:Nat} (h1:1 ≤ k) (h2:k ≤ 13):k=1 ∨ k=2 ∨ k=3 ∨ k=4 ∨ k=5 ∨ k=6 ∨ k=7 ∨ k=8 ∨ k=9 ∨ k=10 ∨ k=11 ∨ k=12 ∨ k=13:=by omega
abbrev rowV (a:Option Addr) (c:Nat) (r:Rwr):Value:=.agg #[.slice a r.len c,.int .i64 r.rest,.int .i64 (r.least:Int),.int .i64 (r.most:Int),.int .i64 (r.per:Int)]
set_option maxRecDepth 8000 in
set_option maxHeartbeats 3200000 in
theorem rowOf_any (k:Nat) (h1:1 ≤ k) (h2:k ≤ 13) (w:World):Calls Tryz.prog 144 #[.int .i64 (k:Int)] w fun e w' => (∃ a c,e=.returned (rowV a c (Rw k))) ∧ Still w w':=by
 rcases kinds13 h1 h2 with rfl | rfl | rfl | rfl | rfl | rfl | rfl | rfl | rfl | rfl | rfl | rfl | rfl
 all_goals
  go_enter Tryz.func144,Tryz.ntmps144
  go_wp2_with fail
  refine bodyPost_ret (v:=.agg #[.slice _ _ _,.int .i64 _,.int .i64 _,.int .i64 _,.int .i64 _]) (by
   simp [results,Tryz.results144,go_sem, *]
   repeat' apply And.intro
   all_goals rfl) rfl ?_
  exact ⟨⟨_,_,rfl⟩,by (repeat first | exact Only.refl _ _ _ | apply Only.setCell | apply Only.alloc)⟩
abbrev Hd (n:Int):Prop:=n=4 ∨ n=8 ∨ n=16 ∨ n=32 ∨ n=64 ∨ n=128 ∨ n=256 ∨ n=512
theorem heads_small:∀ m:Fin 513,Sp.heads (m.val:Int)=decide (Hd (m.val:Int)):=by decide +kernel
theorem heads_list (n:Int):Sp.heads n=decide (Hd n):=by
 by_cases h:4 ≤ n ∧ n ≤ 512
 ·obtain ⟨m,rfl⟩:=Int.eq_ofNat_of_zero_le (show 0 ≤ n by omega)
  exact heads_small ⟨m,by omega⟩
 ·rw [decide_eq_false (by unfold Hd;omega)]
  unfold Sp.heads
  by_cases h1:4 ≤ n
  ·rw [decide_eq_true h1,decide_eq_false (by omega)];rfl
  ·rw [decide_eq_false h1];rfl
set_option maxHeartbeats 1600000 in
theorem rheads_any (n:Int) (h1:-9223372036854775808 ≤ n) (h2:n ≤ 9223372036854775807) (w:World) :
 Calls Tryz.prog 143 #[.int .i64 n] w fun e w' => e=.returned (.bool (Sp.heads n)) ∧ w=w':=by
 rw [heads_list]
 have HT:=Lib.hid (fun (k:Int) (hk:k=n) (hh:Hd k) => (show (k == n)=decide (Hd n) by
  subst hk
  rw [decide_eq_true hh];simp))
 have HF:=Lib.hid (fun (k:Int) (hk:k ≠ n) (hh:¬Hd n) => (show (k == n)=decide (Hd n) by
  rw [decide_eq_false hh];simpa using hk))
 obtain ⟨r,hr⟩:∃ r,decide (Hd n)=r:=⟨_,rfl⟩
 rw [hr] at HT HF ⊢
 clear hr
 go_enter Tryz.func143,Tryz.ntmps143
 go_wp2_with fail
 go_loopw [3] (fun y W => ∃ k:Int,y=.int .i64 k ∧ (k=4 ∨ k=8 ∧ 4 < n ∨ k=16 ∧ 8 < n ∨ k=32 ∧ 16 < n ∨ k=64 ∧ 32 < n ∨ k=128 ∧ 64 < n ∨ k=256 ∧ 128 < n ∨ k=512 ∧ 256 < n) ∧ w=W) (fun y _ => 1025 - (intOf y).toNat)
 case atStart => exact ⟨4,rfl,.inl rfl,rfl⟩
 case round =>
  obtain ⟨k,rfl,hk,rfl⟩:=hrel
  by_cases hkn:k < n
  ·by_cases h5:k < 512
   ·have hk0:0 ≤ k:=by omega
    have HN:=Lib.hid hk
    clear hk
    go_wp2_with fail
    refine ⟨⟨k + k,by go_num,?_,by first | rfl | trivial⟩,by have:=HN.out;simp [intOf];omega⟩
    have:=HN.out
    omega
   ·have hne:=HF.out k (by omega) (by unfold Hd;omega)
    go_wp2_with fail
    go_ret
    first | exact ⟨rfl,rfl⟩ | exact ⟨by rw [← hne],rfl⟩
  ·by_cases e:k=n
   ·have hne:r=true:=by
     have:=HT.out k e (by unfold Hd;omega)
     rw [← this,e];simp
    subst e
    subst hne
    go_wp2_with fail
    go_ret
    exact ⟨rfl,rfl⟩
   ·have hne:=HF.out k e (by unfold Hd;omega)
    go_wp2_with fail
    go_ret
    first | exact ⟨rfl,rfl⟩ | exact ⟨by rw [← hne],rfl⟩
end Go.Proofs.YtfbcdmhmpfijjaaGreatDoor
namespace Go.Proofs.YtfbcdmhmpfijjaaGreatDoor
open Go Go.RowKit
set_option maxHeartbeats 3200000 in
theorem rsize_flat (k:Nat) (hk:k=1 ∨ k=2 ∨ k=5 ∨ k=7 ∨ k=8 ∨ k=9 ∨ k=10 ∨ k=13) (w:World) :
 Calls Tryz.prog 145 #[.int .i64 (k:Int),.int .i64 0] w fun e w' => e=.returned (.tuple #[.int .i64 ((1 + (Rw k).len:Nat):Int),.bool true]) ∧ Still w w':=by
 have HR:=Lib.hid (fun W => rowOf_any k (by omega) (by omega) W)
 rcases hk with rfl | rfl | rfl | rfl | rfl | rfl | rfl | rfl
 all_goals
  go_enter Tryz.func145,Tryz.ntmps145
  go_wp2_with fail
  refine (HR.out _).mono ?_
  rintro e w1 ⟨⟨a,cp,rfl⟩,hs1⟩
  have HS1:=Lib.hid hs1
  clear hs1
  simp only [rowV,Rw]
  go_wp2_with fail
  go_ret2
  exact ⟨rfl,HS1.out.alloc _⟩
set_option maxHeartbeats 3200000 in
theorem rsize_3 (n:Nat) (hl:0 ≤ n) (hm:n ≤ 1023) (w:World) :
 Calls Tryz.prog 145 #[.int .i64 3,.int .i64 (n:Int)] w fun e w' => e=.returned (.tuple #[.int .i64 (1 + (n:Int)),.bool true]) ∧ Still w w':=by
 have HR:=Lib.hid (fun W => rowOf_any 3 (by omega) (by omega) W)
 have hn0:(0:Int) ≤ (n:Int):=by omega
 have hlI:(0:Int) ≤ (n:Int):=by omega
 have hnM:(n:Int) ≤ 1023:=by omega
 go_enter Tryz.func145,Tryz.ntmps145
 go_wp2_with fail
 refine (HR.out _).mono ?_
 rintro e w1 ⟨⟨a,cp,rfl⟩,hs1⟩
 have HS1:=Lib.hid hs1
 clear hs1
 simp only [rowV,Rw]
 go_wp2_with fail
 go_loopw [7,8] (fun x y W => ∃ j:Nat,x=.int .i64 (1 + (j:Int)) ∧ y=.int .i64 (j:Int) ∧ j ≤ n ∧ w1.alloc (.cells #[.slice a 0 cp,.int .i64 2,.int .i64 0,.int .i64 1023,.int .i64 1] 157)=W) (fun _ y _ => n + 1 - (intOf y).toNat)
 case atStart => exact ⟨0,rfl,rfl,Nat.zero_le _,rfl⟩
 case round =>
  obtain ⟨j,rfl,rfl,hj,rfl⟩:=hrel
  have hj0:(0:Int) ≤ (j:Int):=by omega
  by_cases hjn:j < n
  ·have hjI:(j:Int) < (n:Int):=by omega
   go_wp2_with fail
   exact ⟨⟨j + 1,by go_num,by go_num,hjn,trivial⟩,by simp [intOf];omega⟩
  ·obtain rfl:n=j:=by omega
   go_wp2_with fail
   go_ret2
   exact ⟨rfl,HS1.out.alloc _⟩
set_option maxHeartbeats 3200000 in
theorem rsize_6 (n:Nat) (hl:0 ≤ n) (hm:n ≤ 64) (w:World) :
 Calls Tryz.prog 145 #[.int .i64 6,.int .i64 (n:Int)] w fun e w' => e=.returned (.tuple #[.int .i64 (1 + (n:Int)),.bool true]) ∧ Still w w':=by
 have HR:=Lib.hid (fun W => rowOf_any 6 (by omega) (by omega) W)
 have hn0:(0:Int) ≤ (n:Int):=by omega
 have hlI:(0:Int) ≤ (n:Int):=by omega
 have hnM:(n:Int) ≤ 64:=by omega
 go_enter Tryz.func145,Tryz.ntmps145
 go_wp2_with fail
 refine (HR.out _).mono ?_
 rintro e w1 ⟨⟨a,cp,rfl⟩,hs1⟩
 have HS1:=Lib.hid hs1
 clear hs1
 simp only [rowV,Rw]
 go_wp2_with fail
 go_loopw [7,8] (fun x y W => ∃ j:Nat,x=.int .i64 (1 + (j:Int)) ∧ y=.int .i64 (j:Int) ∧ j ≤ n ∧ w1.alloc (.cells #[.slice a 0 cp,.int .i64 2,.int .i64 0,.int .i64 64,.int .i64 1] 157)=W) (fun _ y _ => n + 1 - (intOf y).toNat)
 case atStart => exact ⟨0,rfl,rfl,Nat.zero_le _,rfl⟩
 case round =>
  obtain ⟨j,rfl,rfl,hj,rfl⟩:=hrel
  have hj0:(0:Int) ≤ (j:Int):=by omega
  by_cases hjn:j < n
  ·have hjI:(j:Int) < (n:Int):=by omega
   go_wp2_with fail
   exact ⟨⟨j + 1,by go_num,by go_num,hjn,trivial⟩,by simp [intOf];omega⟩
  ·obtain rfl:n=j:=by omega
   go_wp2_with fail
   go_ret2
   exact ⟨rfl,HS1.out.alloc _⟩
set_option maxHeartbeats 3200000 in
theorem rsize_11 (n:Nat) (hl:0 ≤ n) (hm:n ≤ 128) (w:World) :
 Calls Tryz.prog 145 #[.int .i64 11,.int .i64 (n:Int)] w fun e w' => e=.returned (.tuple #[.int .i64 (5 + (n:Int)),.bool true]) ∧ Still w w':=by
 have HR:=Lib.hid (fun W => rowOf_any 11 (by omega) (by omega) W)
 have hn0:(0:Int) ≤ (n:Int):=by omega
 have hlI:(0:Int) ≤ (n:Int):=by omega
 have hnM:(n:Int) ≤ 128:=by omega
 go_enter Tryz.func145,Tryz.ntmps145
 go_wp2_with fail
 refine (HR.out _).mono ?_
 rintro e w1 ⟨⟨a,cp,rfl⟩,hs1⟩
 have HS1:=Lib.hid hs1
 clear hs1
 simp only [rowV,Rw]
 go_wp2_with fail
 go_loopw [7,8] (fun x y W => ∃ j:Nat,x=.int .i64 (5 + (j:Int)) ∧ y=.int .i64 (j:Int) ∧ j ≤ n ∧ w1.alloc (.cells #[.slice a 4 cp,.int .i64 2,.int .i64 0,.int .i64 128,.int .i64 1] 157)=W) (fun _ y _ => n + 1 - (intOf y).toNat)
 case atStart => exact ⟨0,rfl,rfl,Nat.zero_le _,rfl⟩
 case round =>
  obtain ⟨j,rfl,rfl,hj,rfl⟩:=hrel
  have hj0:(0:Int) ≤ (j:Int):=by omega
  by_cases hjn:j < n
  ·have hjI:(j:Int) < (n:Int):=by omega
   go_wp2_with fail
   exact ⟨⟨j + 1,by go_num,by go_num,hjn,trivial⟩,by simp [intOf];omega⟩
  ·obtain rfl:n=j:=by omega
   go_wp2_with fail
   go_ret2
   exact ⟨rfl,HS1.out.alloc _⟩
set_option maxHeartbeats 3200000 in
theorem rsize_12 (n:Nat) (hl:4 ≤ n) (hm:n ≤ 512) (h12:Sp.heads (n:Int)=true) (w:World) :
 Calls Tryz.prog 145 #[.int .i64 12,.int .i64 (n:Int)] w fun e w' => e=.returned (.tuple #[.int .i64 (1 + (n:Int)),.bool true]) ∧ Still w w':=by
 have HR:=Lib.hid (fun W => rowOf_any 12 (by omega) (by omega) W)
 have HH:=Lib.hid (fun W => rheads_any (n:Int) (by omega) (by omega) W)
 rw [h12] at HH
 clear h12
 have hn0:(0:Int) ≤ (n:Int):=by omega
 have hlI:(4:Int) ≤ (n:Int):=by omega
 have hnM:(n:Int) ≤ 512:=by omega
 go_enter Tryz.func145,Tryz.ntmps145
 go_wp2_with fail
 refine (HR.out _).mono ?_
 rintro e w1 ⟨⟨a,cp,rfl⟩,hs1⟩
 have HS1:=Lib.hid hs1
 clear hs1
 simp only [rowV,Rw]
 go_wp2_with fail
 refine (HH.out _).mono ?_
 rintro e w2 ⟨rfl,rfl⟩
 go_wp2_with fail
 go_loopw [7,8] (fun x y W => ∃ j:Nat,x=.int .i64 (1 + (j:Int)) ∧ y=.int .i64 (j:Int) ∧ j ≤ n ∧ w1.alloc (.cells #[.slice a 0 cp,.int .i64 9,.int .i64 4,.int .i64 512,.int .i64 1] 157)=W) (fun _ y _ => n + 1 - (intOf y).toNat)
 case atStart => exact ⟨0,rfl,rfl,Nat.zero_le _,rfl⟩
 case round =>
  obtain ⟨j,rfl,rfl,hj,rfl⟩:=hrel
  have hj0:(0:Int) ≤ (j:Int):=by omega
  by_cases hjn:j < n
  ·have hjI:(j:Int) < (n:Int):=by omega
   go_wp2_with fail
   exact ⟨⟨j + 1,by go_num,by go_num,hjn,trivial⟩,by simp [intOf];omega⟩
  ·obtain rfl:n=j:=by omega
   go_wp2_with fail
   go_ret2
   exact ⟨rfl,HS1.out.alloc _⟩
set_option maxHeartbeats 3200000 in
theorem rsize_4 (c:Nat) (hc:c ≤ 512) (w:World) :
 Calls Tryz.prog 145 #[.int .i64 4,.int .i64 ((8 * c:Nat):Int)] w fun e w' => e=.returned (.tuple #[.int .i64 (2 + (c:Int)),.bool true]) ∧ Still w w':=by
 have HR:=Lib.hid (fun W => rowOf_any 4 (by omega) (by omega) W)
 obtain ⟨n,hn⟩:∃ n,8 * c=n:=⟨_,rfl⟩
 have HN:=Lib.hid hn
 have hn0:(0:Int) ≤ (n:Int):=by omega
 have hnM:(n:Int) ≤ 4096:=by omega
 have hcM:(c:Int) ≤ 512:=by omega
 rw [hn]
 clear hn
 go_enter Tryz.func145,Tryz.ntmps145
 go_wp2_with fail
 refine (HR.out _).mono ?_
 rintro e w1 ⟨⟨a,cp,rfl⟩,hs1⟩
 have HS1:=Lib.hid hs1
 clear hs1
 simp only [rowV,Rw]
 go_wp2_with fail
 go_loopw [7,8] (fun x y W => ∃ j m:Nat,x=.int .i64 (2 + (j:Int)) ∧ y=.int .i64 (m:Int) ∧ m=8 * j ∧ j ≤ c ∧ w1.alloc (.cells #[.slice a 1 cp,.int .i64 1,.int .i64 0,.int .i64 4096,.int .i64 8] 157)=W) (fun _ y _ => n + 1 - (intOf y).toNat)
 case atStart => exact ⟨0,0,rfl,rfl,rfl,Nat.zero_le _,rfl⟩
 case round =>
  obtain ⟨j,m,rfl,rfl,hm,hj,rfl⟩:=hrel
  have hj0:(0:Int) ≤ (j:Int):=by omega
  have hm0:(0:Int) ≤ (m:Int):=by omega
  have hN:=HN.out
  by_cases hjn:j < c
  ·have hjI:(m:Int) < (n:Int):=by omega
   have HM:=Lib.hid hm
   clear hm hN
   go_wp2_with fail
   exact ⟨⟨j + 1,m + 8,by go_num,by go_num,by have:=HM.out;omega,hjn,trivial⟩,by simp [intOf];omega⟩
  ·obtain rfl:c=j:=by omega
   have hmn:m=n:=by omega
   subst hmn
   clear hm hN
   go_wp2_with fail
   go_ret2
   exact ⟨rfl,HS1.out.alloc _⟩
theorem rnumbered_any (k:Int) (w:World):Calls Tryz.prog 117 #[.int .i64 k] w fun e w' => e=.returned (.bool (Sp.numbered k)) ∧ w=w':=by
 by_cases h1:1 ≤ k
 ·by_cases h2:k ≤ 11
  ·have e:Sp.numbered k=true:=by unfold Sp.numbered;rw [decide_eq_true h1,decide_eq_true h2];rfl
   rw [e]
   clear e
   go_enter Tryz.func117,Tryz.ntmps117
   go_wp2_with fail
   go_ret
   exact ⟨by simp [h1,h2],rfl⟩
  ·have e:Sp.numbered k=false:=by unfold Sp.numbered;rw [decide_eq_true h1,decide_eq_false h2];rfl
   rw [e]
   clear e
   go_enter Tryz.func117,Tryz.ntmps117
   go_wp2_with fail
   go_ret
   exact ⟨by simp [h1,h2],rfl⟩
 ·have e:Sp.numbered k=false:=by unfold Sp.numbered;rw [decide_eq_false h1];rfl
  rw [e]
  clear e
  go_enter Tryz.func117,Tryz.ntmps117
  go_wp2_with fail
  go_ret
  exact ⟨by simp [h1],rfl⟩
end Go.Proofs.YtfbcdmhmpfijjaaGreatDoor
