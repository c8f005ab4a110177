/-
  The walk of looked: Use and Words.
-/
import Derived.Laws.Rows
import Derived.Test.YtfbcdmhmpfijjaaGreatDoorQ30
import Derived.Test.YtfbcdmhmpfijjaaGreatDoorQ25
import Derived.Laws.FloatArith
set_option linter.unusedVariables false
set_option linter.unusedSimpArgs false
set_option linter.unusedSectionVars false
namespace Go.Proofs.YtfbcdmhmpfijjaaGreatDoor
open Go Go.RowKit
def St.InvU (s:St):Prop:=∃ V,({ s with W:=V }:St).Inv
theorem St.InvX.u {s:St} (h:s.Inv):s.InvU:=⟨s.W,h⟩
section
variable {s:St} (h:s.InvU)
include h
theorem St.InvU.fine:s.Fine:=by
 obtain ⟨V,hv⟩:=h
 exact fun a ha => hv.fine a ha
theorem St.InvU.refOk:s.RefOk:=by
 obtain ⟨V,hv⟩:=h
 have r:=hv.refOk
 exact ⟨r.free,r.page,r.fine⟩
theorem St.InvU.mid:s.Mid:=by
 obtain ⟨V,hv⟩:=h
 have m:=hv.mid
 exact ⟨m.n1,m.n2,m.pages,m.obj,m.runs,m.side,m.ser0,m.ser1,m.sers,m.room,m.room2,m.idx,m.lowf⟩
theorem St.InvU.words (V:Nat → Int):({ s with W:=V }:St).InvU:=by
 obtain ⟨V',hv⟩:=h
 exact ⟨V',hv⟩
end
def wdF (s:St):Nat → Nat → Int:=fun i _ => s.W i
def pgF (s:St):Nat → Nat → Int:=fun i d => if d=0 then (s.P i).k else if d=1 then (s.P i).c else (s.P i).r
def blF (s:St):Nat → Nat → Int:=fun i d => if d=0 then ((s.blks.getD i ob0).at':Int) else if d=1 then (s.blks.getD i ob0).sh.k else if d=2 then (s.blks.getD i ob0).sh.z else if d=3 then (s.blks.getD i ob0).sh.s else (s.blks.getD i ob0).sh.t
theorem wdF_at (s:St):∀ i,i < 64 * s.n → ∀ d,d < ek 0 → ((wdList s.W (64 * s.n)).map (Value.int .i64))[i * ek 0 + d]?=some (.int .i64 (wdF s i d)):=fun i hi d hd => by
 have hd:d < 1:=hd
 obtain rfl:d=0:=by omega
 show ((wdList s.W (64 * s.n)).map (Value.int .i64))[i * 1 + 0]?=_
 rw [Nat.mul_one,Nat.add_zero,List.getElem?_map]
 unfold wdList
 rw [List.getElem?_map,List.getElem?_range hi]
 rfl
theorem pgF_at (s:St):∀ i,i < s.n → ∀ d,d < ek 1 → (pgCells s.P s.n).toList[i * ek 1 + d]?=some (.int .i64 (pgF s i d)):=fun i hi d hd => by
 have hd:d < 3:=hd
 show (pgCells s.P s.n).toList[i * 3 + d]?=_
 rw [Array.getElem?_toList]
 unfold pgCells
 rw [Array.getElem?_ofFn]
 have hlt:i * 3 + d < 3 * s.n:=by omega
 simp only [hlt,dite_true]
 unfold pgF
 have h1:(i * 3 + d) / 3=i:=by omega
 have h2:(i * 3 + d) % 3=d:=by omega
 simp only [h1,h2]
theorem blF_at (s:St):∀ i,i < s.blks.length → ∀ d,d < ek 2 → (obCells s.blks)[i * ek 2 + d]?=some (.int .i64 (blF s i d)):=fun i hi d hd => by
 have hd:d < 5:=hd
 show (obCells s.blks)[i * 5 + d]?=_
 rw [obCells_at s.blks i d hi hd]
 unfold blF Ob.cells
 have h5:d=0 ∨ d=1 ∨ d=2 ∨ d=3 ∨ d=4:=by omega
 rcases h5 with rfl | rfl | rfl | rfl | rfl <;> rfl
theorem ownsRow_zero {w:World} {B:Nat} {e:TypeId} {size n:Nat} {v:Value} {xs:List Value} (h:w.ownsRow B e size v n xs):w.ownsRow 0 e size v n xs:=ownsRow_le h (Nat.zero_le _)
theorem qin_of {W:World} {own:Nat → Lb} {B M k n:Nat} {l want:Value} {xs:List Value} {f:Nat → Nat → Int} (hn:n ≤ 300000) (hB:B ≤ M) (h1:W.ownsRow B (eT k) (ek k) l n xs) (hM:∀ g,l.ownBlock=some g → g < M) (h2:W.ownsRow M (eT k) (ek k) want n xs) (hx:∀ i,i < n → ∀ d,d < ek k → xs[i * ek k + d]?=some (.int .i64 (f i d))) (ho:∀ g,own g ≠ Lno → g < B):QIn W own B k l want n f:=by
 have hno:∀ g,B ≤ g → own g=Lno:=fun g hg => by
  by_cases e:own g=Lno
  ·exact e
  ·have:=ho g e;omega
 refine ⟨hn,⟨xs,ownsRow_zero h1,ownsRow_zero h2,hx⟩,fun g hg => ⟨hno g (h1.lt g hg).1,(h1.lt g hg).1⟩,fun g hg => ?_,fun g hg e => ?_⟩
 ·have:=(h2.lt g hg).1
  exact ⟨hno g (by omega),by omega⟩
 ·have:=hM g hg
  have:=(h2.lt g e).1
  omega
structure PairAt (w:World) (pb:Nat) (L:Lay) (R:RLay) (s:St) (own:Nat → Lb) (qf:Nat → Nat) (C:Nat):Prop where
 k:KeepAt w pb (.pointer (some ⟨L.sb,0,none⟩)) (.pointer (some ⟨R.rb,0,none⟩)) own qf C
 sp:SpaceAt w L s
 rf:RefAt w R s
 iv:s.InvU
 lr:L.hi ≤ R.lo
 ow:∀ g,own g ≠ Lno → R.hi ≤ g
 n24:s.n ≤ 24
section
variable {w w':World} {pb:Nat} {L:Lay} {R:RLay} {s:St} {own own':Nat → Lb} {qf:Nat → Nat} {C C':Nat} (h:PairAt w pb L R s own qf C)
include h
theorem PairAt.still (hs:Still w w'):PairAt w' pb L R s own qf C:=⟨h.k.still hs,h.sp.still hs,h.rf.still hs,h.iv,h.lr,h.ow,h.n24⟩
theorem PairAt.mono (hc:C ≤ C'):PairAt w pb L R s own qf C':=⟨h.k.mono hc,h.sp,h.rf,h.iv,h.lr,h.ow,h.n24⟩
theorem PairAt.olt:∀ g,own g ≠ Lno → g < w.heap.size:=by
 obtain ⟨v,ls,hk⟩:=h.k
 exact hk.hd.olt
theorem PairAt.c0:w.cell? ⟨pb,0,none⟩=some (.pointer (some ⟨L.sb,0,none⟩)):=by
 obtain ⟨v,ls,hk⟩:=h.k
 exact cell_of hk.hd.head 0 rfl
theorem PairAt.c1:w.cell? ⟨pb,1,none⟩=some (.pointer (some ⟨R.rb,0,none⟩)):=by
 obtain ⟨v,ls,hk⟩:=h.k
 exact cell_of hk.hd.head 1 rfl
theorem PairAt.lt:pb < w.heap.size:=by
 obtain ⟨v,ls,hk⟩:=h.k
 exact hk.hd.lt
theorem PairAt.rlo:L.lo ≤ L.hi ∧ R.lo ≤ R.hi ∧ R.hi ≤ pb:=by
 obtain ⟨v,ls,hk⟩:=h.k
 have a:=h.sp.ok.inn 0 (by omega)
 have b:=h.rf.ok.rb1
 have c:=h.ow pb (by rw [hk.hd.opb];intro e;cases e)
 omega
end
structure PFr (L:Lay) (R:RLay) (w:World) (own:Nat → Lb) (w':World) (own':Nat → Lb):Prop where
 kf:Kf w (fun g => own g ≠ Lno ∨ (L.lo ≤ g ∧ g < R.hi)) w'
 lb:∀ g,own' g ≠ Lno → own g ≠ Lno ∨ w.heap.size ≤ g
theorem PFr.refl (L:Lay) (R:RLay) (w:World) (own:Nat → Lb):PFr L R w own w own:=⟨Kf.refl _ _,fun _ h => .inl h⟩
theorem PFr.trans {L:Lay} {R:RLay} {w w1 w2:World} {own own1 own2:Nat → Lb} (h:PFr L R w own w1 own1) (k:PFr L R w1 own1 w2 own2):PFr L R w own w2 own2:=by
 refine ⟨h.kf.trans k.kf fun g hg hq => ?_,fun g hg => ?_⟩
 ·rcases hq with e | e
  ·rcases h.lb g e with e2 | e2
   ·exact .inl e2
   ·omega
  ·exact .inr e
 ·rcases k.lb g hg with e | e
  ·exact h.lb g e
  ·exact .inr (Nat.le_trans h.kf.size e)
theorem PFr.still {L:Lay} {R:RLay} {w w1 w2:World} {own own1:Nat → Lb} (h:PFr L R w own w1 own1) (k:Still w1 w2):PFr L R w own w2 own1:=⟨h.kf.still k,h.lb⟩
theorem PFr.of {L:Lay} {R:RLay} {w w1:World} {own:Nat → Lb} (k:Still w w1):PFr L R w own w1 own:=(PFr.refl L R w own).still k
theorem KFB.pfr {L:Lay} {R:RLay} {w w1 w2:World} {own own':Nat → Lb} (k:Still w w1) (h:KFB w.heap.size w1 own w2 own'):PFr L R w own w2 own':=by
 refine ⟨⟨h.kf.os.trans k.os,h.kf.tape.trans k.tape,h.kf.output.trans k.output,Nat.le_trans k.size h.kf.size,fun g hg hn => ?_⟩,h.lb⟩
 rw [h.kf.block g (Nat.lt_of_lt_of_le hg k.size) fun hq => hq.elim (fun e => hn (.inl e)) fun e => by omega,k.block g hg (.inl hg)]
theorem PairAt.lists {w1 w2:World} {pb:Nat} {L:Lay} {R:RLay} {s:St} {own own':Nat → Lb} {qf qf':Nat → Nat} {C C' B:Nat} (h:PairAt w1 pb L R s own qf C) (hk:KeepAt w2 pb (.pointer (some ⟨L.sb,0,none⟩)) (.pointer (some ⟨R.rb,0,none⟩)) own' qf' C') (hf:KFB B w1 own w2 own') (hB:R.hi ≤ B):PairAt w2 pb L R s own' qf' C':=by
 have hlo:=h.rlo
 have hon:Only R.hi w1.heap.size w1 w2:=⟨hf.kf.os,hf.kf.tape,hf.kf.output,hf.kf.size,fun g hg hn => hf.kf.block g hg fun hq => by
  rcases hq with e | e
  ·have:=h.ow g e;omega
  ·omega⟩
 exact ⟨hk,h.sp.kept hon (.inl (Nat.le_trans h.lr hlo.2.1)) (by have:=h.rf.ok.lo0;omega),h.rf.kept hon (.inl (Nat.le_refl _)),h.iv,h.lr,fun g hg => (hf.lb g hg).elim (h.ow g) fun e => Nat.le_trans hB e,h.n24⟩
theorem pair_new {w:World} {L:Lay} {R:RLay} {pb m:Nat} (h1:1 ≤ m) (h2:m ≤ 24) (hlr:L.hi ≤ R.lo) (hrp:R.hi ≤ pb) (hs:SpaceAt w L (St.new m)) (hr:RefAt w R (St.new m)) (hp:w.heap[pb]?=some (pairNew L.sb R.rb)):PairAt w pb L R (St.new m) (fun g => if g=pb then Lpb else Lno) (fun _ => 0) 0:=by
 have hlt:=(Array.getElem?_eq_some_iff.1 hp).1
 have hne:∀ g,(if g=pb then Lpb else Lno) ≠ Lno → g=pb:=fun g hg => by
  by_cases e:g=pb
  ·exact e
  ·rw [if_neg e] at hg;exact absurd rfl hg
 refine ⟨⟨fun _ => nilV,fun _ => [],⟨hp,if_pos rfl,fun j _ => World.ownsRow_nil _ _ _ _,fun j _ g hg => (by cases hg),fun g hg => by rw [hne g hg];exact hlt⟩,⟨fun _ _ => rfl,fun _ _ => rfl,fun _ _ => Nat.le_refl _,fun _ _ i _ hi => absurd hi (Nat.not_lt_zero _),fun _ _ i hi => absurd hi (Nat.not_lt_zero _)⟩,by decide,rfl⟩,hs,hr,(new_inv m h1 (by omega)).u,hlr,fun g hg => by rw [hne g hg];exact hrp,h2⟩
end Go.Proofs.YtfbcdmhmpfijjaaGreatDoor
namespace Go.Proofs.YtfbcdmhmpfijjaaGreatDoor
open Go Go.RowKit
theorem least_ex (p:Nat → Prop):∀ N,∃ m,Least p N m
 | 0 => ⟨0,Nat.le_refl _,fun i hi => by omega,fun h => by omega⟩
 | N + 1 => by
  obtain ⟨m,h1,h2,h3⟩:=least_ex p N
  by_cases e:m < N
  ·exact ⟨m,by omega,h2,fun _ => h3 e⟩
  ·obtain rfl:m=N:=by omega
   by_cases hp:p m
   ·exact ⟨m,by omega,h2,fun _ => hp⟩
   ·exact ⟨m + 1,by omega,fun i hi hpi => by
     by_cases e2:i=m
     ·rw [e2] at hpi;exact hp hpi
     ·exact h2 i (by omega) hpi,fun h => by omega⟩
abbrev opVal (wh k a b c:Int) (la:Option Addr) (ll lc:Nat):Value:=.agg #[.int .i64 wh,.int .i64 k,.int .i64 a,.int .i64 b,.int .i64 c,.slice la ll lc]
abbrev opObj (wh k a b c:Int) (la:Option Addr) (ll lc:Nat):Obj:=.cells #[.int .i64 wh,.int .i64 k,.int .i64 a,.int .i64 b,.int .i64 c,.slice la ll lc] 29
set_option maxRecDepth 100000 in
set_option maxHeartbeats 6400000 in
theorem looked18 (w:World) (pb:Nat) (L:Lay) (R:RLay) (s:St) (own:Nat → Lb) (qf:Nat → Nat) (C:Nat) (h:PairAt w pb L R s own qf C) (wh a b c:Int) (la:Option Addr) (ll lc:Nat) :
 Calls Tryz.prog 13 #[.pointer (some ⟨pb,0,none⟩),opVal wh 18 a b c la ll lc] w fun e w' => e=.returned (.bool true) ∧ Still w w':=by
 have HP:=Lib.hid h
 obtain ⟨m,hm⟩:=least_ex (s.badTo 8) (64 * s.n)
 obtain ⟨x,hx⟩:∃ x,(if m=64 * s.n then -1 else (m:Int))=x:=⟨_,rfl⟩
 have HW1:Hid (∀ w',Still w w' → Calls Tryz.prog 34 #[.pointer (some ⟨L.sb,0,none⟩)] w' fun e w2 => e=.returned (.int .i64 x) ∧ Still w' w2):=Lib.hid fun w' hs => (wrong_any w' L s (h.sp.still hs) h.iv.fine).mono fun e w2 ⟨⟨m',h1,h2⟩,h3⟩ => ⟨by rw [h2,h1.same hm,hx],h3⟩
 have HW2:Hid (∀ w',Still w w' → Calls Tryz.prog 35 #[.pointer (some ⟨R.rb,0,none⟩)] w' fun e w2 => e=.returned (.int .i64 x) ∧ Still w' w2):=Lib.hid fun w' hs => (rwrong_any w' R s (h.rf.still hs) h.iv.refOk).mono fun e w2 ⟨⟨m',h1,h2⟩,h3⟩ => ⟨by rw [h2,h1.same hm,hx],h3⟩
 clear h hm hx
 go_enter Tryz.func13,Tryz.ntmps13
 go_upto_region 25 with fail
 have hsb:Still w (w.alloc (opObj wh 18 a b c la ll lc)):=(Only.refl _ _ w).alloc _
 generalize w.alloc (opObj wh 18 a b c la ll lc)=w1 at *
 have HC:Hid (∀ w',Still w w' → w'.cell? ⟨pb,0,none⟩=some (.pointer (some ⟨L.sb,0,none⟩)) ∧ w'.cell? ⟨pb,1,none⟩=some (.pointer (some ⟨R.rb,0,none⟩))):=Lib.hid fun w' hs => ⟨(HP.out.still hs).c0,(HP.out.still hs).c1⟩
 have hsC:=hsb
 obtain ⟨k0,k1⟩:=HC.out _ hsC
 have hpl:=(HP.out.still hsC).lt
 go_cut [4] from 170 to 180 (fun s4 wx => s4=.bool true ∧ Still w wx)
 case first =>
  go_region_held3 (fun w' => w'.cell? ⟨pb,0,none⟩=some (.pointer (some ⟨L.sb,0,none⟩)) ∧ w'.cell? ⟨pb,1,none⟩=some (.pointer (some ⟨R.rb,0,none⟩)))
   ((refine HC.out _ ?_;(repeat first | with_reducible exact hsC | with_reducible exact Only.refl _ _ _ | with_reducible apply Only.drew | with_reducible apply Only.drewN | with_reducible apply Only.alloc)))
   (first
     | (go_at_call 34;refine (HW1.out _ (by (repeat first | with_reducible exact hsC | with_reducible exact Only.refl _ _ _ | with_reducible apply Only.drew | with_reducible apply Only.drewN | with_reducible apply Only.alloc))).mono ?_;rintro e wp ⟨rfl,hcall⟩;have hsC:Still w wp:=Still.trans (by (repeat first | with_reducible exact hsC | with_reducible exact Only.refl _ _ _ | with_reducible apply Only.drew | with_reducible apply Only.drewN | with_reducible apply Only.alloc)) hcall)
     | (go_at_call 35;refine (HW2.out _ (by (repeat first | with_reducible exact hsC | with_reducible exact Only.refl _ _ _ | with_reducible apply Only.drew | with_reducible apply Only.drewN | with_reducible apply Only.alloc))).mono ?_;rintro e wq ⟨rfl,hcall⟩;have hsC:Still w wq:=Still.trans (by (repeat first | with_reducible exact hsC | with_reducible exact Only.refl _ _ _ | with_reducible apply Only.drew | with_reducible apply Only.drewN | with_reducible apply Only.alloc)) hcall))
  all_goals
   go_wp2_with fail
   go_meet
   exact ⟨rfl,(by (repeat first | with_reducible exact hsC | with_reducible exact Only.refl _ _ _ | with_reducible apply Only.drew | with_reducible apply Only.drewN | with_reducible apply Only.alloc))⟩
 case rest =>
  obtain ⟨rfl,hsc⟩:=hcut
  have HSC:=Lib.hid hsc
  clear hsc hsC
  go_wp2_with fail
  go_ret
  exact ⟨rfl,HSC.out⟩
end Go.Proofs.YtfbcdmhmpfijjaaGreatDoor
namespace Go.Proofs.YtfbcdmhmpfijjaaGreatDoor
open Go Go.RowKit
theorem order_self (d:Ieee.Datum) (h:d.isNaN=false):d.order d=some .eq:=by
 cases d with
 | nan s t => cases h
 | infinity s => simp [Ieee.Datum.order,compare,compareOfLessAndEq]
 | number s m i => simp [Ieee.Datum.order,compare,compareOfLessAndEq]
theorem read_not_nan (f:Ieee.Format) {w:Nat} (h:w % f.signWeight ≤ f.infRung):(f.read w).isNaN=false:=by
 unfold Ieee.Format.read
 dsimp only
 split
 ·rfl
 ·split
  ·rfl
  ·split
   ·rfl
   ·omega
theorem word_mod (f:Ieee.Format) (s:Bool) {r:Nat} (h:r ≤ f.infRung):f.word s r % f.signWeight=r:=by
 have:=f.infRung_lt
 unfold Ieee.Format.word
 split
 ·rw [Nat.add_mod_left,Nat.mod_eq_of_lt (by omega)]
 ·exact Nat.mod_eq_of_lt (by omega)
theorem write_not_nan (f:Ieee.Format) (s:Bool) (m:Nat) (p:Int):(f.read (f.write (.number s m p))).isNaN=false:=by
 refine read_not_nan f ?_
 show f.nearest s m p % _ ≤ _
 unfold Ieee.Format.nearest
 dsimp only
 split
 ·rw [word_mod f s (Nat.zero_le _)];exact Nat.zero_le _
 ·rw [word_mod f s (Nat.min_le_right _ _)];exact Nat.min_le_right _ _
theorem read_nat {n:Nat} (h1:1 ≤ n) (h2:n < 2 ^ 53):∃ m e,Ieee.double.read (Ieee.double.write (.number false n 0))=.number false m e ∧ m ≠ 0:=by
 have hlog:n.log2 < 53:=(Nat.log2_lt (by omega)).2 h2
 have hlt:n < 2 ^ (n.log2 + 1):=Nat.lt_log2_self
 obtain ⟨l,hl⟩:∃ l,n.log2=l:=⟨_,rfl⟩
 rw [hl] at hlog hlt
 have hlp:Ieee.double.leastPlace=-1074:=by decide
 have hbn:Ieee.double.binade=2 ^ 52:=rfl
 have hin:Ieee.double.infRung=2047 * 2 ^ 52:=by decide
 have hsw:Ieee.double.signWeight=2 ^ 63:=rfl
 have hlast:max ((0:Int) + (l:Int) - (Ieee.double.fractionBits:Int)) Ieee.double.leastPlace=(l:Int) - 52:=by
  rw [hlp]
  show max ((0:Int) + (l:Int) - ((52:Nat):Int)) (-1074)=_
  omega
 have hcut:∀ x,Ieee.Toward.even.cut false x 0=x:=fun x => by
  unfold Ieee.Toward.cut
  simp [Nat.mod_one]
 have hk:∃ r,1 ≤ r ∧ r < 2047 * 2 ^ 52 ∧ Ieee.double.write (.number false n 0)=r:=by
  refine ⟨(l + 1022) * 2 ^ 52 + n * 2 ^ (52 - l),?_,?_,?_⟩
  ·have:1 ≤ n * 2 ^ (52 - l):=Nat.mul_pos h1 (Nat.two_pow_pos _)
   omega
  ·have h3:n * 2 ^ (52 - l) < 2 ^ (l + 1) * 2 ^ (52 - l):=(Nat.mul_lt_mul_right (Nat.two_pow_pos _)).2 hlt
   rw [← Nat.pow_add,show l + 1 + (52 - l)=53 by omega] at h3
   have h4:(l + 1022) * 2 ^ 52 ≤ 1074 * 2 ^ 52:=Nat.mul_le_mul_right _ (by omega)
   omega
  ·show Ieee.double.nearest false n 0=_
   unfold Ieee.Format.nearest
   rw [if_neg (by omega),hl]
   dsimp only
   rw [hlast,hlp,show ((l:Int) - 52 - 0).toNat=0 by omega,hcut,show ((0:Int) - ((l:Int) - 52)).toNat=52 - l by omega,Nat.shiftLeft_eq,show ((l:Int) - 52 - -1074).toNat=l + 1022 by omega,hbn,hin]
   have h3:n * 2 ^ (52 - l) < 2 ^ (l + 1) * 2 ^ (52 - l):=(Nat.mul_lt_mul_right (Nat.two_pow_pos _)).2 hlt
   rw [← Nat.pow_add,show l + 1 + (52 - l)=53 by omega] at h3
   have h4:(l + 1022) * 2 ^ 52 ≤ 1074 * 2 ^ 52:=Nat.mul_le_mul_right _ (by omega)
   have h5:(l + 1022) * 2 ^ 52 + n * 2 ^ (52 - l) ≤ 2047 * 2 ^ 52:=Nat.le_trans (Nat.add_le_add h4 (Nat.le_of_lt h3)) (by decide)
   rw [Nat.min_eq_left h5]
   unfold Ieee.Format.word
   rw [if_neg (by decide)]
 obtain ⟨r,r1,r2,hr⟩:=hk
 rw [hr]
 unfold Ieee.Format.read
 dsimp only
 have h63:r < Ieee.double.signWeight:=by rw [hsw];omega
 rw [Nat.mod_eq_of_lt h63,Nat.div_eq_of_lt h63,hbn,hin]
 have hz:((0:Nat) % 2 == 1)=false:=rfl
 rw [hz]
 by_cases hb:r < 2 ^ 52
 ·rw [if_pos hb]
  exact ⟨_,_,rfl,by omega⟩
 ·rw [if_neg hb,if_pos r2]
  exact ⟨_,_,rfl,by omega⟩
theorem quo_nat {r d:Nat} (h1:1 ≤ d) (h2:d < 2 ^ 53):∃ q,floatBits .quo .f64 (floatOfInt .f64 (r:Int)) (floatOfInt .f64 (d:Int))=some q ∧ Ieee.double.order q q=some .eq ∧ (r=0 → q=0):=by
 obtain ⟨m,e,hd,hm⟩:=read_nat h1 h2
 have hfd:floatOfInt .f64 (d:Int)=Ieee.double.write (.number false d 0):=by
  show Ieee.double.write (.number (decide ((d:Int) < 0)) (d:Int).natAbs 0)=_
  rw [decide_eq_false (by omega)];rfl
 have hfr:floatOfInt .f64 (r:Int)=Ieee.double.write (.number false r 0):=by
  show Ieee.double.write (.number (decide ((r:Int) < 0)) (r:Int).natAbs 0)=_
  rw [decide_eq_false (by omega)];rfl
 have hrn:=write_not_nan Ieee.double false r 0
 show ∃ q,Ieee.double.div (floatOfInt .f64 (r:Int)) (floatOfInt .f64 (d:Int))=some q ∧ _
 unfold Ieee.Format.div
 rw [hfd,hfr,hd]
 cases hx:Ieee.double.read (Ieee.double.write (.number false r 0)) with
 | nan s t => rw [hx] at hrn;cases hrn
 | infinity s =>
  refine ⟨_,rfl,order_self _ (read_not_nan _ ?_),fun h0 => ?_⟩
  ·show Ieee.double.word _ _ % _ ≤ _
   rw [word_mod _ _ (Nat.le_refl _)];exact Nat.le_refl _
  ·subst h0
   have h0:Ieee.double.read (Ieee.double.write (.number false 0 0))=.number false 0 (-1074):=by decide
   rw [h0] at hx
   cases hx
 | number s mr er =>
  refine ⟨Ieee.double.write (.number (s ^^ false) (2 * (mr <<< (Ieee.double.fractionBits + 2 + m.log2 - mr.log2) / m) + (mr <<< (Ieee.double.fractionBits + 2 + m.log2 - mr.log2) % m != 0).toNat) (er - e - (Ieee.double.fractionBits + 2 + m.log2 - mr.log2:Nat) - 1)),?_,order_self _ (write_not_nan _ _ _ _),fun h0 => ?_⟩
  ·unfold Ieee.Datum.quotient
   dsimp only
   rw [if_neg hm]
   rfl
  ·subst h0
   have h0:Ieee.double.read (Ieee.double.write (.number false 0 0))=.number false 0 (-1074):=by decide
   rw [h0] at hx
   injection hx with h3 h4 h5
   subst h3
   subst h4
   rw [Nat.zero_shiftLeft,Nat.zero_div,Nat.zero_mod]
   rfl
set_option maxHeartbeats 1600000 in
theorem suse_any (w:World) (L:Lay) (s:St) (h:SpaceAt w L s) {r q:Nat} (hr:s.room=(r:Int)) (hq:floatBits .quo .f64 (floatOfInt .f64 (r:Int)) (floatOfInt .f64 ((64 * s.n:Nat):Int))=some q) :
 Calls Tryz.prog 36 #[.pointer (some ⟨L.sb,0,none⟩)] w fun e w' => e=.returned (.float .f64 q) ∧ ∃ m,w'=w.drewN m:=by
 have c0:=h.c0
 have c14:=h.c14
 have cl:=h.sblt
 rw [hr] at c14
 have hc:∀ (n:Int) (W:World),(convert 3 67 (.int .i64 n)).run Tryz.prog W=.ok (.float .f64 (floatOfInt .f64 n)) W:=fun n W => run_convert_int_float W _ _ _ _ n (by rw [Tryz.underlying3];rfl) Tryz.underlying67
 have hqq:=fun (W:World) => run_float_arith (P:=Tryz.prog) W .quo 67 .f64 _ _ q hq
 generalize 64 * s.n=N at *
 clear h hr hq
 go_enter Tryz.func36,Tryz.ntmps36
 go_wp2_with fail
 go_quiet (fail)
 go_wp2_with fail
 go_ret
 exact ⟨rfl,_,rfl⟩
end Go.Proofs.YtfbcdmhmpfijjaaGreatDoor
namespace Go.Proofs.YtfbcdmhmpfijjaaGreatDoor
open Go Go.RowKit
set_option maxRecDepth 100000 in
set_option maxHeartbeats 6400000 in
theorem looked19 (w:World) (pb:Nat) (L:Lay) (R:RLay) (s:St) (own:Nat → Lb) (qf:Nat → Nat) (C:Nat) (h:PairAt w pb L R s own qf C) (wh a b c:Int) (la:Option Addr) (ll lc:Nat) :
 Calls Tryz.prog 13 #[.pointer (some ⟨pb,0,none⟩),opVal wh 19 a b c la ll lc] w fun e w' => e=.returned (.bool true) ∧ Still w w':=by
 have HP:=Lib.hid h
 obtain ⟨r,hr⟩:=Int.eq_ofNat_of_zero_le h.iv.mid.room0
 have hn1:=h.sp.n1
 have hn2:=h.sp.n2
 obtain ⟨q,hq,ho,_⟩:=quo_nat (r:=r) (d:=64 * s.n) (by omega) (by omega)
 have HW1:Hid (∀ w',Still w w' → Calls Tryz.prog 17 #[.pointer (some ⟨L.sb,0,none⟩)] w' fun e w2 => e=.returned (.int .i64 ((64 * s.n:Nat):Int)) ∧ Still w' w2):=Lib.hid fun w' hs => (swords_any w' L s (h.sp.still hs)).mono fun e w2 ⟨h1,h2⟩ => ⟨h1,by rw [← h2];exact Only.refl _ _ _⟩
 have HW2:Hid (∀ w',Still w w' → Calls Tryz.prog 36 #[.pointer (some ⟨L.sb,0,none⟩)] w' fun e w2 => e=.returned (.float .f64 q) ∧ Still w' w2):=Lib.hid fun w' hs => (suse_any w' L s (h.sp.still hs) hr hq).mono fun e w2 ⟨h1,m,h2⟩ => ⟨h1,by rw [h2];exact (Only.refl _ _ _).drewN m⟩
 have HW3:Hid (∀ w',Still w w' → Calls Tryz.prog 37 #[.pointer (some ⟨R.rb,0,none⟩)] w' fun e w2 => e=.returned (.int .i64 (r:Int)) ∧ Still w' w2):=Lib.hid fun w' hs => (rroom_of w' R s (h.rf.still hs) h.iv.refOk).mono fun e w2 ⟨h1,h2⟩ => ⟨by rw [h1,← h.iv.mid.room,hr],h2⟩
 have hc:∀ (n:Int) (W:World),(convert 3 67 (.int .i64 n)).run Tryz.prog W=.ok (.float .f64 (floatOfInt .f64 n)) W:=fun n W => run_convert_int_float W _ _ _ _ n (by rw [Tryz.underlying3];rfl) Tryz.underlying67
 have hqq:=fun (W:World) => run_float_arith (P:=Tryz.prog) W .quo 67 .f64 _ _ q hq
 have HO:Hid (FloatKind.f64.format.order q q=some Ordering.eq):=Lib.hid ho
 have HC:Hid (∀ w',Still w w' → w'.cell? ⟨pb,0,none⟩=some (.pointer (some ⟨L.sb,0,none⟩)) ∧ w'.cell? ⟨pb,1,none⟩=some (.pointer (some ⟨R.rb,0,none⟩)) ∧ w'.cell? ⟨R.rb,0,none⟩=some (.slice (some ⟨R.wb,0,none⟩) (64 * s.n) R.cw)):=Lib.hid fun w' hs => ⟨(HP.out.still hs).c0,(HP.out.still hs).c1,(HP.out.still hs).rf.c0⟩
 obtain ⟨N,hN⟩:∃ N,64 * s.n=N:=⟨_,rfl⟩
 rw [hN] at HW1 hqq HC
 clear h hr hn1 hn2 hq ho hN
 go_enter Tryz.func13,Tryz.ntmps13
 go_upto_region 27 with fail
 have hsb:Still w (w.alloc (opObj wh 19 a b c la ll lc)):=(Only.refl _ _ w).alloc _
 generalize w.alloc (opObj wh 19 a b c la ll lc)=w1 at *
 have hsC:=hsb
 obtain ⟨k0,k1,k2⟩:=HC.out _ hsC
 have hpl:=(HP.out.still hsC).lt
 have hrl:=(HP.out.still hsC).rf.lts.1
 go_cut [4] from 183 to 220 (fun s4 wx => s4=.bool true ∧ Still w wx)
 case first =>
  go_region_held3 (fun w' => w'.cell? ⟨pb,0,none⟩=some (.pointer (some ⟨L.sb,0,none⟩)) ∧ w'.cell? ⟨pb,1,none⟩=some (.pointer (some ⟨R.rb,0,none⟩)) ∧ w'.cell? ⟨R.rb,0,none⟩=some (.slice (some ⟨R.wb,0,none⟩) N R.cw))
   ((refine HC.out _ ?_;(repeat first | with_reducible exact hsC | with_reducible exact Only.refl _ _ _ | with_reducible apply Only.drew | with_reducible apply Only.drewN | with_reducible apply Only.alloc)))
   (first
     | (go_at_call 17;refine (HW1.out _ (by (repeat first | with_reducible exact hsC | with_reducible exact Only.refl _ _ _ | with_reducible apply Only.drew | with_reducible apply Only.drewN | with_reducible apply Only.alloc))).mono ?_;rintro e wp ⟨rfl,hcall⟩;have hsC:Still w wp:=Still.trans (by (repeat first | with_reducible exact hsC | with_reducible exact Only.refl _ _ _ | with_reducible apply Only.drew | with_reducible apply Only.drewN | with_reducible apply Only.alloc)) hcall)
     | (go_at_call 36;refine (HW2.out _ (by (repeat first | with_reducible exact hsC | with_reducible exact Only.refl _ _ _ | with_reducible apply Only.drew | with_reducible apply Only.drewN | with_reducible apply Only.alloc))).mono ?_;rintro e wq ⟨rfl,hcall⟩;have hsC:Still w wq:=Still.trans (by (repeat first | with_reducible exact hsC | with_reducible exact Only.refl _ _ _ | with_reducible apply Only.drew | with_reducible apply Only.drewN | with_reducible apply Only.alloc)) hcall)
     | (go_at_call 37;refine (HW3.out _ (by (repeat first | with_reducible exact hsC | with_reducible exact Only.refl _ _ _ | with_reducible apply Only.drew | with_reducible apply Only.drewN | with_reducible apply Only.alloc))).mono ?_;rintro e wr ⟨rfl,hcall⟩;have hsC:Still w wr:=Still.trans (by (repeat first | with_reducible exact hsC | with_reducible exact Only.refl _ _ _ | with_reducible apply Only.drew | with_reducible apply Only.drewN | with_reducible apply Only.alloc)) hcall))
  all_goals
   go_wp2_with fail
   go_meet
   exact ⟨by rw [HO.out];rfl,(by (repeat first | with_reducible exact hsC | with_reducible exact Only.refl _ _ _ | with_reducible apply Only.drew | with_reducible apply Only.drewN | with_reducible apply Only.alloc))⟩
 case rest =>
  obtain ⟨rfl,hsc⟩:=hcut
  have HSC:=Lib.hid hsc
  clear hsc hsC
  go_wp2_with fail
  go_ret
  exact ⟨rfl,HSC.out⟩
end Go.Proofs.YtfbcdmhmpfijjaaGreatDoor
