/-
  The lists that a pair keeps: how they lie in memory.
-/
import Derived.Laws.Rows
import Derived.Test.YtfbcdmhmpfijjaaGreatDoorQ24
import Derived.Test.YtfbcdmhmpfijjaaGreatDoorQ13
import Derived.Maps.AppendAt
import Derived.Test.YtfbcdmhmpfijjaaGreatDoorQ23
import Derived.OwnWalk
set_option linter.unusedVariables false
set_option linter.unusedSimpArgs false
set_option linter.unusedSectionVars false
namespace Go.Proofs.YtfbcdmhmpfijjaaGreatDoor
open Go Go.RowKit
theorem swords_any (w:World) (L:Lay) (s:St) (h:SpaceAt w L s) :
 Calls Tryz.prog 17 #[.pointer (some ⟨L.sb,0,none⟩)] w fun e w' => e=.returned (.int .i64 ((64 * s.n:Nat):Int)) ∧ w=w':=by
 have c0:=h.c0
 have hl:=h.sblt
 obtain ⟨N,hN⟩:∃ N,64 * s.n=N:=⟨_,rfl⟩
 rw [hN] at c0 ⊢
 clear h hN
 go_enter Tryz.func17,Tryz.ntmps17
 go_wp2_with fail
 go_ret
 exact ⟨rfl,rfl⟩
abbrev pairNew (sb rb:Nat):Obj:=.cells #[.pointer (some ⟨sb,0,none⟩),.pointer (some ⟨rb,0,none⟩),.slice none 0 0,.slice none 0 0,.slice none 0 0,.slice none 0 0,.slice none 0 0,.slice none 0 0,.slice none 0 0,.slice none 0 0,.slice none 0 0,.slice none 0 0,.slice none 0 0,.slice none 0 0] 48 (0,0)
set_option maxRecDepth 100000 in
set_option maxHeartbeats 3200000 in
theorem made_any (n:Int) (w:World) (hT:Tab w) (h0:0 < w.heap.size) (Q:Ending → World → Prop)
 (hno:∀ w',Still w w' → Q (.returned (.tuple #[.pointer none,.bool true])) w')
 (hyes:∀ (m:Nat) w' (L:Lay) (R:RLay) (pb:Nat),n=(m:Int) → 1 ≤ m → m ≤ 24 → L.lo=w.heap.size → L.hi ≤ R.lo → R.hi ≤ pb → SpaceAt w' L (St.new m) → RefAt w' R (St.new m) → w'.heap[pb]?=some (pairNew L.sb R.rb) → Still w w' → Q (.returned (.tuple #[.pointer (some ⟨pb,0,none⟩),.bool true])) w') :
 Calls Tryz.prog 11 #[.int .i64 n] w Q:=by
 have HN:=Lib.hid hno
 have HY:=Lib.hid hyes
 clear hno hyes
 by_cases hb:n < 1 ∨ 4096 < n
 ·have HS:=Lib.hid (snew_no n w hb)
  have HR:=Lib.hid (rnew_no n w hb)
  rcases hb with hb | hb
  ·go_enter Tryz.func11,Tryz.ntmps11
   go_wp2_with fail
   refine HS.out.mono ?_
   rintro e w1 ⟨rfl,rfl⟩
   go_wp2_with fail
   refine HR.out.mono ?_
   rintro e w1 ⟨rfl,rfl⟩
   go_wp2_with fail
   exact HN.out _ (Only.refl _ _ _)
  ·have hd:(24:Int) < n:=by omega
   go_enter Tryz.func11,Tryz.ntmps11
   go_wp2_with fail
   refine HS.out.mono ?_
   rintro e w1 ⟨rfl,rfl⟩
   go_wp2_with fail
   refine HR.out.mono ?_
   rintro e w1 ⟨rfl,rfl⟩
   go_wp2_with fail
   exact HN.out _ (Only.refl _ _ _)
 ·obtain ⟨m,rfl⟩:=Int.eq_ofNat_of_zero_le (show 0 ≤ n by omega)
  have hm1:1 ≤ m:=by omega
  have hm2:m ≤ 4096:=by omega
  have hm0:(0:Int) ≤ (m:Int):=by omega
  have HS:=Lib.hid (fun Q hQ => snew_yes m w hm1 hm2 hT h0 Q hQ)
  by_cases h24:24 < m
  ·have h24I:(24:Int) < (m:Int):=by omega
   have h40I:(m:Int) ≤ 4096:=by omega
   clear hb hT h0
   go_enter Tryz.func11,Tryz.ntmps11
   go_wp2_with fail
   refine HS.out _ (fun w1 L hlo hsp hst => ?_)
   have HW:=Lib.hid (swords_any w1 L _ hsp)
   rw [show (((64 * (St.new m).n:Nat)):Int)=64 * (m:Int) by show ((64 * m:Nat):Int)=_;omega] at HW
   have HST:=Lib.hid hst
   clear hlo hsp hst HS
   go_wp2_with fail
   refine HW.out.mono ?_
   rintro e w2 ⟨rfl,rfl⟩
   go_wp2_with fail
   exact HN.out _ HST.out
  ·have h24I:(m:Int) ≤ 24:=by omega
   clear hb hT
   go_enter Tryz.func11,Tryz.ntmps11
   go_wp2_with fail
   refine HS.out _ (fun w1 L hlo hsp hst => ?_)
   have HSP:=Lib.hid hsp
   have HST:=Lib.hid hst
   have HR:=Lib.hid (fun Q hQ => rnew_yes m w1 hm1 hm2 hsp.lo0 Q hQ)
   clear hsp hst HS
   go_wp2_with fail
   refine HR.out _ (fun w2 R hlo2 hr2 hst2 => ?_)
   have HR2:=Lib.hid hr2
   have HST2:=Lib.hid hst2
   clear hr2 hst2 HR
   go_wp2_with fail
   refine HY.out m _ L R w2.heap.size rfl hm1 (by omega) hlo (by rw [hlo2];exact HSP.out.top) HR2.out.top ((HSP.out.still HST2.out).alloc _) (HR2.out.alloc _) (heap_alloc_new w2 _) ((Still.trans HST.out HST2.out).alloc _)
end Go.Proofs.YtfbcdmhmpfijjaaGreatDoor
namespace Go.Proofs.YtfbcdmhmpfijjaaGreatDoor
open Go Go.RowKit
theorem append_over {P:Program} (w:World) (base:Nat) (t ty e:TypeId) (i:TypeInfo) (z:Value) (size bytes:Nat) (ht:P.underlying t=some (.slice e)) (hi:P.info? e=some i) (hz:i.zero=some z)
 (hsize:i.size=size) (hby:i.bytes=bytes) (hzs:z.cells.size=size) (hsz:0 < size)
 (v:Value) (n:Nat) (xs:List Value) (hown:w.ownsRow base e size v n xs)
 (a:Addr) (c:Nat) (news:List Value) (hl:news.length=size) (hnews:∀ j u,news[j]?=some u → w.cell? (a.add j)=some u) (h1:∀ u ∈ news,u.oneCell'=true)
 (h63:n + 1 ≤ maxLen) (hbytes:(n + 1) * bytes ≤ 140737488355328) (hbase:base ≤ w.heap.size) :
 ∃ v' w',(Builtin.append_ #[t,t] ty #[v,.slice (some a) 1 c]).run P w=.ok v' w' ∧ w'.ownsRow base e size v' (n + 1) (xs ++ news) ∧ w.grownBy w' v.ownBlock ∧
  (v'.ownBlock=v.ownBlock ∨ v'.ownBlock=some w.heap.size) ∧
  ∀ g cur,v.ownBlock=some g → w.heap[g]?=some (.cells cur e (0,0)) → ∃ cur',w'.heap[g]?=some (.cells cur' e (0,0)) ∧ cur'.size=cur.size ∧ ∀ j,j < cur.size → cur'[j]?=cur[j]? ∨ ∃ d,d < size ∧ j=n * size + d ∧ cur'[j]?=news[d]?:=by
 have hl':news.length=1 * size:=by rw [Nat.one_mul];exact hl
 obtain ⟨v',w',hr,h2,h3,_,h5⟩:=run_append_own_at (P:=P) w base t ty e i z size bytes ht hi hz hsize hby hzs hsz v n xs hown a 1 c news hl' hnews h1 h63 hbytes hbase
 refine ⟨v',w',hr,h2,h3,h5,fun g cur hg hcur => ?_⟩
 rcases hown.2 with ⟨rfl,rfl⟩ | ⟨g',cap,cur',rfl,hbg,hg',hnc,hcm,hcs,htake⟩
 ·cases hg
 ·injection hg with hg
  change g'=g at hg
  subst hg
  rw [hg'] at hcur
  injection hcur with hcur
  injection hcur with hcur _ _
  subst hcur
  subst hsize
  subst hby
  by_cases hroom:n + 1 ≤ cap
  ·have hfit:n * i.size + news.length ≤ cur'.size:=by
    rw [hl',hcs,← Nat.add_mul];exact Nat.mul_le_mul_right _ hroom
   have hr2:=run_append_room (P:=P) w t ty e i ht hi g' n cap cur' hg' a 1 c news hl' hnews h1 hroom hfit
   rw [hr] at hr2
   injection hr2 with _ hw
   rw [hw]
   refine ⟨_,setRow_heap w g' cur' _ e _ hg',?_,fun j hj => ?_⟩
   ·simp only [List.size_toArray,List.length_append,List.length_take,List.length_drop,Array.length_toList]
    omega
   ·rw [List.getElem?_toArray]
    by_cases h1:j < n * i.size
    ·left
     rw [List.append_assoc,List.getElem?_append_left (by simp;omega),List.getElem?_take_of_lt h1,Array.getElem?_toList]
    ·by_cases h2:j < n * i.size + news.length
     ·right
      refine ⟨j - n * i.size,by omega,by omega,?_⟩
      rw [List.append_assoc,List.getElem?_append_right (by simp;omega),List.getElem?_append_left (by simp;omega)]
      congr 1
      simp
      omega
     ·left
      rw [List.getElem?_append_right (by simp;omega),List.getElem?_drop,Array.getElem?_toList]
      congr 1
      simp
      omega
  ·have holds:∀ j u,xs[j]?=some u → w.cell? ((⟨g',0,none⟩:Addr).add j)=some u:=hown.cells (g:=g') rfl
   have hr2:=run_append_grow (P:=P) w t ty e i z ht hi hz ⟨g',0,none⟩ n cap xs hown.1 holds a 1 c news hl' hnews (by omega) (by simp only [maxLen] at h63;omega) (growslice_fits (by omega) hbytes)
   rw [hr] at hr2
   injection hr2 with _ hw
   rw [hw]
   exact ⟨cur',(heap_alloc_old w.drew _ (Array.getElem?_eq_some_iff.1 hg').1).trans hg',rfl,fun j _ => .inl rfl⟩
def Mkd (W:World) (T:TypeId) (k d0:Nat) (v:Value) (m:Int):Prop :=
 ∃ n xs,W.ownsRow 0 T k v n xs ∧ ∀ i,i < n → xs[i * k + d0]?=some (.int .i64 m)
theorem Mkd.same {W W':World} {T:TypeId} {k d0:Nat} {v:Value} {m:Int} (h:Mkd W T k d0 v m) (hb:∀ g,v.ownBlock=some g → W'.heap[g]?=W.heap[g]?):Mkd W' T k d0 v m:=by
 obtain ⟨n,xs,h1,h2⟩:=h
 exact ⟨n,xs,ownsRow_of_block h1 hb,h2⟩
theorem Mkd.over {W W':World} {T:TypeId} {k d0 n g:Nat} {v:Value} {m:Int} {news:List Value} {cur cur':Array Value} (h:Mkd W T k d0 v m) (hd:d0 < k) (hv:v.ownBlock=some g) (hc:W.heap[g]?=some (.cells cur T (0,0))) (hc':W'.heap[g]?=some (.cells cur' T (0,0))) (hs:cur'.size=cur.size)
 (hj:∀ j,j < cur.size → cur'[j]?=cur[j]? ∨ ∃ d,d < k ∧ j=n * k + d ∧ cur'[j]?=news[d]?) (hn:news[d0]?=some (.int .i64 m)):Mkd W' T k d0 v m:=by
 obtain ⟨l,xs,⟨h1,h2⟩,h3⟩:=h
 rcases h2 with ⟨rfl,rfl⟩ | ⟨g',cap,cur0,rfl,hb,hg,hnc,hcm,hcs,ht⟩
 ·cases hv
 ·injection hv with hv
  change g'=g at hv
  subst hv
  rw [hc] at hg
  injection hg with hg
  injection hg with hg _ _
  subst hg
  have hle:l * k ≤ cur.size:=by rw [hcs];exact Nat.mul_le_mul_right _ hnc
  refine ⟨l,cur'.toList.take (l * k),⟨by rw [List.length_take,Array.length_toList,hs];omega,.inr ⟨g',cap,cur',rfl,hb,hc',hnc,hcm,hs.trans hcs,rfl⟩⟩,fun i hi => ?_⟩
  have hik:i * k + d0 < l * k:=by
   have:=Nat.mul_le_mul_right k (show i + 1 ≤ l by omega)
   rw [Nat.add_mul,Nat.one_mul] at this
   omega
  rw [List.getElem?_take_of_lt hik,Array.getElem?_toList]
  rcases hj (i * k + d0) (by omega) with e | ⟨d,hdk,e,e2⟩
  ·rw [e]
   have:=h3 i hi
   rw [← ht,List.getElem?_take_of_lt hik,Array.getElem?_toList] at this
   exact this
  ·obtain ⟨_,rfl⟩:=row_ix hdk hd e
   rw [e2]
   exact hn
end Go.Proofs.YtfbcdmhmpfijjaaGreatDoor
namespace Go.Proofs.YtfbcdmhmpfijjaaGreatDoor
open Go Go.RowKit
theorem St.mem_blk (s:St) (o:Ob):∀ a,o ∈ s.blk a ↔ o.at' < a ∧ s.B 0 o.at'=true ∧ o.sh=s.sh o.at'
 | 0 => by
  constructor
  ·intro h;cases h
  ·intro h;omega
 | a + 1 => by
  have ih:=s.mem_blk o a
  show o ∈ (if s.B 0 a then _ else _) ↔ _
  by_cases hb:s.B 0 a=true
  ·rw [if_pos hb,List.mem_append,ih]
   constructor
   ·rintro (⟨h1,h2,h3⟩ | h1)
    ·exact ⟨by omega,h2,h3⟩
    ·rw [List.mem_singleton.1 h1]
     exact ⟨by show a < a + 1;omega,hb,rfl⟩
   ·rintro ⟨h1,h2,h3⟩
    by_cases e:o.at'=a
    ·refine .inr (List.mem_singleton.2 ?_)
     show o=(⟨a,s.sh a⟩:Ob)
     rw [← e,← h3]
    ·exact .inl ⟨by omega,h2,h3⟩
  ·rw [if_neg hb,ih]
   constructor
   ·rintro ⟨h1,h2,h3⟩
    exact ⟨by omega,h2,h3⟩
   ·rintro ⟨h1,h2,h3⟩
    refine ⟨?_,h2,h3⟩
    by_cases e:o.at'=a
    ·rw [e] at h2;exact absurd h2 hb
    ·omega
theorem Agree.inj {s:St} {os:List Ob} (h:Agree s os) {o p:Ob} (ho:o ∈ os) (hp:p ∈ os) (e:o.at'=p.at'):o=p:=by
 have h1:=(h.here o ho).2
 have h2:=(h.here p hp).2
 obtain ⟨x,y⟩:=o
 obtain ⟨x',y'⟩:=p
 cases e
 dsimp only at h1 h2
 rw [h1] at h2
 cases h2
 rfl
end Go.Proofs.YtfbcdmhmpfijjaaGreatDoor
namespace Go.Proofs.YtfbcdmhmpfijjaaGreatDoor
open Go Go.RowKit
theorem obs_at {w:World} {base n cp:Nat} {ao:Option Addr} {bs:List Ob} (h:w.ownsRow base 95 5 (.slice ao n cp) n (obCells bs)) (hn:n=bs.length) (h0:0 < n) :
 ∃ g,ao=some ⟨g,0,none⟩ ∧ base ≤ g ∧ g < w.heap.size ∧ ∀ j c,j < n → c < 5 → w.cell? ⟨g,j * 5 + c,none⟩=(bs.getD j ob0).cells[c]?:=by
 rcases h.2 with ⟨_,h1⟩ | ⟨g,cap',cur,hv,hb,hg,hnc,hcm,hs,ht⟩
 ·omega
 ·injection hv with e1 e2 e3
  refine ⟨g,e1,hb,(Array.getElem?_eq_some_iff.1 hg).1,fun j c hj hc => ?_⟩
  have hcc:c=0 ∨ c=1 ∨ c=2 ∨ c=3 ∨ c=4:=by omega
  have hob:=obCells_at bs j c (by omega) hc
  have hx:∃ u,(bs.getD j ob0).cells[c]?=some u:=by rcases hcc with rfl | rfl | rfl | rfl | rfl <;> exact ⟨_,rfl⟩
  obtain ⟨u,hu⟩:=hx
  have hcl:=h.cells (g:=g) (by rw [e1];rfl) (j * 5 + c) u (by rw [hob];exact hu)
  rw [add_at] at hcl
  rw [hcl,hu]
end Go.Proofs.YtfbcdmhmpfijjaaGreatDoor
namespace Go.Proofs.YtfbcdmhmpfijjaaGreatDoor
open Go Go.RowKit
def updF {α:Type} (f:Nat → α) (c:Nat) (y:α):Nat → α:=fun j => if j=c then y else f j
end Go.Proofs.YtfbcdmhmpfijjaaGreatDoor
namespace Go.Proofs.YtfbcdmhmpfijjaaGreatDoor
open Go Go.RowKit
theorem IsRowI.below {w w':World} {B:Nat} {a:Option Addr} {len cap:Nat} {zs:Nat → Int} (h:IsRowI w a len cap zs) (hb:Below B w w') (hl:∀ x,a=some x → 0 < len → x.block < B):IsRowI w' a len cap zs :=
 ⟨h.1,fun i hi => by
  obtain ⟨x,h1,h2,h3⟩:=h.2 i hi
  refine ⟨x,h1,?_,h3⟩
  rw [← h2]
  exact World.cell?_of_block (w:=w) (hb.block _ (by rw [add_block];exact hl x h1 (by omega)))⟩
theorem cells_set {W:World} {b:Nat} {cs:Array Value} {T:TypeId} {fr:Nat × Nat} (h:W.heap[b]?=some (.cells cs T fr)) (p:Nat) (v:Value):(W.setCell ⟨b,p,none⟩ v).heap[b]?=some (.cells (cs.setIfInBounds p v) T fr):=by
 simp only [World.setCell,Array.getElem?_modify,h,if_pos,Option.map_some,Option.isSome_none,Bool.false_eq_true,if_false]
end Go.Proofs.YtfbcdmhmpfijjaaGreatDoor
namespace Go.Proofs.YtfbcdmhmpfijjaaGreatDoor
open Go Go.RowKit
def RowAt (w:World) (v:Value) (n W:Nat) (f:Nat → Nat → Int):Prop :=
 ∃ a c,v=.slice a n c ∧ ∀ i,i < n → ∃ g,a=some ⟨g,0,none⟩ ∧ g < w.heap.size ∧ ∀ d,d < W → w.cell? ⟨g,i * W + d,none⟩=some (.int .i64 (f i d))
theorem row_at {w:World} {base:Nat} {e:TypeId} {n W:Nat} {v:Value} {xs:List Value} (h:w.ownsRow base e W v n xs) {f:Nat → Nat → Int} (hx:∀ i,i < n → ∀ d,d < W → xs[i * W + d]?=some (.int .i64 (f i d))):RowAt w v n W f:=by
 rcases h.2 with ⟨h1,h2⟩ | ⟨g,cap',cur,hv,hb,hg,hnc,hcm,hs,ht⟩
 ·exact ⟨_,_,by rw [h1,h2],fun i hi => by omega⟩
 ·refine ⟨_,_,hv,fun i hi => ⟨g,rfl,(Array.getElem?_eq_some_iff.1 hg).1,fun d hd => ?_⟩⟩
  have:=h.cells (g:=g) (by rw [hv];rfl) (i * W + d) _ (hx i hi d hd)
  rwa [add_at] at this
theorem RowAt.still {w w':World} {v:Value} {n W:Nat} {f:Nat → Nat → Int} (h:RowAt w v n W f) (hs:Still w w'):RowAt w' v n W f:=by
 obtain ⟨a,c,h1,h2⟩:=h
 refine ⟨a,c,h1,fun i hi => ?_⟩
 obtain ⟨g,e1,e2,e3⟩:=h2 i hi
 exact ⟨g,e1,Nat.lt_of_lt_of_le e2 hs.size,fun d hd => (hs.cell (p:=⟨g,i * W + d,none⟩) e2 (.inl e2)).trans (e3 d hd)⟩
set_option maxHeartbeats 1600000 in
theorem sameInts_eq (w:World) (v1 v2:Value) (n:Nat) (f:Nat → Nat → Int) (h1:RowAt w v1 n 1 f) (h2:RowAt w v2 n 1 f) (hn:n ≤ 1000000) :
 Calls Tryz.prog 84 #[v1,v2] w fun e w' => e=.returned (.bool true) ∧ Still w w':=by
 have H1:=Lib.hid h1
 have H2:=Lib.hid h2
 obtain ⟨a1,c1,rfl,_⟩:=h1
 obtain ⟨a2,c2,rfl,_⟩:=h2
 have hnI:(n:Int) ≤ 1000000:=by omega
 go_enter Tryz.func84,Tryz.ntmps84
 go_wp2_with fail
 go_loopw [5] (fun y W => ∃ i:Nat,y=.int .i64 (i:Int) ∧ i ≤ n ∧ Still w W) (fun y _ => n + 1 - (intOf y).toNat)
 case atStart => exact ⟨0,rfl,Nat.zero_le _,Only.refl _ _ _⟩
 case round =>
  obtain ⟨i,rfl,hi,hst⟩:=hrel
  have HST:=Lib.hid hst
  have hi0:(0:Int) ≤ (i:Int):=by omega
  by_cases hin:i < n
  ·have hiI:(i:Int) < (n:Int):=by omega
   obtain ⟨b1,d1,e1,k1⟩:=H1.out.still hst
   obtain ⟨b2,d2,e2,k2⟩:=H2.out.still hst
   injection e1 with e1 _ q1
   injection e2 with e2 _ q2
   subst e1
   subst e2
   subst q1
   subst q2
   obtain ⟨g1,rfl,l1,x1⟩:=k1 i hin
   obtain ⟨g2,rfl,l2,x2⟩:=k2 i hin
   have x10:wr.cell? ⟨g1,i,none⟩=some (.int .i64 (f i 0)):=by have:=x1 0 (by omega);rwa [Nat.mul_one,Nat.add_zero] at this
   have x20:wr.cell? ⟨g2,i,none⟩=some (.int .i64 (f i 0)):=by have:=x2 0 (by omega);rwa [Nat.mul_one,Nat.add_zero] at this
   generalize f i 0=y at *
   clear k1 k2 x1 x2 hst
   go_wp2_with fail
   go_quiet (fail)
   go_wp2_with fail
   exact ⟨⟨i + 1,by go_num,hin,HST.out.drewN _⟩,by simp [intOf];omega⟩
  ·obtain rfl:i=n:=by omega
   go_wp2_with fail
   go_ret
   exact ⟨rfl,HST.out⟩
set_option maxHeartbeats 1600000 in
theorem samePages_eq (w:World) (v1 v2:Value) (n:Nat) (f:Nat → Nat → Int) (h1:RowAt w v1 n 3 f) (h2:RowAt w v2 n 3 f) (hn:n ≤ 1000000) :
 Calls Tryz.prog 85 #[v1,v2] w fun e w' => e=.returned (.bool true) ∧ Still w w':=by
 have H1:=Lib.hid h1
 have H2:=Lib.hid h2
 obtain ⟨a1,c1,rfl,_⟩:=h1
 obtain ⟨a2,c2,rfl,_⟩:=h2
 have hnI:(n:Int) ≤ 1000000:=by omega
 go_enter Tryz.func85,Tryz.ntmps85
 go_wp2_with fail
 go_loopw [5] (fun y W => ∃ i:Nat,y=.int .i64 (i:Int) ∧ i ≤ n ∧ Still w W) (fun y _ => n + 1 - (intOf y).toNat)
 case atStart => exact ⟨0,rfl,Nat.zero_le _,Only.refl _ _ _⟩
 case round =>
  obtain ⟨i,rfl,hi,hst⟩:=hrel
  have HST:=Lib.hid hst
  have hi0:(0:Int) ≤ (i:Int):=by omega
  by_cases hin:i < n
  ·have hiI:(i:Int) < (n:Int):=by omega
   obtain ⟨b1,d1,e1,k1⟩:=H1.out.still hst
   obtain ⟨b2,d2,e2,k2⟩:=H2.out.still hst
   injection e1 with e1 _ q1
   injection e2 with e2 _ q2
   subst e1
   subst e2
   subst q1
   subst q2
   obtain ⟨g1,rfl,l1,x1⟩:=k1 i hin
   obtain ⟨g2,rfl,l2,x2⟩:=k2 i hin
   have x10:wr.cell? ⟨g1,i * 3,none⟩=_:=x1 0 (by omega)
   have x11:=x1 1 (by omega)
   have x12:=x1 2 (by omega)
   have x20:wr.cell? ⟨g2,i * 3,none⟩=_:=x2 0 (by omega)
   have x21:=x2 1 (by omega)
   have x22:=x2 2 (by omega)
   generalize f i 0=y0 at *
   generalize f i 1=y1 at *
   generalize f i 2=y2 at *
   clear k1 k2 x1 x2 hst
   go_wp2_with fail
   go_quiet (fail)
   go_wp2_with fail
   exact ⟨⟨i + 1,by go_num,hin,HST.out.drewN _⟩,by simp [intOf];omega⟩
  ·obtain rfl:i=n:=by omega
   go_wp2_with fail
   go_ret
   exact ⟨rfl,HST.out⟩
set_option maxHeartbeats 1600000 in
theorem sameBlocks_eq (w:World) (v1 v2:Value) (n:Nat) (f:Nat → Nat → Int) (h1:RowAt w v1 n 5 f) (h2:RowAt w v2 n 5 f) (hn:n ≤ 1000000) :
 Calls Tryz.prog 72 #[v1,v2] w fun e w' => e=.returned (.bool true) ∧ Still w w':=by
 have H1:=Lib.hid h1
 have H2:=Lib.hid h2
 obtain ⟨a1,c1,rfl,_⟩:=h1
 obtain ⟨a2,c2,rfl,_⟩:=h2
 have hnI:(n:Int) ≤ 1000000:=by omega
 go_enter Tryz.func72,Tryz.ntmps72
 go_wp2_with fail
 go_loopw [5] (fun y W => ∃ i:Nat,y=.int .i64 (i:Int) ∧ i ≤ n ∧ Still w W) (fun y _ => n + 1 - (intOf y).toNat)
 case atStart => exact ⟨0,rfl,Nat.zero_le _,Only.refl _ _ _⟩
 case round =>
  obtain ⟨i,rfl,hi,hst⟩:=hrel
  have HST:=Lib.hid hst
  have hi0:(0:Int) ≤ (i:Int):=by omega
  by_cases hin:i < n
  ·have hiI:(i:Int) < (n:Int):=by omega
   obtain ⟨b1,d1,e1,k1⟩:=H1.out.still hst
   obtain ⟨b2,d2,e2,k2⟩:=H2.out.still hst
   injection e1 with e1 _ q1
   injection e2 with e2 _ q2
   subst e1
   subst e2
   subst q1
   subst q2
   obtain ⟨g1,rfl,l1,x1⟩:=k1 i hin
   obtain ⟨g2,rfl,l2,x2⟩:=k2 i hin
   have x10:wr.cell? ⟨g1,i * 5,none⟩=_:=x1 0 (by omega)
   have x11:=x1 1 (by omega)
   have x12:=x1 2 (by omega)
   have x13:=x1 3 (by omega)
   have x14:=x1 4 (by omega)
   have x20:wr.cell? ⟨g2,i * 5,none⟩=_:=x2 0 (by omega)
   have x21:=x2 1 (by omega)
   have x22:=x2 2 (by omega)
   have x23:=x2 3 (by omega)
   have x24:=x2 4 (by omega)
   generalize f i 0=y0 at *
   generalize f i 1=y1 at *
   generalize f i 2=y2 at *
   generalize f i 3=y3 at *
   generalize f i 4=y4 at *
   clear k1 k2 x1 x2 hst
   go_wp2_with fail
   go_quiet (fail)
   go_wp2_with fail
   exact ⟨⟨i + 1,by go_num,hin,HST.out.drewN _⟩,by simp [intOf];omega⟩
  ·obtain rfl:i=n:=by omega
   go_wp2_with fail
   go_ret
   exact ⟨rfl,HST.out⟩
end Go.Proofs.YtfbcdmhmpfijjaaGreatDoor
namespace Go.Proofs.YtfbcdmhmpfijjaaGreatDoor
open Go Go.RowKit
structure Kf (w0:World) (bl:Nat → Prop) (W:World):Prop where
 os:W.os=w0.os
 tape:W.tape=w0.tape
 output:W.output=w0.output
 size:w0.heap.size ≤ W.heap.size
 block:∀ g,g < w0.heap.size → ¬bl g → W.heap[g]?=w0.heap[g]?
theorem Kf.refl (w:World) (bl:Nat → Prop):Kf w bl w:=⟨rfl,rfl,rfl,Nat.le_refl _,fun _ _ _ => rfl⟩
theorem Kf.trans {a b c:World} {p q:Nat → Prop} (h:Kf a p b) (k:Kf b q c) (hpq:∀ g,g < a.heap.size → q g → p g):Kf a p c :=
 ⟨k.os.trans h.os,k.tape.trans h.tape,k.output.trans h.output,Nat.le_trans h.size k.size,fun g hg hn => (k.block g (Nat.lt_of_lt_of_le hg h.size) (fun hq => hn (hpq g hg hq))).trans (h.block g hg hn)⟩
theorem Kf.still {a b c:World} {p:Nat → Prop} (h:Kf a p b) (k:Still b c):Kf a p c :=
 ⟨k.os.trans h.os,k.tape.trans h.tape,k.output.trans h.output,Nat.le_trans h.size k.size,fun g hg hn => (k.block g (Nat.lt_of_lt_of_le hg h.size) (.inl (Nat.lt_of_lt_of_le hg h.size))).trans (h.block g hg hn)⟩
theorem Kf.mono {a b:World} {p q:Nat → Prop} (h:Kf a p b) (hpq:∀ g,g < a.heap.size → p g → q g):Kf a q b :=
 ⟨h.os,h.tape,h.output,h.size,fun g hg hn => h.block g hg fun hp => hn (hpq g hg hp)⟩
abbrev Lb:Type:=Nat × Nat × Int
abbrev Lno:Lb:=(0,0,0)
abbrev Lpb:Lb:=(1,0,0)
abbrev Lhd (j:Nat):Lb:=(2,j,0)
abbrev Lq (k i:Nat):Lb:=(3,k,(i:Int))
abbrev Lw (k i:Nat):Lb:=(4,k,(i:Int))
abbrev Lf (k:Nat) (m:Int):Lb:=(5,k,m)
def eT:Nat → TypeId
 | 0 => 3 | 1 => 146 | _ => 95
def ek:Nat → Nat
 | 0 => 1 | 1 => 3 | _ => 5
def ed:Nat → Nat
 | 0 => 0 | 1 => 0 | _ => 1
theorem ed_lt (k:Nat):ed k < ek k:=by
 rcases k with _ | _ | k
 ·decide
 ·decide
 ·show 1 < 5;decide
def hT:Nat → TypeId
 | 0 => 27 | 1 => 27 | 6 => 27
 | 2 => 70 | 3 => 70 | 7 => 70
 | 4 => 62 | 5 => 62 | 8 => 62
 | _ => 3
def relab (own:Nat → Lb) (v:Value) (L:Lb):Nat → Lb:=fun g => if v.ownBlock=some g then L else own g
structure KHead (W:World) (pb:Nat) (h0 h1:Value) (own:Nat → Lb) (v:Nat → Value) (ls:Nat → List Value):Prop where
 head:W.heap[pb]?=some (.cells #[h0,h1,v 0,v 1,v 2,v 3,v 4,v 5,v 6,v 7,v 8,v 9,v 10,v 11] 48 (0,0))
 opb:own pb=Lpb
 rows:∀ j,j < 12 → W.ownsRow 0 (hT j) 1 (v j) (ls j).length (ls j)
 orow:∀ j,j < 12 → ∀ g,(v j).ownBlock=some g → own g=Lhd j
 olt:∀ g,own g ≠ Lno → g < W.heap.size
section
variable {W:World} {pb:Nat} {h0 h1:Value} {own:Nat → Lb} {v:Nat → Value} {ls:Nat → List Value} (h:KHead W pb h0 h1 own v ls)
include h
theorem KHead.lt:pb < W.heap.size:=(Array.getElem?_eq_some_iff.1 h.head).1
theorem KHead.cell (j:Nat) (hj:j < 12):W.cell? ⟨pb,2 + j,none⟩=some (v j):=by
 have e:j=0 ∨ j=1 ∨ j=2 ∨ j=3 ∨ j=4 ∨ j=5 ∨ j=6 ∨ j=7 ∨ j=8 ∨ j=9 ∨ j=10 ∨ j=11:=by omega
 rcases e with rfl | rfl | rfl | rfl | rfl | rfl | rfl | rfl | rfl | rfl | rfl | rfl <;> simp [World.cell?,h.head]
theorem KHead.same {W':World} (hb:∀ g,(own g).1=1 ∨ (own g).1=2 → W'.heap[g]?=W.heap[g]?) (hs:W.heap.size ≤ W'.heap.size):KHead W' pb h0 h1 own v ls :=
 ⟨(hb pb (.inl (by rw [h.opb]))).trans h.head,h.opb,fun j hj => ownsRow_of_block (h.rows j hj) fun g hg => hb g (.inr (by rw [h.orow j hj g hg])),h.orow,fun g hg => Nat.lt_of_lt_of_le (h.olt g hg) hs⟩
theorem KHead.still {W':World} (hs:Still W W'):KHead W' pb h0 h1 own v ls :=
 h.same (fun g hg => by
  have hl:=h.olt g (by
   intro e
   rw [e] at hg
   rcases hg with hg | hg <;> cases hg)
  exact hs.block g hl (.inl hl)) hs.size
theorem KHead.lab {l:Value} {L:Lb} (hl:∀ g,l.ownBlock=some g → own g=Lno ∧ g < W.heap.size):KHead W pb h0 h1 (relab own l L) v ls:=by
 have hne:∀ g,own g ≠ Lno → l.ownBlock ≠ some g:=fun g hg e => hg (hl g e).1
 refine ⟨h.head,?_,h.rows,fun j hj g hg => ?_,fun g hg => ?_⟩
 ·unfold relab
  rw [if_neg (hne pb (by rw [h.opb];intro e;cases e))]
  exact h.opb
 ·have:=h.orow j hj g hg
  unfold relab
  rw [if_neg (hne g (by rw [this];intro e;cases e))]
  exact this
 ·unfold relab at hg
  by_cases e:l.ownBlock=some g
  ·exact (hl g e).2
  ·rw [if_neg e] at hg
   exact h.olt g hg
end
theorem own_relab {own:Nat → Lb} {v:Value} {L:Lb} {g:Nat} (h:v.ownBlock ≠ some g):relab own v L g=own g:=by unfold relab;rw [if_neg h]
theorem own_relab_at {own:Nat → Lb} {v:Value} {L:Lb} {g:Nat} (h:v.ownBlock=some g):relab own v L g=L:=by unfold relab;rw [if_pos h]
theorem KHead.push {W:World} {pb:Nat} {h0 h1:Value} {own:Nat → Lb} {v:Nat → Value} {ls:Nat → List Value} (h:KHead W pb h0 h1 own v ls) {j:Nat} (hj:j < 12)
 {u v':Value} {W1:World} (hrow:W1.ownsRow 0 (hT j) 1 v' ((ls j).length + 1) (ls j ++ [u])) (hk:Kf W (fun g => (v j).ownBlock=some g) W1) (hv:∀ g,v'.ownBlock=some g → ((v j).ownBlock=some g ∨ W.heap.size ≤ g) ∧ g < W1.heap.size) :
 KHead (W1.setCell ⟨pb,2 + j,none⟩ v') pb h0 h1 (relab own v' (Lhd j)) (updF v j v') (updF ls j (ls j ++ [u])) ∧ Kf W (fun g => own g=Lhd j ∨ g=pb) (W1.setCell ⟨pb,2 + j,none⟩ v') ∧ ∀ g,g < W.heap.size → relab own v' (Lhd j) g=own g:=by
 have hpb:(v j).ownBlock ≠ some pb:=fun e => by have:=h.orow j hj pb e;rw [h.opb] at this;cases this
 have hpl:=h.lt
 have hp1:W1.heap[pb]?=_:=(hk.block pb hpl hpb).trans h.head
 have hlab:∀ g,g < W.heap.size → relab own v' (Lhd j) g=own g:=fun g hg => by
  by_cases e:v'.ownBlock=some g
  ·rw [own_relab_at e]
   rcases (hv g e).1 with h2 | h2
   ·exact (h.orow j hj g h2).symm
   ·omega
  ·exact own_relab e
 have hv':v'.ownBlock ≠ some pb:=fun e => by
  rcases (hv pb e).1 with h2 | h2
  ·exact hpb h2
  ·omega
 have hset:∀ g,g ≠ pb → (W1.setCell ⟨pb,2 + j,none⟩ v').heap[g]?=W1.heap[g]?:=fun g hg => Below.heap_setCell _ _ _ _ (by exact hg)
 have hsz:(W1.setCell ⟨pb,2 + j,none⟩ v').heap.size=W1.heap.size:=by simp [World.setCell]
 refine ⟨⟨?_,?_,fun i hi => ?_,fun i hi g hg => ?_,fun g hg => ?_⟩,⟨hk.os,hk.tape,hk.output,by rw [hsz];exact hk.size,fun g hg hn => ?_⟩,hlab⟩
 ·have e:j=0 ∨ j=1 ∨ j=2 ∨ j=3 ∨ j=4 ∨ j=5 ∨ j=6 ∨ j=7 ∨ j=8 ∨ j=9 ∨ j=10 ∨ j=11:=by omega
  simp only [World.setCell,Array.getElem?_modify,hp1]
  rcases e with rfl | rfl | rfl | rfl | rfl | rfl | rfl | rfl | rfl | rfl | rfl | rfl <;> simp [updF]
 ·rw [hlab pb hpl];exact h.opb
 ·by_cases e:i=j
  ·subst e
   unfold updF
   rw [if_pos rfl,if_pos rfl,List.length_append]
   exact ownsRow_of_block hrow fun g hg => hset g fun e => hv' (by rw [← e];exact hg)
  ·unfold updF
   rw [if_neg e,if_neg e]
   refine ownsRow_of_block (h.rows i hi) fun g hg => ?_
   have ho:=h.orow i hi g hg
   have hgl:=((h.rows i hi).lt g hg).2
   rw [hset g (fun e2 => by rw [e2,h.opb] at ho;cases ho)]
   refine hk.block g hgl fun e2 => ?_
   have h2:=h.orow j hj g e2
   rw [ho] at h2
   injection h2 with _ h2
   injection h2 with h2 _
   exact e h2
 ·by_cases e:i=j
  ·subst e
   unfold updF at hg
   rw [if_pos rfl] at hg
   exact own_relab_at hg
  ·unfold updF at hg
   rw [if_neg e] at hg
   rw [hlab g ((h.rows i hi).lt g hg).2]
   exact h.orow i hi g hg
 ·rw [hsz]
  by_cases e:v'.ownBlock=some g
  ·exact (hv g e).2
  ·rw [own_relab e] at hg
   exact Nat.lt_of_lt_of_le (h.olt g hg) hk.size
 ·rw [hset g fun e => hn (.inr e)]
  exact hk.block g hg fun e => hn (.inl (h.orow j hj g e))
theorem Tryz.infoLI:(Tryz.prog.info? 27).map (fun i => (i.zero,i.size,i.bytes))=some (some (.slice none 0 0),1,24):=by kernel_rfl
theorem Tryz.infoLP:(Tryz.prog.info? 70).map (fun i => (i.zero,i.size,i.bytes))=some (some (.slice none 0 0),1,24):=by kernel_rfl
theorem Tryz.infoLB:(Tryz.prog.info? 62).map (fun i => (i.zero,i.size,i.bytes))=some (some (.slice none 0 0),1,24):=by kernel_rfl
theorem push_run {t T:TypeId} {z:Value} {bytes:Nat} (ht:Tryz.prog.underlying t=some (.slice T)) (hinf:(Tryz.prog.info? T).map (fun i => (i.zero,i.size,i.bytes))=some (some z,1,bytes)) (hzs:z.cells.size=1) (hby:bytes ≤ 24)
 {W:World} {pb:Nat} {h0 h1:Value} {own:Nat → Lb} {v:Nat → Value} {ls:Nat → List Value} (h:KHead W pb h0 h1 own v ls) {j:Nat} (hj:j < 12) (hjT:hT j=T) (hl:(ls j).length ≤ 1000000) (u:Value) (hu:u.oneCell'=true) :
 ∃ v' W1,(Builtin.append_ #[t,t] t #[v j,.slice (some ⟨W.heap.size,0,none⟩) 1 1]).run Tryz.prog (W.alloc (.cells #[u] T))=.ok v' W1 ∧ (W1.heap[pb]?=W.heap[pb]? ∧ pb < W1.heap.size) ∧
  KHead (W1.setCell ⟨pb,2 + j,none⟩ v') pb h0 h1 (relab own v' (Lhd j)) (updF v j v') (updF ls j (ls j ++ [u])) ∧ Kf W (fun g => own g=Lhd j ∨ g=pb) (W1.setCell ⟨pb,2 + j,none⟩ v') ∧ ∀ g,g < W.heap.size → relab own v' (Lhd j) g=own g:=by
 obtain ⟨i0,hi,hz0,hz1,hz2⟩:=info_parts hinf
 subst hjT
 have hown:=h.rows j hj
 have hs1:Still W (W.alloc (.cells #[u] (hT j))):=(Only.refl _ _ W).alloc _
 obtain ⟨v',W1,hr,hrow,hgr,hb,_⟩:=append_over (P:=Tryz.prog) (W.alloc (.cells #[u] (hT j))) 0 t t (hT j) i0 z 1 bytes ht hi hz0 hz1 hz2 hzs (by decide) (v j) (ls j).length (ls j) (hown.alloc _) ⟨W.heap.size,0,none⟩ 1 [u] rfl (fun i x hx => by
  rw [add_at]
  rcases i with _ | i
  ·simp only [World.cell?,heap_alloc_new]
   exact hx
  ·cases hx) (fun x hx => by rw [List.mem_singleton.1 hx];exact hu) (by unfold maxLen;omega) (by
   have:((ls j).length + 1) * bytes ≤ 1000001 * 24:=Nat.mul_le_mul (by omega) hby
   omega) (Nat.zero_le _)
 have hsz:W.heap.size < W1.heap.size:=by have:=hgr.size;rw [World.size_alloc] at this;omega
 have hk:Kf W (fun g => (v j).ownBlock=some g) W1:=⟨hgr.os,hgr.tape,hgr.output,Nat.le_of_lt hsz,fun g hg hn => (hgr.block g (by rw [World.size_alloc];omega) (fun e => hn e.symm)).trans (Below.heap_alloc _ _ _ hg)⟩
 have hv:∀ g,v'.ownBlock=some g → ((v j).ownBlock=some g ∨ W.heap.size ≤ g) ∧ g < W1.heap.size:=fun g hg => by
  refine ⟨?_,(hrow.lt g hg).2⟩
  rcases hb with e | e
  ·rw [e] at hg;exact .inl hg
  ·rw [e] at hg
   injection hg with hg
   rw [World.size_alloc] at hg
   exact .inr (by omega)
 have hpb:(v j).ownBlock ≠ some pb:=fun e => by have:=h.orow j hj pb e;rw [h.opb] at this;cases this
 exact ⟨v',W1,hr,⟨hk.block pb h.lt hpb,Nat.lt_trans h.lt hsz⟩,h.push hj hrow hk hv⟩
end Go.Proofs.YtfbcdmhmpfijjaaGreatDoor
