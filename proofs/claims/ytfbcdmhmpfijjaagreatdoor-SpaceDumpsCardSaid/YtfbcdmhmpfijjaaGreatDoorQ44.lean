/-
  The walk of keeps.
-/
import Derived.Laws.Rows
import Derived.Test.YtfbcdmhmpfijjaaGreatDoorQ43
import Derived.Lib.AppendZeros
import Derived.Lib.AppendZerosOnto
import Derived.BigQuiet
set_option linter.unusedVariables false
set_option linter.unusedSimpArgs false
set_option linter.unusedSectionVars false
namespace Go.Proofs.YtfbcdmhmpfijjaaGreatDoor
open Go Go.RowKit
theorem zeroCells_ints (n:Nat):Builtin.zeroCells (Value.int .i64 0).cells n=(List.replicate n (Value.int .i64 0)).toArray:=by
 unfold Builtin.zeroCells
 apply Array.ext_getElem?
 intro j
 have hs:(Value.int .i64 0).cells=#[Value.int .i64 0]:=rfl
 rw [hs]
 by_cases hj:j < n
 ·simp [hj,Nat.mod_one]
 ·simp [hj]
theorem run_append_room_zeros {P:Program} (w:World) (t tn ty e:TypeId) (i:TypeInfo) (kq kn:IntKind) (ht:P.underlying t=some (.slice e)) (htn:P.underlying tn=some (.int kn)) (hi:P.info? e=some i) (hz:i.zero=some (.int .i64 0)) (h1:i.size=1) (h8:i.bytes=8)
 (g sLen sCap:Nat) (cur:Array Value) (hg:w.heap[g]?=some (.cells cur e (0,0))) (k:Nat) (h0:0 < k) (hk:k ≤ 1000) (hroom:sLen + k ≤ sCap) (hfit:sLen + k ≤ cur.size) :
 (Builtin.append_ #[t,tn] ty #[.slice (some ⟨g,0,none⟩) sLen sCap,.int kq k]).run P w =
   .ok (.slice (some ⟨g,0,none⟩) (sLen + k) sCap) (w.setRow g (cur.toList.take sLen ++ List.replicate k (Value.int .i64 0) ++ cur.toList.drop (sLen + k)).toArray):=by
 have hone:∀ u ∈ List.replicate k (Value.int .i64 0),u.oneCell'=true:=fun u hu => by rw [(List.mem_replicate.1 hu).2];rfl
 have hst:=run_storeCells_at P g sLen e (List.replicate k (Value.int .i64 0)) 0 cur w hg (by simpa using hfit) hone
 simp only [Nat.add_zero,List.length_replicate] at hst
 have hw:IntKind.i64.wrap (k:Int)=k:=by rw [IntKind.wrap_i64];omega
 have hneg:¬ ((k:Int) < 0):=by omega
 have h48i:¬ (281474976710656 < (k:Int) * 8):=by omega
 have hk0:k ≠ 0:=by omega
 have hzc:=zeroCells_ints k
 simp [Builtin.append_,run_underlying ht,run_underlying htn,sizeOf,typeInfo,zeroValue,hi,hz,h1,h8,asInt,asIntOf,hw,hneg,h48i,hk0,hroom,Addr.add_lit,hzc,hst]
theorem append_zeros_own (w:World) (ty:TypeId) (base:Nat) (v:Value) (n k:Nat) (xs:List Value) (hown:w.ownsRow base 3 1 v n xs) (hn:n ≤ 1000000) (h0:0 < k) (hk:k ≤ 1000) (hb:base ≤ w.heap.size) :
 ∃ v' w',(Builtin.append_ #[27,3] ty #[v,.int .i64 k]).run Tryz.prog w=.ok v' w' ∧ w'.ownsRow base 3 1 v' (n + k) (xs ++ List.replicate k (Value.int .i64 0)) ∧ w.grownBy w' v.ownBlock:=by
 obtain ⟨i,hi,hz0,hz1,hz2⟩:=info_parts Tryz.infoI5
 have ht:=Tryz.underlying27
 have htn:=Tryz.underlying3
 have hx:=hown.1
 have hlen:(xs ++ List.replicate k (Value.int .i64 0)).length=(n + k) * 1:=by rw [List.length_append,hown.1,List.length_replicate];omega
 have hmx:n + k ≤ maxLen:=by unfold maxLen;omega
 have grown:∀ (old:Nat),old < n + k → ∀ (row:Option Nat),
  (w.drew.alloc (.cells (xs.toArray ++ Builtin.zeroCells (Value.int .i64 0).cells k ++ Builtin.zeroCells (Value.int .i64 0).cells (grownCap w (n + k) old 3 - (n + k))) 3)).ownsRow base 3 1
    (.slice (some ⟨w.heap.size,0,none⟩) (n + k) (grownCap w (n + k) old 3)) (n + k) (xs ++ List.replicate k (Value.int .i64 0)) ∧
  w.grownBy (w.drew.alloc (.cells (xs.toArray ++ Builtin.zeroCells (Value.int .i64 0).cells k ++ Builtin.zeroCells (Value.int .i64 0).cells (grownCap w (n + k) old 3 - (n + k))) 3)) row:=by
  intro old ho row
  have hge:=grownCap_ge w (n + k) old 3
  have hcm:grownCap w (n + k) old 3 ≤ maxLen:=grownCap_le_maxLen w (n + k) old 3 hmx
  refine ⟨⟨hlen,.inr ⟨w.heap.size,_,_,rfl,hb,heap_alloc_new w.drew _,hge,hcm,?_,?_⟩⟩,⟨rfl,rfl,rfl,by simp,fun j hj _ => Below.heap_alloc w.drew _ j hj⟩⟩
  ·rw [zeroCells_ints,zeroCells_ints]
   simp only [Array.size_append,List.size_toArray,List.length_replicate,hx]
   omega
  ·rw [zeroCells_ints,zeroCells_ints]
   simp only [Array.toList_append,List.append_assoc]
   rw [← List.append_assoc,← hlen]
   exact List.take_left
 rcases hown.2 with ⟨rfl,rfl⟩ | ⟨g,cap,cur,rfl,hbg,hg,hnc,hcm,hcs,htake⟩
 ·have hx0:xs=[]:=List.eq_nil_of_length_eq_zero (by simpa using hx)
  subst hx0
  have hr:=Lib.run_append_nil_zeros (P:=Tryz.prog) w 27 3 ty 3 i (.int .i64 0) .i64 .i64 ht htn hi hz0 k h0 (by rw [hz1];omega) (by omega) (by rw [hz2];omega)
  have hgr:=grown 0 (by omega) (Value.ownBlock (.slice none 0 0))
  simp only [Nat.zero_add,List.nil_append,Array.empty_append] at hgr ⊢
  exact ⟨_,_,hr,hgr.1,hgr.2⟩
 ·by_cases hroom:n + k ≤ cap
  ·have hr:=run_append_room_zeros (P:=Tryz.prog) w 27 3 ty 3 i .i64 .i64 ht htn hi hz0 hz1 hz2 g n cap cur hg k h0 hk hroom (by omega)
   refine ⟨_,_,hr,⟨hlen,.inr ⟨g,cap,_,rfl,hbg,setRow_heap w g cur _ 3 _ hg,hroom,hcm,?_,?_⟩⟩,⟨rfl,rfl,rfl,by simp,fun j _ hj => setRow_other w g j _ (fun e => hj (by simp [Value.ownBlock,e]))⟩⟩
   ·simp only [List.size_toArray,List.length_append,List.length_take,List.length_drop,Array.length_toList,List.length_replicate]
    omega
   ·rw [Nat.mul_one] at htake
    rw [htake,← hlen]
    exact List.take_left
  ·have holds:∀ j u,xs[j]?=some u → w.cell? ((⟨g,0,none⟩:Addr).add j)=some u:=hown.cells (g:=g) rfl
   have hf:=run_firstCells_some (P:=Tryz.prog) w.drew i.size n ⟨g,0,none⟩ n cap xs (by rw [hz1];exact hx) (by simpa using holds)
   have hr:=Lib.run_append_grow_zeros (P:=Tryz.prog) w 27 3 ty 3 i (.int .i64 0) .i64 .i64 ht htn hi hz0 (some ⟨g,0,none⟩) n cap xs hf k h0 (by rw [hz1];omega) (by omega) (by omega) (by rw [hz2];omega) (by rw [hz2];exact growslice_fits (by omega) (by omega))
   have hgr:=grown cap (by omega) (Value.ownBlock (.slice (some ⟨g,0,none⟩) n cap))
   exact ⟨_,_,hr,hgr.1,hgr.2⟩
end Go.Proofs.YtfbcdmhmpfijjaaGreatDoor
namespace Go.Proofs.YtfbcdmhmpfijjaaGreatDoor
open Go Go.RowKit
theorem append_list (w:World) (ty:TypeId) (v:Value) (zs:List Int) (hz:IntsIn w v zs) (hl:zs.length ≤ 1000000) :
 ∃ v' w',(Builtin.append_ #[27,27] ty #[.slice none 0 0,v]).run Tryz.prog w=.ok v' w' ∧ w'.ownsRow w.heap.size 3 1 v' zs.length (zs.map (Value.int .i64)) ∧ Still w w':=by
 obtain ⟨i,hi,hz0,hz1,hz2⟩:=info_parts Tryz.infoI5
 have ht:=Tryz.underlying27
 obtain ⟨_,ao,cap,rfl,hc⟩:=hz
 by_cases h0:zs.length=0
 ·have hz0:zs=[]:=List.length_eq_zero_iff.1 h0
  subst hz0
  refine ⟨.slice none 0 0,w,?_,World.ownsRow_nil w _ _ _,Only.refl _ _ _⟩
  cases ao with
  | none => simp [Builtin.append_,run_underlying ht,sizeOf,typeInfo,hi,Builtin.lenOf,Builtin.firstCells]
  | some x => simp [Builtin.append_,run_underlying ht,sizeOf,typeInfo,hi,Builtin.lenOf,Builtin.firstCells,loadCells,loadCellsFrom]
 ·obtain ⟨b,o,rfl,_⟩:=hc 0 (by omega)
  have hc:∀ j,j < zs.length → w.cell? ⟨b,o + j,none⟩=some (.int .i64 (zs.getD j 0)):=fun j hj => by
   obtain ⟨b',o',e,h⟩:=hc j hj
   simp only [Option.some.injEq,Addr.mk.injEq,and_true] at e
   rw [e.1,e.2]
   exact h
  have hnews:∀ j u,(zs.map (Value.int .i64))[j]?=some u → w.cell? ((⟨b,o,none⟩:Addr).add j)=some u:=fun j u hu => by
   have hj:j < zs.length:=by
    have:=(List.getElem?_eq_some_iff.1 hu).1
    rwa [List.length_map] at this
   have e:(⟨b,o,none⟩:Addr).add j=⟨b,o + j,none⟩:=by unfold Addr.add;split <;> simp_all
   rw [e,hc j hj]
   rw [List.getElem?_map,List.getElem?_eq_getElem hj] at hu
   rw [List.getD_eq_getElem?_getD,List.getElem?_eq_getElem hj]
   exact hu
  obtain ⟨v',w',h1,h2,h3,_⟩:=run_append_own (P:=Tryz.prog) w w.heap.size 27 ty 3 i (.int .i64 0) 1 8 ht hi hz0 hz1 hz2 rfl (by decide) (.slice none 0 0) 0 [] (World.ownsRow_nil w _ _ _) ⟨b,o,none⟩ zs.length cap (zs.map (Value.int .i64)) (by rw [List.length_map,Nat.mul_one]) hnews
   (fun u hu => by obtain ⟨x,_,rfl⟩:=List.mem_map.1 hu;rfl) (by unfold maxLen;omega) (by omega) (Nat.le_refl _)
  rw [Nat.zero_add,List.nil_append] at h2
  exact ⟨v',w',h1,h2,Only.grown (Only.refl _ _ w) h3 fun k hk => by cases hk⟩
def lentF (zs:List Int) (j:Nat):Int:=if j < zs.length then zs.getD j 0 else -71 - (j:Int)
set_option maxRecDepth 100000 in
set_option maxHeartbeats 3200000 in
theorem lent_any (w:World) (v:Value) (zs:List Int) (hz:IntsIn w v zs) (hl:zs.length ≤ 100000) :
 Calls Tryz.prog 24 #[v] w fun e w' => (∃ g cap,e=.returned (.slice (some ⟨g,0,none⟩) (zs.length + 20) cap) ∧ w.heap.size ≤ g ∧ zs.length + 20 ≤ cap ∧ RowB w' g 3 (zs.length + 20) 1 (fun j _ => lentF zs j)) ∧ Still w w':=by
 obtain ⟨v1,w1,ha1,hr1,hs1⟩:=append_list w 27 v zs hz (by omega)
 obtain ⟨v2,w2,ha2,hr2,hg2⟩:=append_zeros_own w1 27 w.heap.size v1 zs.length 20 _ hr1 (by omega) (by omega) (by omega) hs1.size
 have hs2:Still w w2:=hs1.grown hg2 fun k hk => .inr (hr1.lt k hk).1
 have HA1:=Lib.hid ha1
 have HA2:Hid ((Builtin.append_ #[27,3] 27 #[v1,.int .i64 20]).run Tryz.prog w1=.ok v2 w2):=Lib.hid ha2
 have hv:∃ ao cap,v=.slice ao zs.length cap:=by
  obtain ⟨_,ao,cap,rfl,_⟩:=hz
  exact ⟨ao,cap,rfl⟩
 obtain ⟨ao,cp,rfl⟩:=hv
 rcases hr2.2 with ⟨_,h0⟩ | ⟨g,cap,cur,rfl,hbg,hg,hnc,hcm,hcs,htake⟩
 ·omega
 obtain ⟨n,hn⟩:∃ n,zs.length=n:=⟨_,rfl⟩
 rw [hn] at hl hnc htake HA1 HA2 ⊢
 have HN:=Lib.hid hn
 have hnI:(n:Int) ≤ 100000:=by omega
 have hgl:=(Array.getElem?_eq_some_iff.1 hg).1
 have HR:Hid (RowB w2 g 3 (n + 20) 1 (fun j _ => if j < n then zs.getD j 0 else 0)):=Lib.hid ⟨cur,hg,fun i hi d hd => by
  obtain rfl:d=0:=by omega
  rw [Nat.mul_one,Nat.add_zero]
  have h2:(cur.toList.take ((n + 20) * 1))[i]?=cur[i]?:=by rw [List.getElem?_take,if_pos (by omega),Array.getElem?_toList]
  rw [← h2,htake]
  dsimp only
  by_cases e:i < n
  ·rw [if_pos e,List.getElem?_append_left (by rw [List.length_map];omega),List.getElem?_map,List.getElem?_eq_getElem (by omega),List.getD_eq_getElem?_getD,List.getElem?_eq_getElem (by omega)]
   rfl
  ·rw [if_neg e,List.getElem?_append_right (by rw [List.length_map];omega),List.getElem?_replicate,if_pos (by rw [List.length_map];omega)]⟩
 obtain ⟨M,hM⟩:∃ M,n + 20=M:=⟨_,rfl⟩
 rw [hM] at hnc HA2 HR ⊢
 have HS2:=Lib.hid hs2
 have HBG:=Lib.hid hbg
 have HNC:=Lib.hid hnc
 clear hz hr1 hs1 hr2 hg2 hs2 ha1 ha2 hn hg hbg hnc hcm hcs htake
 go_enter Tryz.func24,Tryz.ntmps24
 go_wp2_with (first | (at_builtin;refine wpList_append_eq rfl _ _ 27 rfl _ _ _ _ rfl rfl HA1.out ?_) | (at_builtin;refine Lib.wpList_append_run _ rfl _ _ _ _ rfl _ _ rfl rfl _ _ HA2.out ?_))
 go_loopw [5] (fun y W => ∃ i:Nat,y=.int .i64 (i:Int) ∧ n ≤ i ∧ i ≤ M ∧ Still w W ∧ RowB W g 3 M 1 (fun j _ => if j < i then lentF zs j else 0)) (fun y _ => M + 1 - (intOf y).toNat)
 case atStart => exact ⟨n,rfl,Nat.le_refl _,by omega,HS2.out,HR.out.congr fun i hi d hd => by
  unfold lentF
  rw [HN.out]
  by_cases e:i < n
  ·rw [if_pos e,if_pos e,if_pos e]
  ·rw [if_neg e,if_neg e]⟩
 case round =>
  obtain ⟨i,rfl,hni,hi,hst,hr⟩:=hrel
  have HST:=Lib.hid hst
  have HRI:=Lib.hid hr
  have hi0:(0:Int) ≤ (i:Int):=by omega
  by_cases hlt:i < M
  ·have hltI:(i:Int) < (M:Int):=by omega
   have x0:=hr.cell (i:=i) (d:=0) hlt (by omega)
   rw [Nat.mul_one,Nat.add_zero] at x0
   have f0:=hr.frozen i
   have l0:=hr.lt
   have hset:=hr.set (i:=i) (d:=0) hlt (by omega) (-71 - (i:Int))
   rw [Nat.mul_one,Nat.add_zero] at hset
   have HSET:=Lib.hid hset
   clear hst hr hset
   go_wp2_with fail
   refine ⟨⟨i + 1,by go_num,by omega,hlt,HST.out.setCell (p:=⟨g,i,none⟩) (.inr HBG.out) _,HSET.out.congr fun j hj d hd => ?_⟩,by simp [intOf];omega⟩
   obtain rfl:d=0:=by omega
   by_cases e:j=i
   ·subst e
    rw [if_pos ⟨rfl,rfl⟩,if_pos (by omega)]
    unfold lentF
    rw [HN.out,if_neg (by omega)]
   ·rw [if_neg (fun hh => e hh.1)]
    by_cases e2:j < i
    ·rw [if_pos e2,if_pos (by omega)]
    ·rw [if_neg e2,if_neg (by omega)]
  ·obtain rfl:M=i:=by omega
   clear hst hr
   go_wp2_with fail
   go_ret
   exact ⟨⟨g,cap,rfl,HBG.out,HNC.out,HRI.out.congr fun j hj d hd => by rw [if_pos hj]⟩,HST.out⟩
end Go.Proofs.YtfbcdmhmpfijjaaGreatDoor
namespace Go.Proofs.YtfbcdmhmpfijjaaGreatDoor
open Go Go.RowKit
set_option maxRecDepth 100000 in
set_option maxHeartbeats 6400000 in
theorem kept_all (w:World) (g cap:Nat) (v:Value) (zs:List Int) (hz:IntsIn w v zs) (hl:zs.length ≤ 100000) (hc:RowB w g 3 (zs.length + 20) 1 (fun j _ => lentF zs j)) :
 Calls Tryz.prog 26 #[.slice (some ⟨g,0,none⟩) (zs.length + 20) cap,v] w fun e w' => e=.returned (.bool true) ∧ Only g (g + 1) w w':=by
 obtain ⟨_,ao,cp,rfl,hcc⟩:=hz
 have HEL:Hid (∀ j,j < zs.length → ∃ b o,ao=some ⟨b,o,none⟩ ∧ w.cell? ⟨b,o + j,none⟩=some (.int .i64 (zs.getD j 0)) ∧ b < w.heap.size):=Lib.hid fun j hlt => by
  obtain ⟨b,o,e1,h⟩:=hcc j hlt
  exact ⟨b,o,e1,h,cell_blt h⟩
 obtain ⟨n,hn⟩:∃ n,zs.length=n:=⟨_,rfl⟩
 obtain ⟨M,hM⟩:∃ M,zs.length + 20=M:=⟨_,rfl⟩
 rw [hM] at hc ⊢
 rw [hn] at hl HEL hM ⊢
 have HN:=Lib.hid hn
 have HC:=Lib.hid hc
 have hnI:(n:Int) ≤ 100000:=by omega
 have hMI:(M:Int)=(n:Int) + 20:=by omega
 have hMb:((M:Int) == (n:Int) + 20)=true:=by simp;omega
 clear hcc hn hc
 go_enter Tryz.func26,Tryz.ntmps26
 go_wp2_with fail
 go_loopw [6,7] (fun x y W => ∃ i:Nat,x=.bool true ∧ y=.int .i64 (i:Int) ∧ i ≤ M ∧ Still w W) (fun _ y _ => M + 1 - (intOf y).toNat)
 case atStart => exact ⟨0,rfl,rfl,Nat.zero_le _,Only.refl _ _ _⟩
 case round =>
  obtain ⟨i,rfl,rfl,hi,hst⟩:=hrel
  have HST:=Lib.hid hst
  have hi0:(0:Int) ≤ (i:Int):=by omega
  by_cases hlt:i < M
  ·have hltI:(i:Int) < (M:Int):=by omega
   have hltI2:(i:Int) < (n:Int) + 20:=by omega
   have hcw:=HC.out.still hst
   have x0:=hcw.cell (i:=i) (d:=0) hlt (by omega)
   rw [Nat.mul_one,Nat.add_zero] at x0
   have l0:=hcw.lt
   by_cases hin:i < n
   ·obtain ⟨b,o,rfl,y0,hbl⟩:=HEL.out i hin
    have y1:=(hst.cell (p:=⟨b,o + i,none⟩) hbl (.inl hbl)).trans y0
    have lb:b < wr.heap.size:=Nat.lt_of_lt_of_le hbl hst.size
    have hinI:(i:Int) < (n:Int):=by omega
    rw [show lentF zs i=zs.getD i 0 by unfold lentF;rw [HN.out,if_pos hin]] at x0
    generalize zs.getD i 0=z at *
    have hzz:(z == z)=true:=by simp
    have hd:decide ((i:Int) < (n:Int))=true:=decide_eq_true hinI
    clear hst hcw y0 hbl
    go_upto_region 6 with fail
    go_quiet (fail)
    go_wp2_with fail
    exact ⟨⟨i + 1,rfl,by go_num,hlt,HST.out.drewN _⟩,by simp [intOf];omega⟩
   ·have hd:decide ((i:Int) < (n:Int))=false:=decide_eq_false (by omega)
    have hd2:decide ((n:Int) ≤ (i:Int))=true:=decide_eq_true (by omega)
    rw [show lentF zs i=-71 - (i:Int) by unfold lentF;rw [HN.out,if_neg hin]] at x0
    have hw:IntKind.i64.wrap (-71 - (i:Int))=-71 - (i:Int):=by rw [IntKind.wrap_i64];omega
    have hw2:wrap64 (-71 - (i:Int))=-71 - (i:Int):=by unfold wrap64;omega
    obtain ⟨y,hy⟩:∃ y,-71 - (i:Int)=y:=⟨_,rfl⟩
    rw [hy] at x0 hw hw2
    have hyy:(y == y)=true:=by simp
    have hdn:decide (i < n)=false:=decide_eq_false hin
    have hdm:decide (n ≤ i)=true:=decide_eq_true (by omega)
    clear hst hcw hin
    go_upto_region 6 with fail
    go_quiet (fail)
    go_wp2_with fail
    exact ⟨⟨i + 1,rfl,by go_num,hlt,HST.out.drewN _⟩,by simp [intOf];omega⟩
  ·obtain rfl:M=i:=by omega
   have HCW:=Lib.hid (HC.out.still hst)
   clear hst HC HEL
   go_wp2_with fail
   go_loopw [8] (fun y W => ∃ i:Nat,y=.int .i64 (i:Int) ∧ i ≤ M ∧ Only g (g + 1) w W ∧ ∃ f,RowB W g 3 M 1 f) (fun y _ => M + 1 - (intOf y).toNat)
   case atStart => exact ⟨0,rfl,Nat.zero_le _,HST.out.any _ _,_,HCW.out⟩
   case round =>
    obtain ⟨i,rfl,hi,ho,f,hr⟩:=hrel
    have HO:=Lib.hid ho
    have HR:=Lib.hid hr
    have hi0:(0:Int) ≤ (i:Int):=by omega
    by_cases hlt:i < M
    ·have hltI:(i:Int) < (M:Int):=by omega
     have hltI2:(i:Int) < (n:Int) + 20:=by omega
     have x0:=hr.cell (i:=i) (d:=0) hlt (by omega)
     rw [Nat.mul_one,Nat.add_zero] at x0
     have f0:=hr.frozen i
     have l0:=hr.lt
     have hset:=hr.set (i:=i) (d:=0) hlt (by omega) 7
     rw [Nat.mul_one,Nat.add_zero] at hset
     have HSET:=Lib.hid hset
     clear ho hr hset
     go_wp2_with fail
     exact ⟨⟨i + 1,by go_num,hlt,HO.out.trans (only_cell _ _ _ _),_,HSET.out⟩,by simp [intOf];omega⟩
    ·obtain rfl:M=i:=by omega
     clear ho hr
     go_wp2_with fail
     go_ret
     exact ⟨rfl,HO.out⟩
end Go.Proofs.YtfbcdmhmpfijjaaGreatDoor
namespace Go.Proofs.YtfbcdmhmpfijjaaGreatDoor
open Go Go.RowKit
theorem St.KeptU.invU {s t:St} {stay:Nat → Bool} (k:s.KeptU t stay):t.InvU:=by
 have hm:=k.mid
 refine ⟨fun x => if t.B 0 x then t.hd x else t.W x,⟨hm.n1,hm.n2,hm.pages,hm.obj,fun p r hr => .inl (hm.runs p r hr),fun c hc a => ?_,fun a ha => ?_,fun c hc a ha => ?_,hm.side,hm.ser0,hm.ser1,hm.sers,hm.room,hm.room2,hm.idx,hm.lowf⟩⟩
 ·exact (k.free c hc a).trans ⟨fun hh => ⟨hh.1,hh.2,id⟩,fun hh => ⟨hh.1,hh.2.1⟩⟩
 ·have ha:t.B 0 a=true:=ha
  show (if t.B 0 a=true then t.hd a else t.W a)=_
  rw [if_pos ha];rfl
 ·have ha:t.B (c + 1) a=true:=ha
  have h0:=((k.free c hc a).1 ha).2
  show (if t.B 0 a=true then t.hd a else t.W a)=_
  rw [h0,if_neg (by decide)]
  exact k.lnk c hc a ha
inductive St.Kp (s:St) (zs:List Int):Int → Int → St → Prop where
 | bad (j:Nat):j < zs.length → s.has (zs.getD j 0)=false → St.Kp s zs 0 22 s
 | ok:(∀ j,j < zs.length → s.has (zs.getD j 0)=true) → St.Kp s zs (Bm.cnt (fun x => s.B 0 x && !stayTo zs zs.length x) 0 (64 * s.n):Nat) 0 (s.keep (stayTo zs zs.length))
theorem kp_ex (s:St) (zs:List Int):∃ x e s',s.Kp zs x e s':=by
 by_cases h:∀ j,j < zs.length → s.has (zs.getD j 0)=true
 ·exact ⟨_,_,_,.ok h⟩
 ·obtain ⟨j,hj⟩:=Classical.not_forall.1 h
  obtain ⟨h1,h2⟩:=Classical.not_imp.1 hj
  exact ⟨_,_,_,.bad j h1 (by simpa using h2)⟩
theorem St.Kp.inv {s s':St} {zs:List Int} {x e:Int} (h:s.Kp zs x e s') (hi:s.InvU):s'.InvU ∧ s'.n=s.n ∧ s'.acts ≤ s.acts + 2:=by
 cases h with
 | bad _ _ _ => exact ⟨hi,rfl,by omega⟩
 | ok _ =>
  have k:=hi.mid.keep (stayTo zs zs.length)
  exact ⟨k.invU,k.n,by rw [k.acts];omega⟩
theorem skeep_al (w:World) (L:Lay) (s s':St) (h:SpaceAt w L s) (hi:s.InvU) (v:Value) (zs:List Int) (hz:IntsAt w v zs) (x e:Int) (hal:s.Kp zs x e s') (Q:Ending → World → Prop)
 (hQ:∀ w',SpaceAt w' L s' → Only L.lo L.hi w w' → Q (.returned (.tuple #[.int .i64 x,.int .i64 e])) w') :
 Calls Tryz.prog 122 #[.pointer (some ⟨L.sb,0,none⟩),v] w Q:=by
 cases hal with
 | bad j h1 h2 =>
  refine (keep_bad w L s h v zs hz hi.fine fun hh => ?_).mono ?_
  ·rw [hh j h1] at h2;cases h2
  ·rintro e w' ⟨rfl,hs⟩
   exact hQ w' (h.still hs) (hs.any _ _)
 | ok hh =>
  obtain ⟨h1,h2⟩:=hi.mid.keepOk h.actsle (stayTo zs zs.length)
  refine keep_ok w L s h v zs hz hh hi.fine h1 h2 Q fun w' hs ho => ?_
  rw [St.dropN_cnt hi.mid]
  exact hQ w' hs ho
theorem rkeep_al (w:World) (R:RLay) (s s':St) (h:RefAt w R s) (hi:s.InvU) (v:Value) (zs:List Int) (hz:IntsIn w v zs) (x e:Int) (hal:s.Kp zs x e s') (Q:Ending → World → Prop)
 (hQ:∀ w',RefAt w' R s' → Only R.lo R.hi w w' → Q (.returned (.tuple #[.int .i64 x,.int .i64 e])) w') :
 Calls Tryz.prog 123 #[.pointer (some ⟨R.rb,0,none⟩),v] w Q:=by
 refine rkeep_any w R s h hi.mid hi.refOk v zs hz Q ?_ ?_
 ·intro j h1 h2 w' hs
  cases hal with
  | bad _ _ _ => exact hQ w' (h.still hs) (hs.any _ _)
  | ok hh => rw [hh j h1] at h2;cases h2
 ·intro hh w' hr ho
  cases hal with
  | bad j h1 h2 => rw [hh j h1] at h2;cases h2
  | ok _ => exact hQ w' hr ho
def IntsOut (L:Lay) (R:RLay) (v:Value):Prop:=∀ b o n c,v=.slice (some ⟨b,o,none⟩) n c → 0 < n → b < L.lo ∨ R.hi ≤ b
theorem IntsIn.only {w w':World} {v:Value} {zs:List Int} (h:IntsIn w v zs) {lo hi:Nat} (ho:Only lo hi w w') (hd:∀ b o n c,v=.slice (some ⟨b,o,none⟩) n c → 0 < n → b < lo ∨ hi ≤ b):IntsIn w' v zs:=by
 obtain ⟨h1,ao,cap,rfl,h2⟩:=h
 refine ⟨h1,ao,cap,rfl,fun j hj => ?_⟩
 obtain ⟨b,o,rfl,h3⟩:=h2 j hj
 exact ⟨b,o,rfl,(ho.cell (p:=⟨b,o + j,none⟩) (cell_blt h3) (hd b o _ _ rfl (by omega))).trans h3⟩
theorem IntsIn.still {w w':World} {v:Value} {zs:List Int} (h:IntsIn w v zs) (ho:Still w w'):IntsIn w' v zs:=by
 obtain ⟨h1,ao,cap,rfl,h2⟩:=h
 refine ⟨h1,ao,cap,rfl,fun j hj => ?_⟩
 obtain ⟨b,o,rfl,h3⟩:=h2 j hj
 exact ⟨b,o,rfl,(ho.cell (p:=⟨b,o + j,none⟩) (cell_blt h3) (.inl (cell_blt h3))).trans h3⟩
theorem Pr2.aside {w w':World} {pb:Nat} {L:Lay} {R:RLay} {s t:St} {own:Nat → Lb} {qf:Nat → Nat} {C g:Nat} (h:Pr2 w pb L R s t own qf C) (ho:Only g (g + 1) w w') (hg:R.hi ≤ g) (hn:own g=Lno):Pr2 w' pb L R s t own qf C:=by
 obtain ⟨a,b,_⟩:=h.lohi
 have hlr:=h.lr
 exact ⟨h.k.kf (kf_only ho) fun x hx hb => by
  obtain rfl:x=g:=by omega
  exact hx hn,h.sp.kept ho (.inl (by omega)) (by have:=h.rf.ok.lo0;omega),h.rf.kept ho (.inl hg),hlr,h.ow⟩
end Go.Proofs.YtfbcdmhmpfijjaaGreatDoor
namespace Go.Proofs.YtfbcdmhmpfijjaaGreatDoor
open Go Go.RowKit
set_option maxRecDepth 100000 in
set_option maxHeartbeats 6400000 in
theorem keeps2_any (w:World) (pb:Nat) (L:Lay) (R:RLay) (s:St) (own:Nat → Lb) (qf:Nat → Nat) (C:Nat) (h:PairAt w pb L R s own qf C) (v:Value) (zs:List Int) (hz:IntsIn w v zs) (hl:zs.length ≤ 100000) (hv:IntsOut L R v) (Q:Ending → World → Prop)
 (hQ:∀ w' s',PairAt w' pb L R s' own qf C → s'.n=s.n → s'.acts ≤ s.acts + 2 → PFr L R w own w' own → Q (.returned (.bool true)) w') :
 Calls Tryz.prog 78 #[.pointer (some ⟨pb,0,none⟩),v] w Q:=by
 have HQ:=Lib.hid hQ
 obtain ⟨x,e,s',hal⟩:=kp_ex s zs
 have HIN:=Lib.hid (hal.inv h.iv)
 have HIV:=Lib.hid h.iv
 have HN24:=Lib.hid h.n24
 have HA1:Hid (∀ W u,SpaceAt W L s → IntsAt W u zs → ∀ Q:Ending → World → Prop,(∀ w',SpaceAt w' L s' → Only L.lo L.hi W w' → Q (.returned (.tuple #[.int .i64 x,.int .i64 e])) w') → Calls Tryz.prog 122 #[.pointer (some ⟨L.sb,0,none⟩),u] W Q):=Lib.hid fun W u hW hu Q hQ => skeep_al W L s s' hW HIV.out u zs hu x e hal Q hQ
 have HA2:Hid (∀ W,RefAt W R s → IntsIn W v zs → ∀ Q:Ending → World → Prop,(∀ w',RefAt w' R s' → Only R.lo R.hi W w' → Q (.returned (.tuple #[.int .i64 x,.int .i64 e])) w') → Calls Tryz.prog 123 #[.pointer (some ⟨R.rb,0,none⟩),v] W Q):=Lib.hid fun W hW hu Q hQ => rkeep_al W R s s' hW HIV.out v zs hu x e hal Q hQ
 have HLE:=Lib.hid (lent_any w v zs hz hl)
 have hp:=h.pr2
 obtain ⟨hl1,hl2,hl3⟩:=hp.lohi
 have hlr:=h.lr
 have HP:=Lib.hid hp
 have HZ:=Lib.hid hz
 have HV:=Lib.hid hv
 have HOLT:=Lib.hid h.olt
 have hav:∃ ao cp,v=.slice ao zs.length cp:=by
  obtain ⟨_,ao,cap,rfl,_⟩:=hz
  exact ⟨ao,cap,rfl⟩
 obtain ⟨ao,cp,hav⟩:=hav
 subst hav
 obtain ⟨n,hn⟩:∃ n,zs.length=n:=⟨_,rfl⟩
 have HNN:=Lib.hid hn
 rw [hn] at HLE HA2 HZ HV hl ⊢
 have hnI:(n:Int) ≤ 100000:=by omega
 clear h hal hQ hz hv hp hn
 go_enter Tryz.func78,Tryz.ntmps78
 go_wp2_with fail
 refine HLE.out.mono ?_
 rintro e1 w1 ⟨⟨g,cap,rfl,hg,hcap,hrow⟩,hs1⟩
 have HROW:=Lib.hid hrow
 have HG:=Lib.hid hg
 have hp1:=HP.out.still hs1
 have hz1:=HZ.out.still hs1
 have HS1:=Lib.hid hs1
 have HP1:=Lib.hid hp1
 have HZ1:=Lib.hid hz1
 have hpl:=hp1.lt
 have k0:=hp1.c0
 have hgl:=hrow.lt
 have HZC:Hid (∀ W,Still w1 W → IntsAt W (.slice (some ⟨g,0,none⟩) n cap) zs):=Lib.hid fun W hW => .inr ⟨g,0,cap,by rw [HNN.out],by rw [HNN.out];omega,fun j hj => by
  rw [HNN.out] at hj
  have:=(HROW.out.still hW).cell (i:=j) (d:=0) (by omega) (by omega)
  rw [Nat.mul_one,Nat.add_zero] at this
  rw [Nat.zero_add,this]
  unfold lentF
  rw [HNN.out,if_pos hj]⟩
 have hcapn:n ≤ cap:=by omega
 have hcapI:(n:Int) ≤ (cap:Int):=by omega
 clear hrow hs1 hp1 hz1 hg
 go_upto_region 2 with fail
 have hsC:Only L.lo L.hi w1 w1:=Only.refl _ _ _
 have hopb:R.hi ≤ pb:=by
  obtain ⟨v,ls,hk⟩:=HP1.out.k
  exact HP1.out.ow pb (by rw [hk.hd.opb];intro e;cases e)
 have HK:Hid (∀ W,Only L.lo L.hi w1 W → W.cell? ⟨pb,0,none⟩=some (.pointer (some ⟨L.sb,0,none⟩))):=Lib.hid fun W hW => (hW.cell (p:=⟨pb,0,none⟩) HP1.out.lt (.inr (by show L.hi ≤ pb;omega))).trans HP1.out.c0
 go_cut [6,7] from 13 to 23 (fun s6 s7 wx => s6=.int .i64 x ∧ s7=.int .i64 e ∧ Only L.lo L.hi w1 wx ∧ SpaceAt wx L s')
 case first =>
  go_region_held3 (fun w' => w'.cell? ⟨pb,0,none⟩=some (.pointer (some ⟨L.sb,0,none⟩)))
   ((refine HK.out _ ?_;(repeat first | with_reducible exact hsC | with_reducible exact Only.refl _ _ _ | with_reducible apply Only.drew | with_reducible apply Only.drewN | with_reducible apply Only.alloc)))
   (first
     | (go_at_call 122;refine HA1.out _ _ (HP1.out.sp.still (by (repeat first | with_reducible exact Only.refl _ _ _ | with_reducible apply Only.drew | with_reducible apply Only.drewN | with_reducible apply Only.alloc))) (HZC.out _ (by (repeat first | with_reducible exact Only.refl _ _ _ | with_reducible apply Only.drew | with_reducible apply Only.drewN | with_reducible apply Only.alloc))) _ ?_;intro wp hsp hcall;have hsC:Only L.lo L.hi w1 wp:=Only.trans (by (repeat first | with_reducible exact hsC | with_reducible exact Only.refl _ _ _ | with_reducible apply Only.drew | with_reducible apply Only.drewN | with_reducible apply Only.alloc)) hcall;clear hcall))
  all_goals
   go_wp2_with fail
   go_meet
   exact ⟨rfl,rfl,(by (repeat first | with_reducible exact hsC | with_reducible exact Only.refl _ _ _ | with_reducible apply Only.drew | with_reducible apply Only.drewN | with_reducible apply Only.alloc)),hsp.still (by (repeat first | with_reducible exact Only.refl _ _ _ | with_reducible apply Only.drew | with_reducible apply Only.drewN | with_reducible apply Only.alloc))⟩
 case rest =>
  obtain ⟨rfl,rfl,ho1,hs1⟩:=hcut
  generalize wc=w2 at *
  have hp2:=HP1.out.space ho1 hs1
  have hgw:w1.heap.size=w1.heap.size:=rfl
  have hg0:=HG.out
  have hz2:IntsIn w2 (.slice ao n cp) zs:=HZ1.out.only ho1 fun b o n c e hn => (HV.out b o n c e hn).imp id fun h => by omega
  have hrow2:=HROW.out.kept ho1 (.inr (by omega))
  have HP2:=Lib.hid hp2
  have HZ2:=Lib.hid hz2
  have HROW2:=Lib.hid hrow2
  have HO2:Hid (Only L.lo R.hi w w2):=Lib.hid (Only.trans (HS1.out.any _ _) (ho1.mono (Nat.le_refl _) (by omega)))
  have hpl2:=hp2.lt
  have k1:=hp2.c1
  clear hsC ho1 hs1 hp2 hz2 hrow2 k0 hgw
  go_wp2_with fail
  refine HA2.out _ HP2.out.rf HZ2.out _ ?_
  intro w3 hr3 ho3
  have HP3:=Lib.hid (HP2.out.ref ho3 hr3)
  have hz3:IntsIn w3 (.slice ao n cp) zs:=HZ2.out.only ho3 fun b o n c e hn => (HV.out b o n c e hn).imp (fun h => by omega) id
  have HO3:Hid (Only L.lo R.hi w w3):=Lib.hid (HO2.out.trans (ho3.mono (by omega) (Nat.le_refl _)))
  have HKP:=Lib.hid (kept_all w3 g cap (.slice ao n cp) zs hz3 (by rw [HNN.out];exact hl) (by rw [HNN.out];exact HROW2.out.kept ho3 (.inr (by omega))))
  rw [HNN.out] at HKP
  have hxx:(x == x)=true:=by simp
  have hee:(e == e)=true:=by simp
  clear hr3 ho3 hz3 k1
  go_wp2_with fail
  refine HKP.out.mono ?_
  rintro e4 w4 ⟨rfl,ho4⟩
  have HE:Hid (Q (.returned (.bool true)) w4):=Lib.hid (by
   have hng:own g=Lno:=by
    by_cases e:own g=Lno
    ·exact e
    ·have:=HOLT.out g e;omega
   refine HQ.out w4 s' ((HP3.out.aside ho4 (by omega) hng).pair HIN.out.1 (by rw [HIN.out.2.1];exact HN24.out)) HIN.out.2.1 HIN.out.2.2 ((PFr.refl L R w own).turn ?_)
   exact HO3.out.trans' ho4 (.inr hg0) (.inr hg0))
  clear ho4
  go_wp2_with fail
  exact HE.out
end Go.Proofs.YtfbcdmhmpfijjaaGreatDoor
