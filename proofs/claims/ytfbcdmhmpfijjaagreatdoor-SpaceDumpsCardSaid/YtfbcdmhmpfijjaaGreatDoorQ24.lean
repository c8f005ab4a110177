/-
  The walks of New: of the document's own space, and of bad numbers of pages.
-/
import Derived.Laws.Rows
import Derived.Test.YtfbcdmhmpfijjaaGreatDoorQ20
import Derived.Test.YtfbcdmhmpfijjaaGreatDoorQ23
import Derived.Test.YtfbcdmhmpfijjaaGreatDoorQ22
set_option linter.unusedVariables false
set_option linter.unusedSimpArgs false
set_option linter.unusedSectionVars false
namespace Go.Proofs.YtfbcdmhmpfijjaaGreatDoor
open Go Go.RowKit
def lw (N m:Nat):Int:=if m=N then -1 else (m:Int)
theorem St.least_old {s:St} {c N a i m:Nat} (h:Least (s.badAt c a) N m) (hz:∀ j,a ≤ j → j < i → s.B (c + 1) j=false) (hm:m ≤ i):Least (s.badAt c (i + 1)) N m:=by
 refine ⟨h.1,fun j hj hbj => ?_,fun hh => (h.2.2 hh).elim .inl fun h2 => .inr ⟨by omega,h2.2⟩⟩
 rcases hbj with h1 | ⟨h0,h1⟩
 ·exact h.2.1 j hj (.inl h1)
 ·by_cases hja:j < a
  ·exact h.2.1 j hj (.inr ⟨hja,h1⟩)
  ·have h3:=h1.1
   rw [hz j (by omega) (by omega)] at h3;cases h3
theorem Least.down_yes {p:Nat → Prop} {N k m:Nat} (_h:Least (fun i => k + 1 ≤ i ∧ p i) N m) (hk:k < N) (hp:p k):Least (fun i => k ≤ i ∧ p i) N k :=
 ⟨Nat.le_of_lt hk,fun i hi h => by omega,fun _ => ⟨Nat.le_refl _,hp⟩⟩
theorem Least.down_no {p:Nat → Prop} {N k m:Nat} (h:Least (fun i => k + 1 ≤ i ∧ p i) N m) (hp:¬p k):Least (fun i => k ≤ i ∧ p i) N m :=
 ⟨h.1,fun i hi hh => by
  by_cases e:i=k
  ·rw [e] at hh;exact hp hh.2
  ·exact h.2.1 i hi ⟨by omega,hh.2⟩,fun hm => ⟨by have:=(h.2.2 hm).1;omega,(h.2.2 hm).2⟩⟩
def msr (N:Nat) (x:Int):Nat:=if x < 0 then 0 else N + 1 - x.toNat
theorem msr_lt {N i:Nat} {x:Int} (hi:i < N) (h:x < 0 ∨ (i:Int) < x):msr N x < msr N (i:Int):=by
 unfold msr
 rw [if_neg (show ¬((i:Int) < 0) by omega)]
 by_cases hq:x < 0
 ·rw [if_pos hq];omega
 ·rw [if_neg hq];omega
set_option maxRecDepth 100000 in
set_option maxHeartbeats 6400000 in
theorem rwrong_any (w:World) (R:RLay) (s:St) (h:RefAt w R s) (hs:s.RefOk) :
 Calls Tryz.prog 35 #[.pointer (some ⟨R.rb,0,none⟩)] w fun e w' => (∃ m,Least (s.badTo 8) (64 * s.n) m ∧ e=.returned (.int .i64 (if m=64 * s.n then -1 else (m:Int)))) ∧ Still w w':=by
 have HR:=Lib.hid (fun W (hw:Still w W) => h.still hw)
 have HS:=Lib.hid hs
 have hn1:=h.n1
 have hn2:=h.n2
 have HCK:=Lib.hid (fun W (hw:Still w W) (a:Int) => rcheck_any W R s (h.still hw) hs a)
 have HNF:=Lib.hid (fun W (hw:Still w W) c hc f hf => rnext_any W R s (h.still hw) hs c hc f hf)
 have HLT:=Lib.hid (fun a (ha:s.B 0 a=true) => hs.lt ha)
 have HLK:=Lib.hid (fun W n h1 h2 => rlink_any n W h1 h2)
 have HLN:Hid (∀ c (a:Nat),s.link c a=Sp.lnk (Bm.next (s.B (c + 1)) (64 * s.n) ((a:Int) + 1))):=Lib.hid fun _ _ => rfl
 obtain ⟨N,hN⟩:∃ N,64 * s.n=N:=⟨_,rfl⟩
 rw [hN] at HNF HLT HLN ⊢
 have HN:=Lib.hid hN
 have hNM:(N:Int) ≤ 262144:=by omega
 have hN1:(64:Int) ≤ (N:Int):=by omega
 have c2:w.cell? ⟨R.rb,2,none⟩=some (.slice (some ⟨R.ob,0,none⟩) N R.co):=by rw [← hN];exact h.c2
 obtain ⟨l1,l2,l3,l4,l5⟩:=h.lts
 clear h hs hN hn1 hn2
 have hfd:∀ (x y:Int) W,(Instr.field 100 (.agg #[.int .i64 x,.int .i64 y]) 0).run Tryz.prog W=.ok (.int .i64 x) W:=fun _ _ _ => by kernel_rfl
 go_enter Tryz.func35,Tryz.ntmps35
 go_wp2_with fail
 clear c2 l1 l2 l3 l4 l5
 go_loopw [3,4] (fun x y W => ∃ j m:Nat,x=.int .i64 (lw N m) ∧ y=.int .i64 ((j:Int) - 1) ∧ j ≤ N ∧ Least (fun i => j ≤ i ∧ s.bad0 i) N m ∧ Still w W) (fun _ y _ => (intOf y + 1).toNat)
 case atStart => exact ⟨N,N,by unfold lw;rw [if_pos rfl],rfl,Nat.le_refl _,⟨Nat.le_refl _,fun i hi hh => by omega,fun hh => absurd hh (Nat.lt_irrefl _)⟩,Only.refl _ _ _⟩
 case round =>
  obtain ⟨j,m,rfl,hy,hj,hle,hst⟩:=hrel
  have HST:=Lib.hid hst
  have HLE:=Lib.hid hle
  have hr:=HR.out _ hst
  have c2:=hr.c2
  obtain ⟨l1,l2,l3,l4,l5⟩:=hr.lts
  rw [HN.out] at c2
  rcases j with _ | k
  ·rw [show (((0:Nat):Int) - 1)=-1 from rfl] at hy
   subst hy
   have HL0:Hid (Least (s.badTo 0) N m):=Lib.hid (HLE.out.congr fun i _ => by rw [s.badTo_zero];exact ⟨fun hh => hh.2,fun hh => ⟨Nat.zero_le _,hh⟩⟩)
   clear hle hst hr c2 l1 l2 l3 l4 l5 hj
   go_wp2_with fail
   go_loopw [3,5] (fun x y W => ∃ c m:Nat,x=.int .i64 (lw N m) ∧ y=.int .i64 (c:Int) ∧ c ≤ 8 ∧ Least (s.badTo c) N m ∧ Still w W) (fun _ y _ => 9 - (intOf y).toNat)
   case atStart => exact ⟨0,m,rfl,rfl,Nat.zero_le _,HL0.out,HST.out⟩
   case round =>
    obtain ⟨c,m,rfl,rfl,hc,hle,hst⟩:=hrel
    have HST2:=Lib.hid hst
    have HLE2:=Lib.hid hle
    have hc0:(0:Int) ≤ (c:Int):=by omega
    clear hle hst
    by_cases hc8:c < 8
    ·have hcI:(c:Int) < 8:=by omega
     have HNF0:=Lib.hid (HNF.out _ HST2.out c hc8 0 (Nat.zero_le _))
     go_wp2_with fail
     refine HNF0.out.mono ?_
     rintro e w1 ⟨rfl,hs1⟩
     have HS1:=Lib.hid (Still.trans HST2.out hs1)
     have HA0:Hid (Least (s.badAt c 0) N m):=Lib.hid (HLE2.out.congr fun i _ => (s.badAt_zero c i).symm)
     clear hs1
     go_wp2_with fail
     go_loopw [3,6] (fun x y W => ∃ a m:Nat,x=.int .i64 (lw N m) ∧ y=.int .i64 (Bm.next (s.B (c + 1)) N (a:Int)) ∧ a ≤ N ∧ Least (s.badAt c a) N m ∧ Still w W) (fun _ y _ => msr N (intOf y))
     case atStart => exact ⟨0,m,rfl,rfl,Nat.zero_le _,HA0.out,HS1.out⟩
     case round =>
      obtain ⟨a,m,rfl,hy,ha,hle,hst⟩:=hrel
      have HST3:=Lib.hid hst
      have HLE3:=Lib.hid hle
      clear hle hst
      rcases Bm.next_spec (s.B (c + 1)) N (a:Int) with ⟨e,hz⟩ | ⟨i,e,hi1,hi2,hi3,hz⟩
      ·rw [e] at hy
       subst hy
       have HEN:Hid (Least (s.badTo (c + 1)) N m):=Lib.hid (s.least_end HLE3.out fun j h1 h2 => hz j (by omega) h2)
       clear hz e
       go_wp2_with fail
       exact ⟨⟨c + 1,m,rfl,by go_num,hc8,HEN.out,HST3.out⟩,by first | (simp [intOf];done) | (simp [intOf];omega)⟩
      ·rw [e] at hy
       subst hy
       have HZ:Hid (∀ j,a ≤ j → j < i → s.B (c + 1) j=false):=Lib.hid fun j h1 h2 => hz j (by omega) h2
       have hai:a ≤ i:=by omega
       have hi0:(0:Int) ≤ (i:Int):=by omega
       have hiN:(i:Int) < (N:Int):=by omega
       have HNX:=Lib.hid (HNF.out _ HST3.out c hc8 (i + 1) (by omega))
       rw [show (((i + 1:Nat)):Int)=(i:Int) + 1 from rfl] at HNX
       have hlk:=HLN.out c i
       obtain ⟨nx,hnx⟩:∃ nx,Bm.next (s.B (c + 1)) N ((i:Int) + 1)=nx:=⟨_,rfl⟩
       have HNE:=Lib.hid hnx
       rw [hnx] at HNX hlk
       have hnx1:-1 ≤ nx ∧ nx < 262144 ∧ (nx < 0 ∨ (i:Int) < nx):=by
        rw [← hnx]
        rcases Bm.next_spec (s.B (c + 1)) N ((i:Int) + 1) with ⟨e,_⟩ | ⟨i2,e,q1,q2,_⟩
        ·rw [e];omega
        ·rw [e];omega
       have HLL:=Lib.hid (fun W => HLK.out W nx hnx1.1 hnx1.2.1)
       clear e hz hnx
       have HBI:=Lib.hid hi3
       have hiN':i < N:=by omega
       clear hi3 hi1 hi2
       go_wp2_with fail
       refine HNX.out.mono ?_
       rintro e w2 ⟨rfl,hs2⟩
       have HS2:=Lib.hid (Still.trans HST3.out hs2)
       have hr:=HR.out _ HS2.out
       have c0:=hr.c0
       have wd:=hr.word (i:=i) (by rw [HN.out];exact hiN')
       obtain ⟨l1,l2,l3,l4,l5⟩:=hr.lts
       rw [HN.out] at c0
       obtain ⟨lk,hlke⟩:∃ lk,Sp.lnk nx=lk:=⟨_,rfl⟩
       rw [hlke] at HLL hlk
       have HBD:Hid (s.badc c i ↔ s.W i ≠ lk):=Lib.hid ⟨fun hh => by rw [← hlk];exact hh.2,fun hh => ⟨HBI.out,by rw [hlk];exact hh⟩⟩
       clear hr hs2 hlk hlke
       by_cases hb:s.W i=lk
       ·have HON:Hid (Least (s.badAt c (i + 1)) N m):=Lib.hid (s.least_on HLE3.out hai HZ.out fun hh => (HBD.out.1 hh) hb)
        rw [hb] at wd
        clear hb HBD
        go_wp2_with fail
        go_quiet (((go_at_call 82;exact quiet_eq (HLL.out _))))
        go_wp2_with fail
        refine ⟨⟨i + 1,m,rfl,by rw [show (((i + 1:Nat)):Int)=(i:Int) + 1 from rfl,HNE.out],by omega,HON.out,?_⟩,?_⟩
        ·repeat first | exact HS2.out | apply Only.drewN
        ·exact msr_lt hiN' hnx1.2.2
       ·have hbn:(s.W i != lk)=true:=by simpa using hb
        have HBB:Hid (s.badc c i):=Lib.hid (HBD.out.2 hb)
        obtain ⟨wi',hwi⟩:∃ wi',s.W i=wi':=⟨_,rfl⟩
        rw [hwi] at wd hbn
        clear hb HBD hwi
        by_cases hm:m=N
        ·have hl:lw N m=-1:=by unfold lw;rw [if_pos hm]
         have HNW:Hid (Least (s.badAt c (i + 1)) N i):=Lib.hid (s.least_new HLE3.out HZ.out (by omega) HBB.out)
         have HLI:Hid (lw N i=(i:Int)):=Lib.hid (by unfold lw;rw [if_neg (by omega)])
         rw [hl]
         clear hl
         go_wp2_with fail
         go_quiet (((go_at_call 82;exact quiet_eq (HLL.out _))))
         go_wp2_with fail
         refine ⟨⟨i + 1,i,by rw [HLI.out],by rw [show (((i + 1:Nat)):Int)=(i:Int) + 1 from rfl,HNE.out],by omega,HNW.out,?_⟩,?_⟩
         ·repeat first | exact HS2.out | apply Only.drewN
         ·exact msr_lt hiN' hnx1.2.2
        ·have hl:lw N m=(m:Int):=by unfold lw;rw [if_neg hm]
         have HLM:=Lib.hid hl
         have hm0:(0:Int) ≤ (m:Int):=by omega
         rw [hl]
         clear hl
         by_cases him:i < m
         ·have himI:(i:Int) < (m:Int):=by omega
          have HNW:Hid (Least (s.badAt c (i + 1)) N i):=Lib.hid (s.least_new HLE3.out HZ.out him HBB.out)
          have HLI:Hid (lw N i=(i:Int)):=Lib.hid (by unfold lw;rw [if_neg (by omega)])
          go_wp2_with fail
          go_quiet (((go_at_call 82;exact quiet_eq (HLL.out _))))
          go_wp2_with fail
          refine ⟨⟨i + 1,i,by rw [HLI.out],by rw [show (((i + 1:Nat)):Int)=(i:Int) + 1 from rfl,HNE.out],by omega,HNW.out,?_⟩,?_⟩
          ·repeat first | exact HS2.out | apply Only.drewN
          ·exact msr_lt hiN' hnx1.2.2
         ·have himI:(m:Int) ≤ (i:Int):=by omega
          have HNW:Hid (Least (s.badAt c (i + 1)) N m):=Lib.hid (s.least_old HLE3.out HZ.out (by omega))
          go_wp2_with fail
          go_quiet (((go_at_call 82;exact quiet_eq (HLL.out _))))
          go_wp2_with fail
          refine ⟨⟨i + 1,m,by rw [HLM.out],by rw [show (((i + 1:Nat)):Int)=(i:Int) + 1 from rfl,HNE.out],by omega,HNW.out,?_⟩,?_⟩
          ·repeat first | exact HS2.out | apply Only.drewN
          ·exact msr_lt hiN' hnx1.2.2
    ·obtain rfl:c=8:=by omega
     go_wp2_with fail
     go_ret
     exact ⟨⟨m,HLE2.out,rfl⟩,HST2.out⟩
  ·have hkN:k < N:=by omega
   rw [show (((k + 1:Nat):Int) - 1)=(k:Int) by omega] at hy
   subst hy
   have hk0:(0:Int) ≤ (k:Int):=by omega
   have hkI:(k:Int) < (N:Int):=by omega
   have o1:=hr.objs.cell (i:=k) (by rw [HN.out];exact hkN) (d:=1) (by omega)
   have HCC:=Lib.hid (HCK.out _ hst (k:Int))
   cases hb0:s.B 0 k with
   | false =>
    have e:s.ro k 1=0:=by unfold St.ro;rw [hb0];rfl
    rw [e] at o1
    have HNB:Hid (Least (fun i => k ≤ i ∧ s.bad0 i) N m):=Lib.hid (HLE.out.down_no fun hh => by have:=hh.1;rw [hb0] at this;cases this)
    clear e hle hst hr hb0
    go_wp2_with fail
    exact ⟨⟨k,m,rfl,by go_num,by omega,HNB.out,HST.out⟩,by first | (simp [intOf];done) | (simp [intOf];omega)⟩
   | true =>
    have hk:=(HS.out.fine k hb0).1.2.2.1
    have e:s.ro k 1=(s.sh k).k:=by unfold St.ro;rw [hb0];rfl
    rw [e] at o1
    have hkn:((s.sh k).k != 0)=true:=by simp;omega
    have HCB:=Lib.hid (s.chk_bad k hb0)
    generalize (s.sh k).k=kd at *
    obtain ⟨⟨r1,r2⟩,hrr⟩:∃ r,s.chk (k:Int)=r:=⟨_,rfl⟩
    rw [hrr] at HCB HCC
    dsimp only at HCB HCC
    clear e hle hst hr hb0 hrr hk
    by_cases hbd:(r1 != 0)=true
    ·have HNB:Hid (Least (fun i => k ≤ i ∧ s.bad0 i) N k):=Lib.hid (HLE.out.down_yes hkN (HCB.out.1 hbd))
     have HLI:Hid (lw N k=(k:Int)):=Lib.hid (by unfold lw;rw [if_neg (by omega)])
     go_wp2_with fail
     refine HCC.out.mono ?_
     rintro e w2 ⟨rfl,hs2⟩
     have HS2:=Lib.hid (Still.trans HST.out hs2)
     clear hs2
     go_wp2_with fail
     exact ⟨⟨k,k,by rw [HLI.out],by go_num,by omega,HNB.out,HS2.out⟩,by first | (simp [intOf];done) | (simp [intOf];omega)⟩
    ·have HNB:Hid (Least (fun i => k ≤ i ∧ s.bad0 i) N m):=Lib.hid (HLE.out.down_no fun hh => hbd (HCB.out.2 hh))
     have hbd2:(r1 != 0)=false:=by simpa using hbd
     clear hbd
     go_wp2_with fail
     refine HCC.out.mono ?_
     rintro e w2 ⟨rfl,hs2⟩
     have HS2:=Lib.hid (Still.trans HST.out hs2)
     clear hs2
     go_wp2_with fail
     exact ⟨⟨k,m,rfl,by go_num,by omega,HNB.out,HS2.out⟩,by first | (simp [intOf];done) | (simp [intOf];omega)⟩
end Go.Proofs.YtfbcdmhmpfijjaaGreatDoor
namespace Go.Proofs.YtfbcdmhmpfijjaaGreatDoor
open Go Go.RowKit
theorem pgCells_pr (s:St) (i d:Nat) (hi:i < s.n) (hd:d < 3):(pgCells s.P s.n)[i * 3 + d]?=some (.int .i64 (s.pr i d)):=by
 unfold pgCells
 rw [Array.getElem?_ofFn]
 have hlt:i * 3 + d < 3 * s.n:=by omega
 simp only [hlt,dite_true]
 unfold St.pr
 have h1:(i * 3 + d) / 3=i:=by omega
 have h2:(i * 3 + d) % 3=d:=by omega
 simp only [h1,h2]
theorem rwords_copy (w:World) (R:RLay) (s:St) (h:RefAt w R s) :
 ∃ v' w',(Builtin.append_ #[27,27] 27 #[.slice none 0 0,.slice (some ⟨R.wb,0,none⟩) (64 * s.n) R.cw]).run Tryz.prog w=.ok v' w' ∧
  w'.ownsRow w.heap.size 3 1 v' (64 * s.n) ((wdList s.W (64 * s.n)).map (Value.int .i64)) ∧ Still w w':=by
 have h2:=h.n2
 obtain ⟨i0,hi,hz0,hz1,hz2⟩:=info_parts Tryz.infoI5
 obtain ⟨v',w',a1,a2,a3,_⟩:=run_append_own (P:=Tryz.prog) w w.heap.size 27 27 3 i0 _ 1 8 Tryz.underlying27 hi hz0 hz1 hz2 rfl (by decide) (.slice none 0 0) 0 [] (World.ownsRow_nil _ _ _ _)
  ⟨R.wb,0,none⟩ (64 * s.n) R.cw ((wdList s.W (64 * s.n)).map (Value.int .i64)) (by simp [wdList_length]) (fun j u hu => by
   rw [add_at]
   have hj:j < 64 * s.n:=by have:=(List.getElem?_eq_some_iff.1 hu).1;simpa [wdList_length] using this
   rw [h.word hj,← hu,List.getElem?_map]
   unfold wdList
   rw [List.getElem?_map,List.getElem?_range hj];rfl) (fun u hu => by
   obtain ⟨z,_,rfl⟩:=List.mem_map.1 hu
   rfl) (by unfold maxLen;omega) (by omega) (Nat.le_refl _)
 exact ⟨v',w',a1,by simpa using a2,(Only.refl _ _ w).grown a3 (fun k hk => by cases hk)⟩
theorem rpages_copy (w:World) (R:RLay) (s:St) (h:RefAt w R s) :
 ∃ v' w',(Builtin.append_ #[70,70] 70 #[.slice none 0 0,.slice (some ⟨R.pb,0,none⟩) s.n R.cp]).run Tryz.prog w=.ok v' w' ∧
  w'.ownsRow w.heap.size 146 3 v' s.n (pgCells s.P s.n).toList ∧ Still w w':=by
 have h2:=h.n2
 obtain ⟨i0,hi,hz0,hz1,hz2⟩:=info_parts Tryz.infoPg
 obtain ⟨v',w',a1,a2,a3,_⟩:=run_append_own (P:=Tryz.prog) w w.heap.size 70 70 146 i0 _ 3 24 Tryz.underlying70 hi hz0 hz1 hz2 rfl (by decide) (.slice none 0 0) 0 [] (World.ownsRow_nil _ _ _ _)
  ⟨R.pb,0,none⟩ s.n R.cp (pgCells s.P s.n).toList (by rw [Array.length_toList,pgCells_size];omega) (fun j u hu => by
   rw [add_at]
   have hj:j < 3 * s.n:=by have:=(List.getElem?_eq_some_iff.1 hu).1;rwa [Array.length_toList,pgCells_size] at this
   rw [Array.getElem?_toList] at hu
   have e:j=j / 3 * 3 + j % 3:=by omega
   rw [e] at hu ⊢
   rw [h.pages.cell (i:=j / 3) (d:=j % 3) (by omega) (by omega),← hu,pgCells_pr s _ _ (by omega) (by omega)]) (fun u hu => by
   obtain ⟨j,hj⟩:=List.getElem?_of_mem hu
   rw [Array.getElem?_toList] at hj
   have hj2:j < 3 * s.n:=by have:=(Array.getElem?_eq_some_iff.1 hj).1;rwa [pgCells_size] at this
   rw [pgCells_at _ _ _ hj2] at hj
   obtain rfl:=Option.some.inj hj
   rfl) (by unfold maxLen;omega) (by omega) (Nat.le_refl _)
 exact ⟨v',w',a1,by simpa using a2,(Only.refl _ _ w).grown a3 (fun k hk => by cases hk)⟩
set_option maxRecDepth 100000 in
set_option maxHeartbeats 3200000 in
theorem rblocks_of (w:World) (R:RLay) (s:St) (h:RefAt w R s) (hs:s.RefOk) :
 Calls Tryz.prog 32 #[.pointer (some ⟨R.rb,0,none⟩)] w fun e w' => (∃ v,e=.returned v ∧ w'.ownsRow w.heap.size 95 5 v s.blks.length (obCells s.blks)) ∧ Still w w':=by
 have HR:=Lib.hid (fun W (hw:Still w W) => h.still hw)
 have HS:=Lib.hid hs
 have hn1:=h.n1
 have hn2:=h.n2
 obtain ⟨B0,hB0⟩:∃ B0,w.heap.size=B0:=⟨_,rfl⟩
 have HB0:=Lib.hid hB0
 have HBS:Hid (s.blks=s.blk (64 * s.n)):=Lib.hid rfl
 have HBL:=Lib.hid (fun a => s.blk_len a)
 rw [hB0]
 obtain ⟨N,hN⟩:∃ N,64 * s.n=N:=⟨_,rfl⟩
 have HN:=Lib.hid hN
 have hNM:(N:Int) ≤ 262144:=by omega
 clear h hs hn1 hn2 hB0
 rw [hN] at HBS
 clear hN
 go_enter Tryz.func32,Tryz.ntmps32
 go_wp2_with fail
 go_loopw [3,4] (fun x y W => ∃ i:Nat,y=.int .i64 (i:Int) ∧ i ≤ N ∧ W.ownsRow B0 95 5 x (s.blk i).length (obCells (s.blk i)) ∧ Still w W) (fun _ y _ => N + 1 - (intOf y).toNat)
 case atStart => exact ⟨0,rfl,Nat.zero_le _,World.ownsRow_nil _ _ _ _,Only.refl _ _ _⟩
 case round =>
  obtain ⟨i,rfl,hi,hown,hst⟩:=hrel
  have hi0:(0:Int) ≤ (i:Int):=by omega
  have HST:=Lib.hid hst
  have HOW:=Lib.hid hown
  have hr:=HR.out _ hst
  have c2:=hr.c2
  obtain ⟨l1,l2,l3,l4,l5⟩:=hr.lts
  rw [HN.out] at c2
  by_cases hin:i < N
  ·have hiI:(i:Int) < (N:Int):=by omega
   have hiN:i < 64 * s.n:=by rw [HN.out];exact hin
   have o1:=hr.objs.cell hiN (d:=1) (by omega)
   have hsu:s.blk (i + 1)=if s.B 0 i then s.blk i ++ [⟨i,s.sh i⟩] else s.blk i:=rfl
   cases hb0:s.B 0 i with
   | false =>
    have e:s.ro i 1=0:=by unfold St.ro;rw [hb0];rfl
    rw [hb0,if_neg (by decide)] at hsu
    rw [e] at o1
    have HSU:=Lib.hid hsu
    clear e hb0 hsu hr hst hown
    go_wp2_with fail
    exact ⟨⟨i + 1,by go_num,hin,by rw [HSU.out];exact HOW.out,HST.out⟩,by first | (simp [intOf];done) | (simp [intOf];omega)⟩
   | true =>
    rw [hb0,if_pos rfl] at hsu
    have hk:=(HS.out.fine i hb0).1.2.2.1
    have o0:=hr.objs.cell hiN (d:=0) (by omega)
    have o2:=hr.objs.cell hiN (d:=2) (by omega)
    have o3:=hr.objs.cell hiN (d:=3) (by omega)
    have o4:=hr.objs.cell hiN (d:=4) (by omega)
    have e:∀ d,s.ro i d=if d=0 then (i:Int) else if d=1 then (s.sh i).k else if d=2 then (s.sh i).z else if d=3 then (s.sh i).s else (s.sh i).t:=fun d => by unfold St.ro;rw [if_pos hb0]
    rw [e,Nat.add_zero] at o0
    rw [e] at o1 o2 o3 o4
    change _=some (Value.int IntKind.i64 (i:Int)) at o0
    change _=some (Value.int IntKind.i64 (s.sh i).k) at o1
    change _=some (Value.int IntKind.i64 (s.sh i).z) at o2
    change _=some (Value.int IntKind.i64 (s.sh i).s) at o3
    change _=some (Value.int IntKind.i64 (s.sh i).t) at o4
    obtain ⟨⟨k,z,r,t⟩,hx⟩:∃ x,s.sh i=x:=⟨_,rfl⟩
    rw [hx] at hk o1 o2 o3 o4 hsu
    dsimp only at hk o1 o2 o3 o4
    have hkn:(k != 0)=true:=by simp;omega
    have hbl:=HBL.out i
    obtain ⟨x',w5,happ,hown5,ho5,hs5,_,_⟩:=ob_append wr B0 (s.blk i) u3 hown (by rw [← HB0.out];exact hst.size) (by omega) ⟨i,⟨k,z,r,t⟩⟩
    have HST5:Hid (Still w w5):=Lib.hid (hst.trans' ho5 (.inr (Nat.le_of_eq HB0.out)) (.inr (Nat.le_of_eq HB0.out)))
    have HAPP:=Lib.hid happ
    rw [← hsu] at hown5
    have HOW5:=Lib.hid hown5
    clear e hb0 hsu hr hst hown hx happ hown5 ho5 hs5 hbl hk
    go_wp2_with (first | (at_builtin;refine wpList_append_eq rfl _ _ 62 rfl _ _ _ _ rfl rfl HAPP.out ?_))
    exact ⟨⟨i + 1,by go_num,hin,HOW5.out,HST5.out⟩,by first | (simp [intOf];done) | (simp [intOf];omega)⟩
  ·obtain rfl:i=N:=by omega
   rw [← HBS.out] at HOW
   clear hr hst hown
   go_wp2_with fail
   go_ret
   exact ⟨⟨_,rfl,HOW.out⟩,HST.out⟩
set_option maxRecDepth 100000 in
set_option maxHeartbeats 3200000 in
theorem rroom_of (w:World) (R:RLay) (s:St) (h:RefAt w R s) (hs:s.RefOk) :
 Calls Tryz.prog 37 #[.pointer (some ⟨R.rb,0,none⟩)] w fun e w' => e=.returned (.int .i64 (sumTo (fun a:Nat => if s.B 0 a then Sp.wide (s.sh a).z else 0) (64 * s.n))) ∧ Still w w':=by
 have HR:=Lib.hid (fun W (hw:Still w W) => h.still hw)
 have HS:=Lib.hid hs
 have hn1:=h.n1
 have hn2:=h.n2
 have HRM:=Lib.hid (fun z h1 h2 W => rroom_any z h1 h2 W)
 obtain ⟨f,hf⟩:∃ f,(fun a:Nat => if s.B 0 a then Sp.wide (s.sh a).z else 0)=f:=⟨_,rfl⟩
 have HF:Hid (∀ a,f a=if s.B 0 a then Sp.wide (s.sh a).z else 0):=Lib.hid fun a => by rw [← hf]
 rw [hf]
 have HSB:Hid (∀ i,0 ≤ sumTo f i ∧ sumTo f i ≤ 1024 * (i:Int)):=Lib.hid (by
  have h0:∀ a,0 ≤ f a ∧ f a ≤ 1024:=fun a => by
   rw [HF.out]
   have:=Sp.wide_le (s.sh a).z
   split <;> omega
  intro i
  induction i with
  | zero => exact ⟨Int.le_refl _,Int.le_refl _⟩
  | succ i ih =>
   have:=h0 i
   show 0 ≤ sumTo f i + f i ∧ sumTo f i + f i ≤ _
   omega)
 obtain ⟨N,hN⟩:∃ N,64 * s.n=N:=⟨_,rfl⟩
 have HN:=Lib.hid hN
 have hNM:(N:Int) ≤ 262144:=by omega
 rw [hN]
 clear h hs hn1 hn2 hf hN
 go_enter Tryz.func37,Tryz.ntmps37
 go_wp2_with fail
 go_loopw [3,4] (fun x y W => ∃ i:Nat,x=.int .i64 (sumTo f i) ∧ y=.int .i64 (i:Int) ∧ i ≤ N ∧ Still w W) (fun _ y _ => N + 1 - (intOf y).toNat)
 case atStart => exact ⟨0,rfl,rfl,Nat.zero_le _,Only.refl _ _ _⟩
 case round =>
  obtain ⟨i,rfl,rfl,hi,hst⟩:=hrel
  have hi0:(0:Int) ≤ (i:Int):=by omega
  have HST:=Lib.hid hst
  have hr:=HR.out _ hst
  have c2:=hr.c2
  obtain ⟨l1,l2,l3,l4,l5⟩:=hr.lts
  rw [HN.out] at c2
  by_cases hin:i < N
  ·have hiI:(i:Int) < (N:Int):=by omega
   have hiN:i < 64 * s.n:=by rw [HN.out];exact hin
   have o1:=hr.objs.cell hiN (d:=1) (by omega)
   have hsu:sumTo f (i + 1)=sumTo f i + f i:=rfl
   have hbd:=HSB.out i
   cases hb0:s.B 0 i with
   | false =>
    have e:s.ro i 1=0:=by unfold St.ro;rw [hb0];rfl
    rw [HF.out,hb0,if_neg (by decide),Int.add_zero] at hsu
    rw [e] at o1
    have HSU:=Lib.hid hsu
    clear e hb0 hsu hr hst
    generalize sumTo f i=x at *
    go_wp2_with fail
    exact ⟨⟨i + 1,by rw [HSU.out],by go_num,hin,HST.out⟩,by first | (simp [intOf];done) | (simp [intOf];omega)⟩
   | true =>
    obtain ⟨_,_,hk,_,hz1,hz2⟩:=(HS.out.fine i hb0).1
    rw [HF.out,hb0,if_pos rfl] at hsu
    have o2:=hr.objs.cell hiN (d:=2) (by omega)
    have e:∀ d,s.ro i d=if d=0 then (i:Int) else if d=1 then (s.sh i).k else if d=2 then (s.sh i).z else if d=3 then (s.sh i).s else (s.sh i).t:=fun d => by unfold St.ro;rw [if_pos hb0]
    rw [e] at o1 o2
    change _=some (Value.int IntKind.i64 (s.sh i).k) at o1
    change _=some (Value.int IntKind.i64 (s.sh i).z) at o2
    have hkn:((s.sh i).k != 0)=true:=by simp;omega
    have hww:=Sp.wide_le (s.sh i).z
    have HRR:=Lib.hid (fun W => HRM.out (s.sh i).z hz1 hz2 W)
    generalize (s.sh i).k=kd at *
    generalize Sp.wide (s.sh i).z=wd at *
    generalize (s.sh i).z=z at *
    generalize sumTo f i=x at *
    have HSU:=Lib.hid hsu
    have hx1:=hbd.1
    have hx2:x ≤ 1024 * 262144:=by omega
    have hw1:=hww.1
    have hw2:=hww.2
    clear e hb0 hsu hr hst hk hbd hww
    go_wp2_with fail
    refine (HRR.out _).mono ?_
    rintro e w1 ⟨rfl,rfl⟩
    go_wp2_with fail
    exact ⟨⟨i + 1,by rw [HSU.out],by go_num,hin,HST.out⟩,by first | (simp [intOf];done) | (simp [intOf];omega)⟩
  ·obtain rfl:i=N:=by omega
   clear hr hst
   go_wp2_with fail
   go_ret
   exact ⟨rfl,HST.out⟩
end Go.Proofs.YtfbcdmhmpfijjaaGreatDoor
namespace Go.Proofs.YtfbcdmhmpfijjaaGreatDoor
open Go Go.RowKit
theorem pnew_no (n:Int) (w:World) (h:n < 1 ∨ 4096 < n) :
 Calls Tryz.prog 44 #[.int .i64 n] w fun e w' => e=.returned (.tuple #[.pointer none,.int .i64 1]) ∧ w=w':=by
 rcases h with h | h
 ·go_enter Tryz.func44,Tryz.ntmps44
  go_wp2_with fail
  go_ret2
  exact ⟨rfl,rfl⟩
 ·have h1:decide (n < 1)=false:=decide_eq_false (by omega)
  go_enter Tryz.func44,Tryz.ntmps44
  go_wp2_with fail
  go_ret2
  exact ⟨rfl,rfl⟩
theorem snew_no (n:Int) (w:World) (h:n < 1 ∨ 4096 < n) :
 Calls Tryz.prog 16 #[.int .i64 n] w fun e w' => e=.returned (.tuple #[.pointer none,.int .i64 1]) ∧ w=w':=by
 have HP:=Lib.hid (pnew_no n w h)
 clear h
 go_enter Tryz.func16,Tryz.ntmps16
 go_wp2_with fail
 refine HP.out.mono ?_
 rintro e w1 ⟨rfl,rfl⟩
 go_wp2_with fail
 go_ret2
 exact ⟨rfl,rfl⟩
theorem rtnew_no (n:Int) (w:World) (h:n < 1 ∨ 4096 < n) :
 Calls Tryz.prog 46 #[.int .i64 n] w fun e w' => e=.returned (.tuple #[.pointer none,.int .i64 1]) ∧ w=w':=by
 rcases h with h | h
 ·go_enter Tryz.func46,Tryz.ntmps46
  go_wp2_with fail
  go_ret2
  exact ⟨rfl,rfl⟩
 ·have h1:decide (n < 1)=false:=decide_eq_false (by omega)
  go_enter Tryz.func46,Tryz.ntmps46
  go_wp2_with fail
  go_ret2
  exact ⟨rfl,rfl⟩
theorem rnew_no (n:Int) (w:World) (h:n < 1 ∨ 4096 < n) :
 Calls Tryz.prog 18 #[.int .i64 n] w fun e w' => e=.returned (.tuple #[.pointer none,.int .i64 1]) ∧ w=w':=by
 have HP:=Lib.hid (rtnew_no n w h)
 clear h
 go_enter Tryz.func18,Tryz.ntmps18
 go_wp2_with fail
 refine HP.out.mono ?_
 rintro e w1 ⟨rfl,rfl⟩
 go_wp2_with fail
 go_ret2
 exact ⟨rfl,rfl⟩
abbrev tblObj (pb n:Nat):Obj:=.cells #[.slice (some ⟨pb,0,none⟩) n n] 127 (0,0)
abbrev pgsObj (n:Nat):Obj:=.cells (pgCells (fun _ => ⟨0,0,0⟩) n) 146 (0,0)
set_option maxHeartbeats 800000 in
theorem rtnew_yes (n:Nat) (w:World) (h1:1 ≤ n) (h2:n ≤ 4096) :
 Calls Tryz.prog 46 #[.int .i64 (n:Int)] w fun e w' => e=.returned (.tuple #[.pointer (some ⟨w.heap.size + 1,0,none⟩),.int .i64 0]) ∧ w'=(w.alloc (pgsObj n)).alloc (tblObj w.heap.size n):=by
 obtain ⟨i0,hi,hz0,hz1,hz2⟩:=info_parts Tryz.infoPg
 have hn0:(0:Int) ≤ (n:Int):=by omega
 have hmk:=run_make (P:=Tryz.prog) w 70 146 i0 (.agg #[.int .i64 0,.int .i64 0,.int .i64 0]) Tryz.underlying70 hi hz0 .i64 .i64 (n:Int) (n:Int) (by omega) (Int.le_refl _) (by rw [hz2];omega) (by omega)
 rw [hz1,Int.toNat_natCast,show (Value.agg #[Value.int .i64 0,.int .i64 0,.int .i64 0]).cells=#[Value.int .i64 0,.int .i64 0,.int .i64 0] from rfl,made_pages] at hmk
 have hd1:decide ((n:Int) < 1)=false:=decide_eq_false (by omega)
 have hd2:decide ((4096:Int) < (n:Int))=false:=decide_eq_false (by omega)
 clear hi hz0 hz1 hz2
 go_enter Tryz.func46,Tryz.ntmps46
 go_wp2
 go_ret2
 exact ⟨by simp,rfl⟩
theorem made_cells (k N j:Nat) (hk:0 < k) (hj:j < N * k) (z:Array Value) (hz:z.size=k) (hz0:∀ d,d < k → z[d]?=some (.int .i64 0)):(madeCells z (N * k))[j]?=some (.int .i64 0):=by
 have hs:j < (madeCells z (N * k)).size:=by rw [size_madeCells];exact hj
 rw [Array.getElem?_eq_getElem hs]
 unfold madeCells
 have hm:j % k < k:=Nat.mod_lt _ hk
 have:=hz0 (j % k) hm
 simp [hz,getElem!_def,this]
theorem RefAt.fresh {w:World} {n tb pb wb ob rb:Nat} {lo hi:Nat} (h1:1 ≤ n) (h2:n ≤ 4096) (hok:(⟨lo,hi,rb,tb,wb,pb,ob,64 * n,n,64 * n⟩:RLay).Ok) (ht:hi ≤ w.heap.size)
 (e1:w.heap[rb]?=some (.cells #[.slice (some ⟨wb,0,none⟩) (64 * n) (64 * n),.pointer (some ⟨tb,0,none⟩),.slice (some ⟨ob,0,none⟩) (64 * n) (64 * n),.int .i64 0] 66 (0,0)))
 (e2:w.heap[tb]?=some (tblObj pb n)) (e3:w.heap[pb]?=some (pgsObj n)) (e4:w.heap[wb]?=some (.cells (madeCells #[.int .i64 0] (64 * n * 1)) 3 (0,0)))
 (e5:w.heap[ob]?=some (.cells (madeCells #[.int .i64 0,.int .i64 0,.int .i64 0,.int .i64 0,.int .i64 0] (64 * n * 5)) 95 (0,0))):RefAt w ⟨lo,hi,rb,tb,wb,pb,ob,64 * n,n,64 * n⟩ (St.new n):=by
 refine ⟨hok,ht,h1,h2,e1,e2,⟨_,e4,fun i hi d hd => ?_⟩,⟨_,e3,fun i hi d hd => ?_⟩,⟨_,e5,fun i hi d hd => ?_⟩⟩
 ·have hi':i < 64 * n:=hi
  refine made_cells 1 (64 * n) (i * 1 + d) (by omega) (by omega) _ rfl (fun d' hd' => ?_)
  have hd0:d'=0:=by omega
  subst hd0
  rfl
 ·have hi':i < n:=hi
  have:=pgCells_at (fun _ => ⟨0,0,0⟩) n (i * 3 + d) (by omega)
  rw [this]
  unfold St.pr
  have h3:d=0 ∨ d=1 ∨ d=2:=by omega
  rcases h3 with rfl | rfl | rfl <;> simp [St.new]
 ·have e:(St.new n).ro i d=0:=rfl
  rw [e]
  exact made_cells 5 (64 * n) (i * 5 + d) (by omega) (by have:i < 64 * n:=hi;omega) _ rfl (fun d hd => by
   have h5:d=0 ∨ d=1 ∨ d=2 ∨ d=3 ∨ d=4:=by omega
   rcases h5 with rfl | rfl | rfl | rfl | rfl <;> rfl)
theorem alloc3 (w:World) (a b c:Obj):(((w.alloc a).alloc b).alloc c).heap[w.heap.size]?=some a ∧ (((w.alloc a).alloc b).alloc c).heap[w.heap.size + 1]?=some b ∧ (((w.alloc a).alloc b).alloc c).heap[w.heap.size + 1 + 1]?=some c:=by
 refine ⟨?_,?_,?_⟩
 ·rw [heap_alloc_old _ _ (by simp;omega),heap_alloc_old _ _ (by simp)]
  exact heap_alloc_new w a
 ·rw [heap_alloc_old _ _ (by simp)]
  have:=heap_alloc_new (w.alloc a) b
  rwa [World.size_alloc] at this
 ·have:=heap_alloc_new ((w.alloc a).alloc b) c
  rwa [World.size_alloc,World.size_alloc] at this
set_option maxRecDepth 100000 in
set_option maxHeartbeats 3200000 in
theorem rnew_yes (n:Nat) (w:World) (h1:1 ≤ n) (h2:n ≤ 4096) (h0:0 < w.heap.size) (Q:Ending → World → Prop)
 (hQ:∀ w' (R:RLay),R.lo=w.heap.size → RefAt w' R (St.new n) → Still w w' → Q (.returned (.tuple #[.pointer (some ⟨R.rb,0,none⟩),.int .i64 0])) w') :
 Calls Tryz.prog 18 #[.int .i64 (n:Int)] w Q:=by
 have HQ:=Lib.hid hQ
 clear hQ
 have HP:=Lib.hid (rtnew_yes n w h1 h2)
 obtain ⟨i0,hi,hz0,hz1,hz2⟩:=info_parts Tryz.infoI5
 obtain ⟨i1,hi1,hy0,hy1,hy2⟩:=info_parts Tryz.infoBlk
 have hN0:(0:Int) ≤ (n:Int) * 64:=by omega
 obtain ⟨N,hN⟩:∃ N,64 * n=N:=⟨_,rfl⟩
 have hmw:∀ w,(Instr.makeSlice 27 (.int .i64 ((n:Int) * 64)) (.int .i64 ((n:Int) * 64))).run Tryz.prog w=.ok (.slice (some ⟨w.heap.size,0,none⟩) N N) (w.alloc (.cells (madeCells #[.int .i64 0] (N * 1)) 3)):=fun w => by
  have hmk:=run_make (P:=Tryz.prog) w 27 3 i0 (.int .i64 0) Tryz.underlying27 hi hz0 .i64 .i64 ((n:Int) * 64) ((n:Int) * 64) hN0 (Int.le_refl _) (by rw [hz2];omega) (by omega)
  rw [hz1,show ((n:Int) * 64).toNat=N by omega] at hmk
  exact hmk
 have hmo:∀ w,(Instr.makeSlice 62 (.int .i64 ((n:Int) * 64)) (.int .i64 ((n:Int) * 64))).run Tryz.prog w=.ok (.slice (some ⟨w.heap.size,0,none⟩) N N) (w.alloc (.cells (madeCells #[.int .i64 0,.int .i64 0,.int .i64 0,.int .i64 0,.int .i64 0] (N * 5)) 95)):=fun w => by
  have hmk:=run_make (P:=Tryz.prog) w 62 95 i1 (.agg #[.int .i64 0,.int .i64 0,.int .i64 0,.int .i64 0,.int .i64 0]) Tryz.underlying62 hi1 hy0 .i64 .i64 ((n:Int) * 64) ((n:Int) * 64) hN0 (Int.le_refl _) (by rw [hy2];omega) (by omega)
  rw [hy1,show ((n:Int) * 64).toNat=N by omega] at hmk
  exact hmk
 have hn0:(0:Int) ≤ (n:Int):=by omega
 have hnM:(n:Int) ≤ 4096:=by omega
 have HMW:=Lib.hid hmw
 have HMO:=Lib.hid hmo
 clear hi hz0 hz1 hz2 hi1 hy0 hy1 hy2 hN0 hmw hmo
 go_enter Tryz.func18,Tryz.ntmps18
 go_wp2_with fail
 refine HP.out.mono ?_
 rintro e w1 ⟨rfl,hw1⟩
 have hs1:w1.heap.size=w.heap.size + 2:=by rw [hw1];simp
 have hS1:Still w w1:=by rw [hw1];exact ((Only.refl _ _ w).alloc _).alloc _
 have hb0:w1.heap[w.heap.size]?=some (pgsObj n):=by
  rw [hw1]
  exact (heap_alloc_old (w.alloc _) _ (by simp)).trans (heap_alloc_new w _)
 have hb1:w1.heap[w.heap.size + 1]?=some (tblObj w.heap.size n):=by
  rw [hw1]
  have:=heap_alloc_new (w.alloc (pgsObj n)) (tblObj w.heap.size n)
  rwa [World.size_alloc] at this
 have HB:=Lib.hid (And.intro hb0 (And.intro hb1 (And.intro hS1 hs1)))
 clear hw1 hb0 hb1 hS1 hs1
 have hmw:=HMW.out
 have hmo:=HMO.out
 go_wp2_with fail
 go_region
 all_goals
  go_wp2_with fail
  obtain ⟨hb0,hb1,hS1,hs1⟩:=HB.out
  subst hN
 ·obtain ⟨e1,e2,e3⟩:=alloc3 w1 (.cells (madeCells #[.int .i64 0] (64 * n)) 3) (.cells (madeCells #[.int .i64 0,.int .i64 0,.int .i64 0,.int .i64 0,.int .i64 0] (64 * n * 5)) 95) (.cells #[.slice (some ⟨w1.heap.size,0,none⟩) (64 * n) (64 * n),.pointer (some ⟨w.heap.size + 1,0,none⟩),.slice (some ⟨w1.heap.size + 1,0,none⟩) (64 * n) (64 * n),.int .i64 0] 66)
  refine HQ.out _ ⟨w.heap.size,w1.heap.size + 3,w1.heap.size + 1 + 1,w.heap.size + 1,w1.heap.size,w.heap.size,w1.heap.size + 1,64 * n,n,64 * n⟩ rfl (RefAt.fresh h1 h2 ?_ (by simp) e3 ?_ ?_ (by rw [Nat.mul_one];exact e1) e2) ((((hS1.alloc _).alloc _).alloc _).drew)
  ·constructor <;> dsimp only <;> omega
  ·exact (heap_alloc_old _ _ (by simp;omega)).trans ((heap_alloc_old _ _ (by simp;omega)).trans ((heap_alloc_old _ _ (by omega)).trans hb1))
  ·exact (heap_alloc_old _ _ (by simp;omega)).trans ((heap_alloc_old _ _ (by simp;omega)).trans ((heap_alloc_old _ _ (by omega)).trans hb0))
 ·obtain ⟨e1,e2,e3⟩:=alloc3 w1 (.cells (madeCells #[.int .i64 0,.int .i64 0,.int .i64 0,.int .i64 0,.int .i64 0] (64 * n * 5)) 95) (.cells (madeCells #[.int .i64 0] (64 * n)) 3) (.cells #[.slice (some ⟨w1.heap.size + 1,0,none⟩) (64 * n) (64 * n),.pointer (some ⟨w.heap.size + 1,0,none⟩),.slice (some ⟨w1.heap.size,0,none⟩) (64 * n) (64 * n),.int .i64 0] 66)
  refine HQ.out _ ⟨w.heap.size,w1.heap.size + 3,w1.heap.size + 1 + 1,w.heap.size + 1,w1.heap.size + 1,w.heap.size,w1.heap.size,64 * n,n,64 * n⟩ rfl (RefAt.fresh h1 h2 ?_ (by simp) e3 ?_ ?_ (by rw [Nat.mul_one];exact e2) e1) ((((hS1.alloc _).alloc _).alloc _).drew)
  ·constructor <;> dsimp only <;> omega
  ·exact (heap_alloc_old _ _ (by simp;omega)).trans ((heap_alloc_old _ _ (by simp;omega)).trans ((heap_alloc_old _ _ (by omega)).trans hb1))
  ·exact (heap_alloc_old _ _ (by simp;omega)).trans ((heap_alloc_old _ _ (by simp;omega)).trans ((heap_alloc_old _ _ (by omega)).trans hb0))
end Go.Proofs.YtfbcdmhmpfijjaaGreatDoor
