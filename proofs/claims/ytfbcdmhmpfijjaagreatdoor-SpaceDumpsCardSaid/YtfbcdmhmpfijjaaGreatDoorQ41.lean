/-
  Alloc of a pair: what it answers, and that both spaces answer so.
-/
import Derived.Laws.Rows
import Derived.Test.YtfbcdmhmpfijjaaGreatDoorQ32
import Derived.Test.YtfbcdmhmpfijjaaGreatDoorQ40
import Derived.Test.YtfbcdmhmpfijjaaGreatDoorQ25
import Derived.Test.YtfbcdmhmpfijjaaGreatDoorQ38
import Derived.Test.YtfbcdmhmpfijjaaGreatDoorQ34
set_option linter.unusedVariables false
set_option linter.unusedSimpArgs false
set_option linter.unusedSectionVars false
namespace Go.Proofs.YtfbcdmhmpfijjaaGreatDoor
open Go Go.RowKit
set_option maxHeartbeats 1600000 in
theorem alike_same (x y:Int) (w:World) :
 Calls Tryz.prog 57 #[faultV x y,faultV x y] w fun e w' => e=.returned (.bool true) ∧ Still w w':=by
 go_enter Tryz.func57,Tryz.ntmps57
 go_wp2_with fail
 go_ret
 exact ⟨rfl,by repeat first | exact Only.refl _ _ _ | apply Only.drew | (refine Only.setCell ?_ (.inr (Nat.le_refl _)) _) | apply Only.alloc⟩
def St.nth (s:St) (x:Int):Int:=if s.blks.length=0 then -1 else ((s.blks.getD (wi x (s.blks.length:Int)).toNat ob0).at':Int)
set_option maxRecDepth 100000 in
set_option maxHeartbeats 3200000 in
theorem nth_any (w:World) (pb:Nat) (L:Lay) (R:RLay) (s:St) (own:Nat → Lb) (qf:Nat → Nat) (C:Nat) (h:PairAt w pb L R s own qf C) (x:Int) (hx:(Lit.int .i64 x).wf=true) :
 Calls Tryz.prog 23 #[.pointer (some ⟨pb,0,none⟩),.int .i64 x] w fun e w' => e=.returned (.int .i64 (s.nth x)) ∧ Still w w':=by
 obtain ⟨hx1,hx2⟩:=wf_i64 hx
 have HB:=Lib.hid (rblocks_of w R s h.rf h.iv.refOk)
 have hlen:s.blks.length ≤ 64 * s.n:=s.blk_len (64 * s.n)
 have h24:=h.n24
 have k1:=h.c1
 have hpl:=h.lt
 obtain ⟨n,hn⟩:∃ n,s.blks.length=n:=⟨_,rfl⟩
 rw [hn] at HB hlen
 have HN:=Lib.hid hn
 have hnM:n ≤ 1536:=by omega
 clear h hx hn hlen h24
 go_enter Tryz.func23,Tryz.ntmps23
 go_wp2_with fail
 refine HB.out.mono ?_
 rintro e w1 ⟨⟨v,rfl,hv⟩,hs⟩
 have HS:=Lib.hid hs
 obtain ⟨ao,cp,rfl⟩:=own_form hv
 by_cases h0:n=0
 ·have hn0:((n:Int) == 0)=true:=by simp [h0]
  have HE:Hid (s.nth x=-1):=Lib.hid (by unfold St.nth;rw [HN.out,if_pos h0])
  clear hv hs
  go_wp2_with fail
  go_ret
  exact ⟨by rw [HE.out];rfl,HS.out⟩
 ·have hn0:((n:Int) == 0)=false:=by simp;omega
  have hr:=wi_range x n (by omega)
  have HE:Hid (s.nth x=((s.blks.getD (wi x (n:Int)).toNat ob0).at':Int)):=Lib.hid (by unfold St.nth;rw [HN.out,if_neg h0])
  obtain ⟨g,rfl,_,hg,hc⟩:=obs_at hv HN.out.symm (by omega)
  obtain ⟨i,hi⟩:=Int.eq_ofNat_of_zero_le hr.1
  rw [hi,Int.toNat_natCast] at HE
  have hin:i < n:=by omega
  have hcell:=hc i 0 hin (by omega)
  rw [Nat.add_zero] at hcell
  change w1.cell? ⟨g,i * 5,none⟩=some (.int .i64 ((s.blks.getD i ob0).at':Int)) at hcell
  have HW:=Lib.hid (within_any x n w1 hx1 hx2 (by omega) (by omega))
  rw [hi] at HW
  have hi0:(0:Int) ≤ (i:Int):=by omega
  have hiI:(i:Int) < (n:Int):=by omega
  generalize ((s.blks.getD i ob0).at':Int)=y at *
  clear hv hs hc hr hi hin h0
  go_wp2_with fail
  refine HW.out.mono ?_
  rintro e w2 ⟨rfl,rfl⟩
  go_wp2_with fail
  go_ret
  exact ⟨by rw [HE.out];rfl,HS.out⟩
end Go.Proofs.YtfbcdmhmpfijjaaGreatDoor
namespace Go.Proofs.YtfbcdmhmpfijjaaGreatDoor
open Go Go.RowKit
section
variable {s:St} {z:Int}
theorem tk_none (h:(s.pl z).1 < 0):s.take z=({ s with low:=s.ff },0,20,0):=by
 unfold St.pl at h
 unfold St.take
 by_cases h8:Sp.cls z=8
 ·rw [if_pos h8] at h ⊢
  cases e:s.runAt (Sp.pgs z).toNat with
  | none => rfl
  | some q =>
   rw [e] at h
   have h:((q * 64:Nat):Int) < 0:=h
   omega
 ·rw [if_neg h8] at h ⊢
  by_cases hd:0 ≤ s.hd0 (Sp.cls z).toNat
  ·rw [if_pos hd] at h
   have h:s.hd0 (Sp.cls z).toNat < 0:=h
   omega
  ·rw [if_neg hd] at h ⊢
   by_cases hf:s.ff=s.n
   ·rw [if_pos hf]
   ·rw [if_neg hf] at h
    have h:((s.ff * 64:Nat):Int) < 0:=h
    omega
theorem open_link (s:St) {c:Nat} (hc:c < 8):(s.open c).W (s.ff * 64)=(s.open c).link c ((s.ff * 64:Nat):Int):=by
 have hcw:=Sp.cw_le c hc
 have e:(s.open c).W=cutW (clrW s.W (s.ff * 64) 64) (fun a => (({ s with P:=setPg s.P s.ff ⟨1,c,0⟩,low:=s.ff }:St).cut1 s.ff c (Sp.bk c)).link c a) (s.ff * 64) (Sp.cw c) (Sp.bk c):=rfl
 have:=cutW_in (clrW s.W (s.ff * 64) 64) (fun a => (({ s with P:=setPg s.P s.ff ⟨1,c,0⟩,low:=s.ff }:St).cut1 s.ff c (Sp.bk c)).link c a) (s.ff * 64) (Sp.cw c) (by omega) 0 (Sp.bk c) (by omega)
 rw [Nat.zero_mul,Nat.add_zero] at this
 rw [e,this]
 rfl
theorem tk_some {a:Nat} {fr:Bool} (hz1:1 ≤ z) (hz2:z ≤ 1024) (h:s.pl z=((a:Int),fr)) (hl:Sp.cls z=8 ∨ fr=true ∨ s.W a=s.link (Sp.cls z).toNat a):s.take z=(s.takeF z,(a:Int),0,0):=by
 have hcl:=Sp.cls_in hz1 hz2
 unfold St.pl at h
 unfold St.take St.takeF
 by_cases h8:Sp.cls z=8
 ·rw [if_pos h8] at h ⊢
  rw [if_pos h8]
  cases e:s.runAt (Sp.pgs z).toNat with
  | none =>
   rw [e] at h
   injection h with h _
   omega
  | some q =>
   rw [e] at h
   injection h with h _
   rw [← h]
 ·rw [if_neg h8] at h ⊢
  rw [if_neg h8]
  by_cases hd:0 ≤ s.hd0 (Sp.cls z).toNat
  ·rw [if_pos hd] at h ⊢
   rw [if_pos hd]
   injection h with h1 h2
   rw [← h2] at hl
   have hl:=(hl.resolve_left h8).resolve_left (by decide)
   rw [h1,Int.toNat_natCast]
   unfold St.pick
   rw [if_pos hl]
  ·rw [if_neg hd] at h ⊢
   rw [if_neg hd]
   by_cases hf:s.ff=s.n
   ·rw [if_pos hf] at h
    injection h with h _
    omega
   ·rw [if_neg hf] at h ⊢
    injection h with h1 h2
    unfold St.pick
    rw [if_pos (open_link s (by omega)),h1]
theorem tk_bad {a:Nat} (hz1:1 ≤ z) (hz2:z ≤ 1024) (h:s.pl z=((a:Int),false)) (h8:Sp.cls z ≠ 8) (hl:s.W a ≠ s.link (Sp.cls z).toNat a):s.take z=(s,0,21,(a:Int)):=by
 have hcl:=Sp.cls_in hz1 hz2
 unfold St.pl at h
 unfold St.take
 rw [if_neg h8] at h ⊢
 by_cases hd:0 ≤ s.hd0 (Sp.cls z).toNat
 ·rw [if_pos hd] at h ⊢
  injection h with h1 h2
  rw [h1,Int.toNat_natCast]
  unfold St.pick
  rw [if_neg hl]
 ·rw [if_neg hd] at h
  by_cases hf:s.ff=s.n
  ·rw [if_pos hf] at h
   injection h with h _
   omega
  ·rw [if_neg hf] at h
   injection h with _ h2
   cases h2
theorem takeF_words (s:St) (V:Nat → Int) (z:Int):∃ V',({ s with W:=V }:St).takeF z={ s.takeF z with W:=V' }:=by
 unfold St.takeF
 by_cases h8:Sp.cls z=8
 ·rw [if_pos h8,if_pos h8]
  show ∃ V',(match s.runAt (Sp.pgs z).toNat with | none => ({ s with W:=V }:St) | some h => { ({ s with W:=V }:St) with P:=runPg s.P h (Sp.pgs z).toNat,low:=s.ff })=_
  cases s.runAt (Sp.pgs z).toNat <;> exact ⟨V,rfl⟩
 ·rw [if_neg h8,if_neg h8]
  by_cases hd:0 ≤ s.hd0 (Sp.cls z).toNat
  ·rw [if_pos (show 0 ≤ ({ s with W:=V }:St).hd0 (Sp.cls z).toNat from hd),if_pos hd]
   exact ⟨V,rfl⟩
  ·rw [if_neg (show ¬0 ≤ ({ s with W:=V }:St).hd0 (Sp.cls z).toNat from hd),if_neg hd]
   exact ⟨_,rfl⟩
theorem St.InvU.takeF (h:s.InvU) (hl:s.low ≤ s.n) {a:Nat} {fr:Bool} (hz1:1 ≤ z) (hz2:z ≤ 1024) (hp:s.pl z=((a:Int),fr)) :
 a + (Sp.wide z).toNat ≤ 64 * s.n ∧ s.B 0 a=false ∧ ∀ k t,1 ≤ k → k ≤ 31 → ((s.takeF z).put a k z t).InvU:=by
 obtain ⟨V,hv⟩:=h
 have hp':({ s with W:=V }:St).pl z=((a:Int),fr):=hp
 have hlk:Sp.cls z=8 ∨ fr=true ∨ ({ s with W:=V }:St).W a=({ s with W:=V }:St).link (Sp.cls z).toNat a:=by
  have hcl:=Sp.cls_in hz1 hz2
  by_cases h8:Sp.cls z=8
  ·exact .inl h8
  ·unfold St.pl at hp
   rw [if_neg h8] at hp
   by_cases hd:0 ≤ s.hd0 (Sp.cls z).toNat
   ·rw [if_pos hd] at hp
    injection hp with h1 h2
    refine .inr (.inr ?_)
    have hc:(Sp.cls z).toNat < 8:=by omega
    refine hv.lnk (Sp.cls z).toNat hc a ?_
    rcases Bm.next_spec (s.B ((Sp.cls z).toNat + 1)) (64 * s.n) 0 with ⟨e,_⟩ | ⟨i,e,_,_,hb,_⟩
    ·have:s.hd0 (Sp.cls z).toNat=-1:=e
     omega
    ·have e:s.hd0 (Sp.cls z).toNat=(i:Int):=e
     obtain rfl:i=a:=by omega
     exact hb
   ·rw [if_neg hd] at hp
    by_cases hf:s.ff=s.n
    ·rw [if_pos hf] at hp
     injection hp with h _
     omega
    ·rw [if_neg hf] at hp
     injection hp with _ h2
     exact .inr (.inl h2.symm)
 have ht:=tk_some hz1 hz2 hp' hlk
 rcases hv.take ⟨hz1,hz2⟩ hl with ⟨l,e,_⟩ | ⟨s1,a',e,tk⟩
 ·rw [ht] at e
  injection e with _ e
  injection e with _ e
  injection e with e _
  cases e
 ·rw [ht] at e
  injection e with e1 e2
  injection e2 with e2 _
  have e2:a=a':=by omega
  subst e1
  subst e2
  have hn:=(takeF_same s z).1
  obtain ⟨V',hV'⟩:=takeF_words s V z
  have hfit:=tk.fit
  rw [hV'] at hfit
  refine ⟨by have:=hfit.lt.1;rw [← hn];exact this,tk.new,fun k t hk1 hk2 => ?_⟩
  have hput:=tk.inv.put (k:=k) (z:=z) (t:=t) (by rw [tk.b0];exact tk.new) tk.fit ⟨hk1,hk2⟩ ⟨hz1,hz2⟩
  rw [hV'] at hput
  exact ⟨_,hput⟩
end
end Go.Proofs.YtfbcdmhmpfijjaaGreatDoor
namespace Go.Proofs.YtfbcdmhmpfijjaaGreatDoor
open Go Go.RowKit
abbrev rfault0:Obj:=.cells #[.int .i64 0,.int .i64 0] 100
set_option maxRecDepth 100000 in
set_option maxHeartbeats 6400000 in
theorem ralloc_any (w:World) (R:RLay) (s:St) (h:RefAt w R s) (hu:s.InvU) (hl:s.low ≤ s.n) (hse:s.ser ≤ 1000000000000) (k z t:Int) (hz:(Lit.int .i64 z).wf=true) (Q:Ending → World → Prop)
 (h24:Sp.fits k z=false → ∀ w',Still w w' → Q (.returned (.tuple #[.int .i64 0,faultV 24 0])) w')
 (h20:Sp.fits k z=true → (s.pl z).1 < 0 → ∀ w',Still w w' → Q (.returned (.tuple #[.int .i64 0,faultV 20 0])) w')
 (h21:Sp.fits k z=true → ∀ a:Nat,s.pl z=((a:Int),false) → Sp.cls z ≠ 8 → s.W a ≠ s.link (Sp.cls z).toNat a → ∀ w',Still w w' → Q (.returned (.tuple #[.int .i64 0,faultV 21 a])) w')
 (hok:Sp.fits k z=true → ∀ (a:Nat) fr,s.pl z=((a:Int),fr) → (Sp.cls z=8 ∨ fr=true ∨ s.W a=s.link (Sp.cls z).toNat a) → ∀ w',RefAt w' R ((s.takeF z).put a k z t) → Only R.lo R.hi w w' → Q (.returned (.tuple #[.int .i64 (a:Int),faultV 0 0])) w') :
 Calls Tryz.prog 91 #[.pointer (some ⟨R.rb,0,none⟩),.int .i64 k,.int .i64 z,.int .i64 t] w Q:=by
 have HF:=Lib.hid (fun W => rfits_any k z hz W)
 have H24:=Lib.hid h24
 have H20:=Lib.hid h20
 have H21:=Lib.hid h21
 have HOK:=Lib.hid hok
 have HR:=Lib.hid h
 cases hf:Sp.fits k z with
 | false =>
  rw [hf] at HF
  have HFF:=Lib.hid hf
  clear h hu hl h24 h20 h21 hok hf
  go_enter Tryz.func91,Tryz.ntmps91
  go_wp2_with fail
  refine (HF.out _).mono ?_
  rintro e w1 ⟨rfl,hs1⟩
  have hb:=still_new hs1
  have z0:=cell_of (v:=.int .i64 0) hb 0 rfl
  have z1:=cell_of (v:=.int .i64 0) hb 1 rfl
  have f0:=frozen_of hb 0
  have f1:=frozen_of hb 1
  have bl:=(Array.getElem?_eq_some_iff.1 hb).1
  have HS1:Hid (Still w w1):=Lib.hid (Still.trans ((Only.refl _ _ w).alloc _) hs1)
  clear hb hs1
  go_wp2_with fail
  refine bodyPost_ret (v:=.tuple #[.int .i64 0,faultV 24 0]) (by simp [results,Tryz.results91,go_sem, *]) rfl (H24.out HFF.out _ ?_)
  exact (HS1.out.setCell (p:=⟨w.heap.size,0,none⟩) (.inr (Nat.le_refl _)) _).setCell (p:=⟨w.heap.size,1,none⟩) (.inr (Nat.le_refl _)) _
 | true =>
  rw [hf] at HF
  have HFF:=Lib.hid hf
  obtain ⟨hz1,hz2⟩:=Sp.fits_size hf
  have hk:=Sp.fits_kind hf
  have HU:=Lib.hid hu
  have HPL:=Lib.hid (fun W (hs:Still w W) => rplace_any W R s (h.still hs) hu.mid hu.refOk hl z hz1 hz2)
  have hn2:=h.n2
  have htop:=h.top
  obtain ⟨⟨x,fr⟩,hp⟩:∃ r,s.pl z=r:=⟨_,rfl⟩
  rw [hp] at HPL
  have HP:=Lib.hid hp
  clear h hu h24 h20 h21 hok hf hz
  go_enter Tryz.func91,Tryz.ntmps91
  go_wp2_with fail
  have hs0:Still w (w.alloc rfault0):=(Only.refl _ _ w).alloc _
  have hb0:=heap_alloc_new w rfault0
  obtain ⟨bx,hbx⟩:∃ b,w.heap.size=b:=⟨_,rfl⟩
  rw [hbx] at hb0
  rw [hbx]
  have HBX:=Lib.hid hbx
  generalize w.alloc rfault0=w0 at *
  have HS0:=Lib.hid hs0
  have HB0:=Lib.hid hb0
  clear hs0 hb0 hp hbx
  refine (HF.out _).mono ?_
  rintro e w1 ⟨rfl,hs1⟩
  have HS1:=Lib.hid (Still.trans HS0.out hs1)
  have HB1:=Lib.hid (at_only hs1 HB0.out (.inl (Array.getElem?_eq_some_iff.1 HB0.out).1))
  clear hs1
  go_wp2_with fail
  refine (HPL.out _ HS1.out).mono ?_
  rintro e w2 ⟨rfl,hs2⟩
  have HS2:=Lib.hid (Still.trans HS1.out hs2)
  have HB2:=Lib.hid (at_only hs2 HB1.out (.inl (Array.getElem?_eq_some_iff.1 HB1.out).1))
  clear hs2
  dsimp only
  by_cases hx:x < 0
  ·have hb:=HB2.out
   have z0:=cell_of (v:=.int .i64 0) hb 0 rfl
   have z1:=cell_of (v:=.int .i64 0) hb 1 rfl
   have f0:=frozen_of hb 0
   have f1:=frozen_of hb 1
   have bl:=(Array.getElem?_eq_some_iff.1 hb).1
   clear hb
   go_wp2_with fail
   refine bodyPost_ret (v:=.tuple #[.int .i64 0,faultV 20 0]) (by simp [results,Tryz.results91,go_sem, *]) rfl (H20.out HFF.out (by rw [HP.out];exact hx) _ ?_)
   exact (HS2.out.setCell (p:=⟨bx,0,none⟩) (.inr (Nat.le_of_eq HBX.out)) _).setCell (p:=⟨bx,1,none⟩) (.inr (Nat.le_of_eq HBX.out)) _
  ·obtain ⟨a,ha⟩:=Int.eq_ofNat_of_zero_le (show 0 ≤ x by omega)
   subst ha
   have ha0:(0:Int) ≤ (a:Int):=by omega
   obtain ⟨t1,t2,t3⟩:=HU.out.takeF hl hz1 hz2 HP.out
   have hwd:=Sp.wide_pos hz1 hz2
   have ha64:a < 64 * s.n:=by omega
   have HOF:=Lib.hid (fun W => rof_yes z hz1 hz2 W)
   obtain ⟨v,hv⟩:∃ v,Sp.cls z=v:=⟨_,rfl⟩
   have HV:=Lib.hid hv
   rw [hv] at HOF
   have hcl:=Sp.cls_in hz1 hz2
   have hv0:0 ≤ v:=by omega
   have hv8:v ≤ 8:=by omega
   have HT1:=Lib.hid t1
   clear t1 t2 t3 hv hcl hwd
   go_wp2_with fail
   refine (HOF.out _).mono ?_
   rintro e w3 ⟨rfl,hw3⟩
   subst hw3
   obtain ⟨bad,hbad⟩:∃ b:Bool,b=decide (Sp.cls z ≠ 8 ∧ fr=false ∧ s.W a ≠ s.link (Sp.cls z).toNat a):=⟨_,rfl⟩
   have HBAD:=Lib.hid hbad
   clear hbad
   go_upto_region 7 with fail
   go_cut [50] from 29 to 50 (fun s50 wx => s50=.bool bad ∧ Still w wx ∧ wx.heap[bx]?=some rfault0)
   case first =>
    by_cases h8:v=8
    ·have hb:bad=false:=by rw [HBAD.out,decide_eq_false (by rw [HV.out];exact fun e => e.1 h8)]
     subst h8
     have HBF:=Lib.hid hb
     clear hb
     go_quiet (fail)
     go_wp2_with fail
     go_meet
     exact ⟨by rw [HBF.out],HS2.out.drewN _,HB2.out⟩
    ·have hv7:v < 8:=by omega
     cases fr with
     | true =>
      have hb:bad=false:=by rw [HBAD.out,decide_eq_false (fun e => by cases e.2.1)]
      have HBF:=Lib.hid hb
      clear hb
      go_quiet (fail)
      go_wp2_with fail
      go_meet
      exact ⟨by rw [HBF.out],HS2.out.drewN _,HB2.out⟩
     | false =>
      obtain ⟨c,hc⟩:=Int.eq_ofNat_of_zero_le hv0
      subst hc
      have hc8:c < 8:=by omega
      have hcI:(c:Int) < 8:=by omega
      have hcz:(Sp.cls z).toNat=c:=by rw [HV.out,Int.toNat_natCast]
      have hx0:=Bm.next_spec (s.B (c + 1)) (64 * s.n) ((a + 1:Nat):Int)
      obtain ⟨nx,hnx⟩:∃ x,Bm.next (s.B (c + 1)) (64 * s.n) ((a + 1:Nat):Int)=x:=⟨_,rfl⟩
      have hnb:-1 ≤ nx ∧ nx < 262144:=by
       rw [← hnx]
       rcases hx0 with ⟨e,_⟩ | ⟨i,e,_,h2,_⟩ <;> rw [e]
       ·exact ⟨by omega,by omega⟩
       ·exact ⟨by omega,by omega⟩
      have hlk:s.link c a=Sp.lnk nx:=by
       unfold St.link
       rw [← hnx]
       congr 2
      have HNX:Hid (∀ W,Still w2 W → Calls Tryz.prog 81 #[.pointer (some ⟨R.rb,0,none⟩),.int .i64 (c:Int),.int .i64 ((a:Int) + 1)] W fun e w' => e=.returned (.int .i64 nx) ∧ Still W w'):=Lib.hid fun W hW => by
       have:=rnext_any W R s (HR.out.still (Still.trans HS2.out hW)) HU.out.refOk c hc8 (a + 1) (by omega)
       rw [hnx] at this
       rw [show (a:Int) + 1=((a + 1:Nat):Int) by omega]
       exact this
      have HLK:Hid (∀ W,Calls Tryz.prog 82 #[.int .i64 nx] W fun e w' => e=.returned (.int .i64 (Sp.lnk nx)) ∧ Still W w'):=Lib.hid fun W => (rlink_any nx W hnb.1 hnb.2).mono fun e w' ⟨e1,e2⟩ => ⟨e1,by rw [← e2];exact Only.refl _ _ _⟩
      obtain ⟨N,hN⟩:∃ N,64 * s.n=N:=⟨_,rfl⟩
      have haN:(a:Int) < (N:Int):=by omega
      have haNn:a < N:=by omega
      have haM:(a:Int) ≤ 262144:=by omega
      have HC:Hid (∀ W,Still w2 W → W.cell? ⟨R.rb,0,none⟩=some (.slice (some ⟨R.wb,0,none⟩) N R.cw) ∧ W.cell? ⟨R.wb,a,none⟩=some (.int .i64 (s.W a)) ∧ R.rb < W.heap.size):=Lib.hid fun W hW => by
       have hr:=HR.out.still (Still.trans HS2.out hW)
       have c0:=hr.c0
       rw [hN] at c0
       exact ⟨c0,hr.word ha64,hr.lts.1⟩
      have hbb:(s.W a != Sp.lnk nx)=bad:=by
       rw [HBAD.out,hcz,hlk]
       by_cases e:s.W a=Sp.lnk nx
       ·rw [decide_eq_false (fun hh => hh.2.2 e)];simp [e]
       ·rw [decide_eq_true ⟨by rw [HV.out];exact h8,rfl,e⟩];simp [e]
      have HBB:=Lib.hid hbb
      have hw1:IntKind.i64.wrap ((a:Int) + 1)=(a:Int) + 1:=by rw [IntKind.wrap_i64];omega
      have hw2:wrap64 ((a:Int) + 1)=(a:Int) + 1:=by unfold wrap64;omega
      generalize s.W a=y at *
      clear hx0 hnx hlk hbb hcz hN h8
      have hsC:Still w2 w2:=Only.refl _ _ _
      obtain ⟨k0,k1,k2⟩:=HC.out _ hsC
      go_region_held3 (fun w' => w'.cell? ⟨R.rb,0,none⟩=some (.slice (some ⟨R.wb,0,none⟩) N R.cw) ∧ w'.cell? ⟨R.wb,a,none⟩=some (.int .i64 y) ∧ R.rb < w'.heap.size)
       ((refine HC.out _ ?_;(repeat first | with_reducible exact hsC | with_reducible exact Only.refl _ _ _ | with_reducible apply Only.drew | with_reducible apply Only.drewN | with_reducible apply Only.alloc)))
       (first
         | (go_at_call 81;refine (HNX.out _ (by (repeat first | with_reducible exact hsC | with_reducible exact Only.refl _ _ _ | with_reducible apply Only.drew | with_reducible apply Only.drewN | with_reducible apply Only.alloc))).mono ?_;rintro e wp ⟨rfl,hcall⟩;have hsC:Still w2 wp:=Still.trans (by (repeat first | with_reducible exact hsC | with_reducible exact Only.refl _ _ _ | with_reducible apply Only.drew | with_reducible apply Only.drewN | with_reducible apply Only.alloc)) hcall)
         | (go_at_call 82;refine (HLK.out _).mono ?_;rintro e wq ⟨rfl,hcall⟩;have hsC:Still w2 wq:=Still.trans (by (repeat first | with_reducible exact hsC | with_reducible exact Only.refl _ _ _ | with_reducible apply Only.drew | with_reducible apply Only.drewN | with_reducible apply Only.alloc)) hcall))
      all_goals
       go_wp2_with fail
       go_meet
       exact ⟨by rw [HBB.out],Still.trans HS2.out (by (repeat first | with_reducible exact hsC | with_reducible exact Only.refl _ _ _ | with_reducible apply Only.drew | with_reducible apply Only.drewN | with_reducible apply Only.alloc)),at_only (show Still w2 _ from (by (repeat first | with_reducible exact hsC | with_reducible exact Only.refl _ _ _ | with_reducible apply Only.drew | with_reducible apply Only.drewN | with_reducible apply Only.alloc))) HB2.out (.inl (Array.getElem?_eq_some_iff.1 HB2.out).1)⟩
   case rest =>
    obtain ⟨rfl,hsc,hb⟩:=hcut
    obtain ⟨w4,hw4⟩:∃ x,x=wc:=⟨_,rfl⟩
    subst hw4
    have HS4:=Lib.hid hsc
    have HB4:=Lib.hid hb
    cases bad with
    | true =>
     obtain ⟨b1,b2,b3⟩:=of_decide_eq_true HBAD.out.symm
     subst b2
     have z0:=cell_of (v:=.int .i64 0) hb 0 rfl
     have z1:=cell_of (v:=.int .i64 0) hb 1 rfl
     have f0:=frozen_of hb 0
     have f1:=frozen_of hb 1
     have bl:=(Array.getElem?_eq_some_iff.1 hb).1
     have HF3:=Lib.hid (H21.out HFF.out a HP.out b1 b3)
     clear hb hsc b1 b3
     go_wp2_with fail
     refine bodyPost_ret (v:=.tuple #[.int .i64 0,faultV 21 a]) (by simp [results,Tryz.results91,go_sem, *]) rfl (HF3.out _ ?_)
     exact (HS4.out.setCell (p:=⟨bx,0,none⟩) (.inr (Nat.le_of_eq HBX.out)) _).setCell (p:=⟨bx,1,none⟩) (.inr (Nat.le_of_eq HBX.out)) _
    | false =>
     have hcond:Sp.cls z=8 ∨ fr=true ∨ s.W a=s.link (Sp.cls z).toNat a:=by
      have hno:=of_decide_eq_false HBAD.out.symm
      by_cases c1:Sp.cls z=8
      ·exact .inl c1
      ·cases fr with
       | true => exact .inr (.inl rfl)
       | false =>
        by_cases c3:s.W a=s.link (Sp.cls z).toNat a
        ·exact .inr (.inr c3)
        ·exact absurd ⟨c1,rfl,c3⟩ hno
     have HFO:=Lib.hid (HOK.out HFF.out a fr HP.out hcond)
     have HTK:=Lib.hid (fun Q hQ => rtake_any w4 R s (HR.out.still hsc) HU.out.mid HU.out.refOk hl k z t a fr hk.1 hk.2 hz1 hz2 HP.out HT1.out ⟨HU.out.mid.ser0,hse⟩ Q hQ)
     clear hb hsc hcond
     go_wp2_with fail
     refine HTK.out _ (fun w5 hr5 ho5 => ?_)
     have hb5:=at_only ho5 HB4.out (.inr (by rw [← HBX.out];exact htop))
     have z0:=cell_of (v:=.int .i64 0) hb5 0 rfl
     have z1:=cell_of (v:=.int .i64 0) hb5 1 rfl
     have f0:=frozen_of hb5 0
     have f1:=frozen_of hb5 1
     have bl:=(Array.getElem?_eq_some_iff.1 hb5).1
     have HR5:=Lib.hid hr5
     have HO5:Hid (Only R.lo R.hi w w5):=Lib.hid (Only.trans (HS4.out.any _ _) ho5)
     have hhb:R.hi ≤ bx:=by rw [← HBX.out];exact htop
     clear hb5 hr5 ho5
     go_wp2_with fail
     refine bodyPost_ret (v:=.tuple #[.int .i64 (a:Int),faultV 0 0]) (by simp [results,Tryz.results91,go_sem, *]) rfl (HFO.out _ ?_ ?_)
     ·exact (HR5.out.kept (only_cell _ bx 0 _) (.inl hhb)).kept (only_cell _ bx 1 _) (.inl hhb)
     ·exact (HO5.out.setCell (p:=⟨bx,0,none⟩) (.inr (Nat.le_of_eq HBX.out)) _).setCell (p:=⟨bx,1,none⟩) (.inr (Nat.le_of_eq HBX.out)) _
end Go.Proofs.YtfbcdmhmpfijjaaGreatDoor
namespace Go.Proofs.YtfbcdmhmpfijjaaGreatDoor
open Go Go.RowKit
inductive St.Al (s:St) (k z t:Int):Int → Int → Int → St → Prop where
 | shape:Sp.fits k z=false → St.Al s k z t 0 24 0 s
 | full:Sp.fits k z=true → (s.pl z).1 < 0 → St.Al s k z t 0 20 0 { s with low:=s.ff }
 | bad (a:Nat):Sp.fits k z=true → s.pl z=((a:Int),false) → Sp.cls z ≠ 8 → s.W a ≠ s.link (Sp.cls z).toNat a → St.Al s k z t 0 21 (a:Int) s
 | ok (a:Nat) (fr:Bool):Sp.fits k z=true → s.pl z=((a:Int),fr) → (Sp.cls z=8 ∨ fr=true ∨ s.W a=s.link (Sp.cls z).toNat a) → St.Al s k z t (a:Int) 0 0 ((s.takeF z).put a k z t)
theorem al_ex (s:St) (k z t:Int):∃ a e f s',s.Al k z t a e f s':=by
 cases hf:Sp.fits k z with
 | false => exact ⟨_,_,_,_,.shape hf⟩
 | true =>
  obtain ⟨⟨x,fr⟩,hp⟩:∃ r,s.pl z=r:=⟨_,rfl⟩
  by_cases hx:x < 0
  ·exact ⟨_,_,_,_,.full hf (by rw [hp];exact hx)⟩
  ·obtain ⟨a,rfl⟩:=Int.eq_ofNat_of_zero_le (show 0 ≤ x by omega)
   by_cases hc:Sp.cls z=8 ∨ fr=true ∨ s.W a=s.link (Sp.cls z).toNat a
   ·exact ⟨_,_,_,_,.ok a fr hf hp hc⟩
   ·obtain ⟨c1,c2⟩:=not_or.1 hc
    obtain ⟨c2,c3⟩:=not_or.1 c2
    have:fr=false:=by cases fr <;> simp at c2 ⊢
    subst this
    exact ⟨_,_,_,_,.bad a hf hp c1 c3⟩
theorem St.Al.inv {s s':St} {k z t a e f:Int} (h:s.Al k z t a e f s') (hi:s.InvU) (hl:s.low ≤ s.n):s'.InvU ∧ s'.n=s.n ∧ s'.acts ≤ s.acts + 2:=by
 cases h with
 | shape _ => exact ⟨hi,rfl,by omega⟩
 | bad _ _ _ _ _ => exact ⟨hi,rfl,by omega⟩
 | full hf hx =>
  refine ⟨?_,rfl,Nat.le_add_right _ _⟩
  obtain ⟨V,hv⟩:=hi
  obtain ⟨z1,z2⟩:=Sp.fits_size hf
  have ht:({ s with W:=V }:St).take z=_:=tk_none (s:={ s with W:=V }) hx
  rcases hv.take ⟨z1,z2⟩ hl with ⟨l,e,hil⟩ | ⟨s1,a',e,_⟩
  ·rw [ht] at e
   injection e with e1 _
   refine ⟨V,?_⟩
   have:({ ({ s with W:=V }:St) with low:=l }:St)={ ({ s with low:=s.ff }:St) with W:=V }:=e1.symm
   rw [← this]
   exact hil
  ·rw [ht] at e
   injection e with _ e2
   injection e2 with _ e3
   injection e3 with e4 _
   cases e4
 | ok a fr hf hp hc =>
  obtain ⟨z1,z2⟩:=Sp.fits_size hf
  obtain ⟨k1,k2⟩:=Sp.fits_kind hf
  have hs:=takeF_same s z
  exact ⟨(hi.takeF hl z1 z2 hp).2.2 k t k1 k2,hs.1,by show (s.takeF z).acts + 2 ≤ _;rw [hs.2.2.2.2.2.2.2];exact Nat.le_refl _⟩
theorem salloc_al (w:World) (L:Lay) (s s':St) (h:SpaceAt w L s) (hi:s.InvU) (k z t a e f:Int) (hz:(Lit.int .i64 z).wf=true) (ha:s.acts + 2 ≤ 1000000000000) (hal:s.Al k z t a e f s') (Q:Ending → World → Prop)
 (hQ:∀ w',SpaceAt w' L s' → Only L.lo L.hi w w' → Q (.returned (.tuple #[.int .i64 a,faultV e f])) w') :
 Calls Tryz.prog 19 #[.pointer (some ⟨L.sb,0,none⟩),.int .i64 k,.int .i64 z,.int .i64 t] w Q:=by
 cases hal with
 | shape hf =>
  refine (alloc_shape w L s h k z t hz hf).mono ?_
  rintro e w' ⟨rfl,hs⟩
  exact hQ w' (h.still hs) (hs.any _ _)
 | full hf hx =>
  have ht:=tk_none hx
  refine alloc_full w L s h k z t hf (by rw [ht];exact (by decide:(20:Int) ≠ 0)) Q fun w' h1 h2 => ?_
  rw [ht] at h1 ⊢
  exact hQ w' h1 h2
 | bad a hf hp h8 hl =>
  obtain ⟨z1,z2⟩:=Sp.fits_size hf
  have ht:=tk_bad z1 z2 hp h8 hl
  refine alloc_full w L s h k z t hf (by rw [ht];exact (by decide:(21:Int) ≠ 0)) Q fun w' h1 h2 => ?_
  rw [ht] at h1 ⊢
  exact hQ w' h1 h2
 | ok a fr hf hp hc =>
  obtain ⟨z1,z2⟩:=Sp.fits_size hf
  have ht:=tk_some z1 z2 hp hc
  have hs:=takeF_same s z
  have hm:=hi.mid
  have hr:=hm.room0
  have hr2:=hm.room2
  have hs0:=hm.ser0
  have hs1:=hm.ser1
  exact alloc_ok w L s _ h k z t a hf (Sp.fits_kind hf) ht hs.1 (hi.takeF h.lowle z1 z2 hp).1 (by rw [hs.2.2.2.2.2.1];omega) (by rw [hs.2.2.2.2.2.2.1];omega) (by rw [hs.2.2.2.2.2.2.2];omega) Q hQ
theorem ralloc_al (w:World) (R:RLay) (s s':St) (h:RefAt w R s) (hi:s.InvU) (hl:s.low ≤ s.n) (k z t a e f:Int) (hz:(Lit.int .i64 z).wf=true) (ha:s.acts + 2 ≤ 1000000000000) (hal:s.Al k z t a e f s') (Q:Ending → World → Prop)
 (hQ:∀ w',RefAt w' R s' → Only R.lo R.hi w w' → Q (.returned (.tuple #[.int .i64 a,faultV e f])) w') :
 Calls Tryz.prog 91 #[.pointer (some ⟨R.rb,0,none⟩),.int .i64 k,.int .i64 z,.int .i64 t] w Q:=by
 have hs1:=hi.mid.ser1
 refine ralloc_any w R s h hi hl (by omega) k z t hz Q ?_ ?_ ?_ ?_
 ·intro hf w' hs
  cases hal with
  | shape _ => exact hQ w' (h.still hs) (hs.any _ _)
  | full hf2 _ => rw [hf] at hf2;cases hf2
  | bad _ hf2 _ _ _ => rw [hf] at hf2;cases hf2
  | ok _ _ hf2 _ _ => rw [hf] at hf2;cases hf2
 ·intro hf hx w' hs
  cases hal with
  | shape hf2 => rw [hf] at hf2;cases hf2
  | full _ _ => exact hQ w' ((h.still hs).low _) (hs.any _ _)
  | bad _ _ hp _ _ => rw [hp] at hx;have hx:((_:Nat):Int) < 0:=hx;omega
  | ok _ _ _ hp _ => rw [hp] at hx;have hx:((_:Nat):Int) < 0:=hx;omega
 ·intro hf a hp h8 hlk w' hs
  cases hal with
  | shape hf2 => rw [hf] at hf2;cases hf2
  | full _ hx => rw [hp] at hx;have hx:(a:Int) < 0:=hx;omega
  | bad a2 _ hp2 _ _ =>
   rw [hp] at hp2
   injection hp2 with e1 _
   obtain rfl:a=a2:=by omega
   exact hQ w' (h.still hs) (hs.any _ _)
  | ok a2 fr _ hp2 hc =>
   rw [hp] at hp2
   injection hp2 with e1 e2
   obtain rfl:a=a2:=by omega
   subst e2
   rcases hc with c | c | c
   ·exact absurd c h8
   ·cases c
   ·exact absurd c hlk
 ·intro hf a fr hp hc w' h1 h2
  cases hal with
  | shape hf2 => rw [hf] at hf2;cases hf2
  | full _ hx => rw [hp] at hx;have hx:(a:Int) < 0:=hx;omega
  | bad a2 _ hp2 h8 hlk =>
   rw [hp] at hp2
   injection hp2 with e1 e2
   obtain rfl:a=a2:=by omega
   subst e2
   rcases hc with c | c | c
   ·exact absurd c h8
   ·cases c
   ·exact absurd c hlk
  | ok a2 fr2 _ hp2 _ =>
   rw [hp] at hp2
   injection hp2 with e1 e2
   obtain rfl:a=a2:=by omega
   exact hQ w' h1 h2
structure Pr2 (w:World) (pb:Nat) (L:Lay) (R:RLay) (s t:St) (own:Nat → Lb) (qf:Nat → Nat) (C:Nat):Prop where
 k:KeepAt w pb (.pointer (some ⟨L.sb,0,none⟩)) (.pointer (some ⟨R.rb,0,none⟩)) own qf C
 sp:SpaceAt w L s
 rf:RefAt w R t
 lr:L.hi ≤ R.lo
 ow:∀ g,own g ≠ Lno → R.hi ≤ g
theorem KeepAt.kf {W W':World} {pb:Nat} {h0 h1:Value} {own:Nat → Lb} {qf:Nat → Nat} {C:Nat} {bl:Nat → Prop} (h:KeepAt W pb h0 h1 own qf C) (hk:Kf W bl W') (hb:∀ g,own g ≠ Lno → ¬bl g):KeepAt W' pb h0 h1 own qf C:=by
 obtain ⟨v,ls,h1,h2,h3,h4⟩:=h
 have hne:∀ g,(own g).1 ≠ 0 → own g ≠ Lno:=fun g hg e => hg (by rw [e])
 exact ⟨v,ls,h1.kf hk (fun g _ hg => ⟨hb g (hne g (by omega)),rfl⟩) fun g hg => Nat.lt_of_lt_of_le (h1.olt g hg) hk.size,h2.kf hk fun g _ hg => ⟨hb g (hne g (by omega)),rfl⟩,h3,h4⟩
theorem kf_only {lo hi:Nat} {w w':World} (h:Only lo hi w w'):Kf w (fun g => lo ≤ g ∧ g < hi) w':=⟨h.os,h.tape,h.output,h.size,fun g hg hn => h.block g hg (by omega)⟩
section
variable {w w':World} {pb:Nat} {L:Lay} {R:RLay} {s t u:St} {own:Nat → Lb} {qf:Nat → Nat} {C:Nat}
theorem PairAt.pr2 (h:PairAt w pb L R s own qf C):Pr2 w pb L R s s own qf C:=⟨h.k,h.sp,h.rf,h.lr,h.ow⟩
theorem Pr2.pair (h:Pr2 w pb L R s s own qf C) (hi:s.InvU) (hn:s.n ≤ 24):PairAt w pb L R s own qf C:=⟨h.k,h.sp,h.rf,hi,h.lr,h.ow,hn⟩
variable (h:Pr2 w pb L R s t own qf C)
include h
theorem Pr2.still (hs:Still w w'):Pr2 w' pb L R s t own qf C:=⟨h.k.still hs,h.sp.still hs,h.rf.still hs,h.lr,h.ow⟩
theorem Pr2.lohi:L.lo ≤ L.hi ∧ R.lo ≤ R.hi ∧ R.hi ≤ w.heap.size:=⟨by have:=h.sp.ok.inn 0 (by omega);omega,by have:=h.rf.ok.rb1;omega,h.rf.top⟩
theorem Pr2.space (ho:Only L.lo L.hi w w') (hs:SpaceAt w' L u):Pr2 w' pb L R u t own qf C:=by
 obtain ⟨a,b,_⟩:=h.lohi
 have hlr:=h.lr
 exact ⟨h.k.kf (kf_only ho) fun g hg hb => by have:=h.ow g hg;omega,hs,h.rf.kept ho (.inr hlr),hlr,h.ow⟩
theorem Pr2.ref (ho:Only R.lo R.hi w w') (hs:RefAt w' R u):Pr2 w' pb L R s u own qf C:=by
 obtain ⟨a,b,_⟩:=h.lohi
 have hlr:=h.lr
 exact ⟨h.k.kf (kf_only ho) fun g hg hb => by have:=h.ow g hg;omega,h.sp.kept ho (.inl hlr) (by have:=h.rf.ok.lo0;omega),hs,hlr,h.ow⟩
theorem Pr2.c0:w.cell? ⟨pb,0,none⟩=some (.pointer (some ⟨L.sb,0,none⟩)):=by
 obtain ⟨v,ls,hk⟩:=h.k
 exact cell_of hk.hd.head 0 rfl
theorem Pr2.c1:w.cell? ⟨pb,1,none⟩=some (.pointer (some ⟨R.rb,0,none⟩)):=by
 obtain ⟨v,ls,hk⟩:=h.k
 exact cell_of hk.hd.head 1 rfl
theorem Pr2.lt:pb < w.heap.size:=by
 obtain ⟨v,ls,hk⟩:=h.k
 exact hk.hd.lt
end
theorem PFr.turn {L:Lay} {R:RLay} {w w1 w2:World} {own own1:Nat → Lb} (h:PFr L R w own w1 own1) (ho:Only L.lo R.hi w1 w2):PFr L R w own w2 own1 :=
 ⟨h.kf.trans (kf_only ho) fun _ _ hg => .inr hg,h.lb⟩
end Go.Proofs.YtfbcdmhmpfijjaaGreatDoor
