/-
  The walk of pages.TakeClass.
-/
import Derived.Test.YtfbcdmhmpfijjaaGreatDoorQ04
import Derived.Deep.RegionHeld3
set_option linter.unusedVariables false
set_option linter.unusedSimpArgs false
set_option linter.unusedSectionVars false
namespace Go.Proofs.YtfbcdmhmpfijjaaGreatDoor
open Go Go.RowKit
theorem or_u64 (x y:Nat) (hx:x < 18446744073709551616) (hy:y < 18446744073709551616):bits BinOp.or IntKind.u64 (x:Int) (y:Int)=((x ||| y:Nat):Int):=by
 have e1:(BitVec.ofInt 64 (x:Int)).toNat=x:=by rw [BitVec.toNat_ofInt];omega
 have e2:(BitVec.ofInt 64 (y:Int)).toNat=y:=by rw [BitVec.toNat_ofInt];omega
 show IntKind.u64.wrap ((BitVec.ofInt 64 (x:Int) ||| BitVec.ofInt 64 (y:Int)).toNat:Int)=_
 rw [BitVec.toNat_or,e1,e2]
 have h:x ||| y < 2 ^ 64:=Nat.or_lt_two_pow hx hy
 show ((x ||| y:Nat):Int) % 18446744073709551616=_
 omega
theorem and_u64 (x y:Nat) (hx:x < 18446744073709551616) (hy:y < 18446744073709551616):bits BinOp.and IntKind.u64 (x:Int) (y:Int)=((x &&& y:Nat):Int):=by
 have e1:(BitVec.ofInt 64 (x:Int)).toNat=x:=by rw [BitVec.toNat_ofInt];omega
 have e2:(BitVec.ofInt 64 (y:Int)).toNat=y:=by rw [BitVec.toNat_ofInt];omega
 show IntKind.u64.wrap ((BitVec.ofInt 64 (x:Int) &&& BitVec.ofInt 64 (y:Int)).toNat:Int)=_
 rw [BitVec.toNat_and,e1,e2]
 have h:x &&& y ≤ x:=Nat.and_le_left
 show ((x &&& y:Nat):Int) % 18446744073709551616=_
 omega
theorem or_add {i x y:Nat} (h:y < 2 ^ i) (hx:2 ^ i * x < 18446744073709551616) (hi:y < 18446744073709551616):bits BinOp.or IntKind.u64 ((2 ^ i * x:Nat):Int) (y:Int)=((2 ^ i * x + y:Nat):Int):=by
 rw [or_u64 _ _ hx hi,← Nat.two_pow_add_eq_or_of_lt h]
def sgn (x:Nat):Nat:=x * 10872568911861 % 17592186044416
theorem hdr_eq (a k s:Nat) (h2:a < 262144) (h4:k ≤ 31) (h6:s ≤ 1024) :
 Sp.hdr a k s=(((k + s * 32 + sgn (a * 65536 + k * 2048 + s) * 65536) * 8 + 5:Nat):Int):=by
 unfold Sp.hdr sgn
 have e1:bits BinOp.or .u64 ((a:Int) * 65536) ((k:Int) * 2048)=((a * 65536 + k * 2048:Nat):Int):=by
  have:=or_add (i:=16) (x:=a) (y:=k * 2048) (by omega) (by omega) (by omega)
  rw [show ((2 ^ 16 * a:Nat):Int)=(a:Int) * 65536 by omega,show ((k * 2048:Nat):Int)=(k:Int) * 2048 by omega] at this
  rw [this]
  omega
 obtain ⟨x,hx⟩:∃ x,a * 65536 + k * 2048 + s=x:=⟨_,rfl⟩
 have e2:IntKind.u64.wrap (bits BinOp.or .u64 ((a:Int) * 65536) ((k:Int) * 2048) + (s:Int))=(x:Int):=by
  rw [e1]
  show (((a * 65536 + k * 2048:Nat):Int) + (s:Int)) % 18446744073709551616=_
  omega
 rw [e2,hx]
 have e3:IntKind.u64.wrap ((x:Int) * 10872568911861)=((x * 10872568911861 % 18446744073709551616:Nat):Int):=by
  show ((x:Int) * 10872568911861) % 18446744073709551616=_
  omega
 rw [e3]
 obtain ⟨g,hg⟩:∃ g,x * 10872568911861 % 17592186044416=g:=⟨_,rfl⟩
 have e4:bits BinOp.and .u64 ((x * 10872568911861 % 18446744073709551616:Nat):Int) 17592186044415=(g:Int):=by
  have:=and_u64 (x * 10872568911861 % 18446744073709551616) 17592186044415 (by omega) (by omega)
  rw [show (((17592186044415:Nat)):Int)=17592186044415 from rfl] at this
  rw [this,show (17592186044415:Nat)=2 ^ 44 - 1 from rfl,Nat.and_two_pow_sub_one_eq_mod]
  omega
 rw [e4,hg]
 have hgl:g < 17592186044416:=by omega
 have e5:IntKind.u64.wrap ((g:Int) * 65536)=((2 ^ 16 * g:Nat):Int):=by
  show ((g:Int) * 65536) % 18446744073709551616=_
  omega
 have e6:=or_add (i:=16) (x:=g) (y:=s * 32) (by omega) (by omega) (by omega)
 rw [show ((s * 32:Nat):Int)=(s:Int) * 32 by omega] at e6
 rw [e5,e6]
 have e7:=or_add (i:=5) (x:=2048 * g + s) (y:=k) (by omega) (by omega) (by omega)
 rw [show 2 ^ 5 * (2048 * g + s)=2 ^ 16 * g + s * 32 by omega] at e7
 rw [e7]
 have e8:IntKind.u64.wrap (((2 ^ 16 * g + s * 32 + k:Nat):Int) * 8)=((2 ^ 3 * (k + s * 32 + g * 65536):Nat):Int):=by
  show (((2 ^ 16 * g + s * 32 + k:Nat):Int) * 8) % 18446744073709551616=_
  omega
 have e9:=or_add (i:=3) (x:=k + s * 32 + g * 65536) (y:=5) (by omega) (by omega) (by omega)
 rw [show ((5:Nat):Int)=5 from rfl] at e9
 rw [e8,e9,← IntWalk.i64_left,IntKind.wrap_i64]
 omega
set_option maxHeartbeats 1600000 in
theorem rsign_any (x:Nat) (hx:x < 17592186044416) (w:World) :
 Calls Tryz.prog 134 #[.int .i64 (x:Int)] w fun e w' => e=.returned (.int .i64 (sgn x:Int)) ∧ w=w':=by
 obtain ⟨r,hr⟩:∃ r,sgn x=r:=⟨_,rfl⟩
 have HR:=Lib.hid hr
 have h0:(0 + 10872568911861 * x) % 17592186044416=r:=by rw [← hr];unfold sgn;omega
 rw [hr]
 clear hr
 go_enter Tryz.func134,Tryz.ntmps134
 go_wp2_with fail
 go_loopw [0,3,4] (fun a b c W => ∃ y s d:Nat,a=.int .i64 (y:Int) ∧ b=.int .i64 (s:Int) ∧ c=.int .i64 (d:Int) ∧ y < 17592186044416 ∧ s < 17592186044416 ∧ d < 17592186044416 ∧ (s + d * y) % 17592186044416=r ∧ w=W) (fun a _ _ _ => (intOf a).toNat)
 case atStart => exact ⟨x,0,10872568911861,rfl,rfl,rfl,hx,by omega,by omega,h0,rfl⟩
 case round =>
  obtain ⟨y,s,d,rfl,rfl,rfl,hy,hs,hd,hE,rfl⟩:=hrel
  have hy0:(0:Int) ≤ (y:Int):=by omega
  have hs0:(0:Int) ≤ (s:Int):=by omega
  have hd0:(0:Int) ≤ (d:Int):=by omega
  by_cases hyp:0 < y
  ·have hypI:(0:Int) < (y:Int):=by omega
   have hyI:(y:Int) < 17592186044416:=by omega
   have hsI:(s:Int) < 17592186044416:=by omega
   have hdI:(d:Int) < 17592186044416:=by omega
   have ht2:(y:Int).tdiv 2=((y / 2:Nat):Int):=by rw [Int.tdiv_eq_ediv_of_nonneg (by omega)];rfl
   have htd:((d:Int) + (d:Int)).tmod 17592186044416=(((d + d) % 17592186044416:Nat):Int):=by rw [Int.tmod_eq_emod_of_nonneg (by omega)];omega
   have hts:((s:Int) + (d:Int)).tmod 17592186044416=(((s + d) % 17592186044416:Nat):Int):=by rw [Int.tmod_eq_emod_of_nonneg (by omega)];omega
   have hE2:=Lib.hid hE
   rcases Nat.mod_two_eq_zero_or_one y with h2 | h2
   ·have htm:(y:Int).tmod 2=0:=by rw [Int.tmod_eq_emod_of_nonneg (by omega)];omega
    go_wp2_with fail
    refine ⟨⟨y / 2,s,(d + d) % 17592186044416,rfl,rfl,rfl,by omega,hs,by omega,?_,by first | rfl | trivial⟩,by simp [intOf];omega⟩
    rw [← hE2.out,Nat.add_mod,Nat.mod_mul_mod,← Nat.add_mod]
    have:y=2 * (y / 2):=by omega
    generalize y / 2=z at *
    subst this
    rw [show (d + d) * z=d * (2 * z) by rw [← Nat.two_mul,Nat.mul_comm 2 d,Nat.mul_assoc]]
   ·have htm:(y:Int).tmod 2=1:=by rw [Int.tmod_eq_emod_of_nonneg (by omega)];omega
    go_wp2_with fail
    refine ⟨⟨y / 2,(s + d) % 17592186044416,(d + d) % 17592186044416,rfl,rfl,rfl,by omega,by omega,by omega,?_,by first | rfl | trivial⟩,by simp [intOf];omega⟩
    rw [← hE2.out,Nat.mod_add_mod,Nat.add_mod,Nat.mod_mul_mod,← Nat.add_mod]
    have:y=2 * (y / 2) + 1:=by omega
    generalize y / 2=z at *
    subst this
    rw [show s + d + (d + d) * z=s + d * (2 * z + 1) by rw [Nat.mul_add,← Nat.two_mul,Nat.mul_comm 2 d,Nat.mul_assoc];omega]
  ·obtain rfl:y=0:=by omega
   have hE2:s=r:=by omega
   subst hE2
   go_wp2_with fail
   go_ret
   exact ⟨rfl,rfl⟩
set_option maxHeartbeats 1600000 in
theorem rmake_any (a k s:Nat) (h2:a < 262144) (h3:1 ≤ k) (h4:k ≤ 31) (h5:1 ≤ s) (h6:s ≤ 1024) (w:World) :
 Calls Tryz.prog 106 #[.int .i64 (a:Int),.int .i64 (k:Int),.int .i64 (s:Int)] w fun e w' => e=.returned (.int .i64 (Sp.hdr a k s)) ∧ w=w':=by
 obtain ⟨x,hx⟩:∃ x,a * 65536 + k * 2048 + s=x:=⟨_,rfl⟩
 have HS:=Lib.hid (rsign_any x (by omega) w)
 rw [hdr_eq a k s h2 h4 h6,hx]
 have hgl:sgn x < 17592186044416:=Nat.mod_lt _ (by omega)
 obtain ⟨g,hg⟩:∃ g,sgn x=g:=⟨_,rfl⟩
 rw [hg] at hgl HS ⊢
 have hxI:(a:Int) * 65536 + (k:Int) * 2048 + (s:Int)=(x:Int):=by omega
 have a0:(0:Int) ≤ (a:Int):=by omega
 have a1:(a:Int) ≤ 262143:=by omega
 have k1:(1:Int) ≤ (k:Int):=by omega
 have k2:(k:Int) ≤ 31:=by omega
 have s1:(1:Int) ≤ (s:Int):=by omega
 have s2:(s:Int) ≤ 1024:=by omega
 have g0:(0:Int) ≤ (g:Int):=by omega
 have g1:(g:Int) < 17592186044416:=by omega
 have HG:Hid (Calls Tryz.prog 133 #[.int .i64 (a:Int),.int .i64 (k:Int),.int .i64 (s:Int)] w fun e w' => e=.returned (.bool true) ∧ w=w'):=Lib.hid (by
  go_enter Tryz.func133,Tryz.ntmps133
  go_wp2_with fail
  go_ret
  exact ⟨rfl,rfl⟩)
 clear hg hx
 go_enter Tryz.func106,Tryz.ntmps106
 go_wp2_with fail
 refine HG.out.mono ?_
 rintro e w1 ⟨rfl,rfl⟩
 go_wp2_with fail
 refine HS.out.mono ?_
 rintro e w1 ⟨rfl,rfl⟩
 go_wp2_with fail
 go_ret
 exact ⟨by first | rfl | (congr 1;omega) | (congr 2;omega),rfl⟩
end Go.Proofs.YtfbcdmhmpfijjaaGreatDoor
namespace Go.Proofs.YtfbcdmhmpfijjaaGreatDoor
open Go Go.RowKit
structure Pg where
 k:Int
 c:Int
 r:Int
def pgCells (P:Nat → Pg) (n:Nat):Array Value:=Array.ofFn (n:=3 * n) fun j => .int .i64 (if j.val % 3=0 then (P (j.val / 3)).k else if j.val % 3=1 then (P (j.val / 3)).c else (P (j.val / 3)).r)
theorem pgCells_size (P:Nat → Pg) (n:Nat):(pgCells P n).size=3 * n:=Array.size_ofFn
theorem pgCells_at (P:Nat → Pg) (n j:Nat) (h:j < 3 * n):(pgCells P n)[j]?=some (.int .i64 (if j % 3=0 then (P (j / 3)).k else if j % 3=1 then (P (j / 3)).c else (P (j / 3)).r)):=by
 unfold pgCells
 rw [Array.getElem?_ofFn]
 simp [h]
theorem pgCells_k (P:Nat → Pg) (n i:Nat) (h:i < n):(pgCells P n)[i * 3]?=some (.int .i64 (P i).k):=by
 rw [pgCells_at P n (i * 3) (by omega),if_pos (by omega),show i * 3 / 3=i by omega]
theorem pgCells_c (P:Nat → Pg) (n i:Nat) (h:i < n):(pgCells P n)[i * 3 + 1]?=some (.int .i64 (P i).c):=by
 rw [pgCells_at P n (i * 3 + 1) (by omega),if_neg (by omega),if_pos (by omega),show (i * 3 + 1) / 3=i by omega]
theorem pgCells_r (P:Nat → Pg) (n i:Nat) (h:i < n):(pgCells P n)[i * 3 + 2]?=some (.int .i64 (P i).r):=by
 rw [pgCells_at P n (i * 3 + 2) (by omega),if_neg (by omega),if_neg (by omega),show (i * 3 + 2) / 3=i by omega]
def setPg (P:Nat → Pg) (i:Nat) (g:Pg):Nat → Pg:=fun j => if j=i then g else P j
theorem pgCells_set (P:Nat → Pg) (n i:Nat) (g:Pg) :
 (((pgCells P n).setIfInBounds (i * 3) (.int .i64 g.k)).setIfInBounds (i * 3 + 1) (.int .i64 g.c)).setIfInBounds (i * 3 + 2) (.int .i64 g.r)=pgCells (setPg P i g) n:=by
 apply Array.ext_getElem?
 intro j
 by_cases hj:j < 3 * n
 ·rw [pgCells_at (setPg P i g) n j hj]
  rw [Array.getElem?_setIfInBounds,Array.getElem?_setIfInBounds,Array.getElem?_setIfInBounds]
  simp only [Array.size_setIfInBounds,pgCells_size]
  by_cases h2:i * 3 + 2=j
  ·subst h2
   rw [if_pos rfl,if_pos hj,if_neg (by omega),if_neg (by omega),show (i * 3 + 2) / 3=i by omega]
   simp [setPg]
  ·rw [if_neg h2]
   by_cases h1:i * 3 + 1=j
   ·subst h1
    rw [if_pos rfl,if_pos hj,if_neg (by omega),if_pos (by omega),show (i * 3 + 1) / 3=i by omega]
    simp [setPg]
   ·rw [if_neg h1]
    by_cases h0:i * 3=j
    ·subst h0
     rw [if_pos rfl,if_pos hj,if_pos (by omega),show i * 3 / 3=i by omega]
     simp [setPg]
    ·rw [if_neg h0,pgCells_at P n j hj]
     have:¬ j / 3=i:=by omega
     simp [setPg,this]
 ·rw [Array.getElem?_eq_none (by simp [pgCells_size];omega),Array.getElem?_eq_none (by simp [pgCells_size];omega)]
theorem app_at {α:Type} (a r:Array α) (j:Nat) (h:j < a.size):(a ++ r)[j]?=a[j]?:=by rw [Array.getElem?_append_left h]
theorem app_set {α:Type} (a r:Array α) (j:Nat) (v:α) (h:j < a.size):(a ++ r).setIfInBounds j v=a.setIfInBounds j v ++ r:=by
 apply Array.ext_getElem?
 intro i
 by_cases hi:i < a.size
 ·rw [Array.getElem?_append_left (by simpa using hi),Array.getElem?_setIfInBounds,Array.getElem?_setIfInBounds,Array.getElem?_append_left hi]
  have h2:j < (a ++ r).size:=by simp;omega
  simp [h]
  split <;> simp_all
 ·rw [Array.getElem?_append_right (by simpa using Nat.not_lt.1 hi),Array.getElem?_setIfInBounds,if_neg (by omega),Array.getElem?_append_right (Nat.not_lt.1 hi)]
  simp
structure TableAt (w:World) (lo hi tb pg cap n:Nat) (P:Nat → Pg) (low free:Int):Prop where
 top:hi ≤ w.heap.size
 tlo:lo ≤ tb
 thi:tb < hi
 glo:lo ≤ pg
 ghi:pg < hi
 tg:tb ≠ pg
 n1:1 ≤ n
 n2:n ≤ 4096
 head:w.heap[tb]?=some (.cells #[.slice (some ⟨pg,0,none⟩) n cap,.int .i64 low,.int .i64 free] 132 (0,0))
 ncap:n ≤ cap
 capM:cap ≤ maxLen
 row:∃ r,w.heap[pg]?=some (.cells (pgCells P n ++ r) 146 (0,0))
section
variable {w:World} {lo hi tb pg cap n:Nat} {P:Nat → Pg} {low free:Int} (h:TableAt w lo hi tb pg cap n P low free)
include h
theorem TableAt.c0:w.cell? ⟨tb,0,none⟩=some (.slice (some ⟨pg,0,none⟩) n cap):=by simp [World.cell?,h.head]
theorem TableAt.c1:w.cell? ⟨tb,1,none⟩=some (.int .i64 low):=by simp [World.cell?,h.head]
theorem TableAt.c2:w.cell? ⟨tb,2,none⟩=some (.int .i64 free):=by simp [World.cell?,h.head]
theorem TableAt.pk (i:Nat) (hi':i < n):w.cell? ⟨pg,i * 3,none⟩=some (.int .i64 (P i).k):=by
 obtain ⟨r,hrow⟩:=h.row
 simp only [World.cell?,hrow]
 rw [app_at _ _ _ (by rw [pgCells_size];omega)]
 simp [pgCells_k P n i hi']
theorem TableAt.pc (i:Nat) (hi':i < n):w.cell? ⟨pg,i * 3 + 1,none⟩=some (.int .i64 (P i).c):=by
 obtain ⟨r,hrow⟩:=h.row
 simp only [World.cell?,hrow]
 rw [app_at _ _ _ (by rw [pgCells_size];omega)]
 simp [pgCells_c P n i hi']
theorem TableAt.pr (i:Nat) (hi':i < n):w.cell? ⟨pg,i * 3 + 2,none⟩=some (.int .i64 (P i).r):=by
 obtain ⟨r,hrow⟩:=h.row
 simp only [World.cell?,hrow]
 rw [app_at _ _ _ (by rw [pgCells_size];omega)]
 simp [pgCells_r P n i hi']
theorem TableAt.kept {w':World} {lo' hi':Nat} (ho:Only lo' hi' w w') (hd:hi ≤ lo' ∨ hi' ≤ lo):TableAt w' lo hi tb pg cap n P low free:=by
 have h1:=h.top;have h2:=h.tlo;have h3:=h.thi;have h4:=h.glo;have h5:=h.ghi
 exact ⟨Nat.le_trans h.top ho.size,h.tlo,h.thi,h.glo,h.ghi,h.tg,h.n1,h.n2,by rw [ho.block tb (by omega) (by omega)];exact h.head,h.ncap,h.capM,by obtain ⟨r,hr⟩:=h.row;exact ⟨r,by rw [ho.block pg (by omega) (by omega)];exact hr⟩⟩
end
end Go.Proofs.YtfbcdmhmpfijjaaGreatDoor
namespace Go.Proofs.YtfbcdmhmpfijjaaGreatDoor
open Go Go.RowKit
def Pg.free (g:Pg):Bool:=(g.k == 0) && ((g.c == 0) && (g.r == 0))
theorem tlen_any (lo hi tb pg cap n:Nat) (P:Nat → Pg) (low free:Int) (w:World) (ht:TableAt w lo hi tb pg cap n P low free) :
 Calls Tryz.prog 139 #[.pointer (some ⟨tb,0,none⟩)] w fun e w' => e=.returned (.int .i64 n) ∧ w=w':=by
 have hc0:=ht.c0
 clear ht
 go_enter Tryz.func139,Tryz.ntmps139
 go_wp2
 go_ret
 exact ⟨rfl,rfl⟩
set_option maxHeartbeats 800000 in
theorem isFree_any (lo hi tb pg cap n i:Nat) (P:Nat → Pg) (low free:Int) (w:World) (ht:TableAt w lo hi tb pg cap n P low free) (hi':i < n) :
 Calls Tryz.prog 109 #[.pointer (some ⟨tb,0,none⟩),.int .i64 (i:Int)] w fun e w' => e=.returned (.bool (P i).free) ∧ w=w':=by
 have hc0:=ht.c0
 have hk:=ht.pk i hi'
 have hc:=ht.pc i hi'
 have hr:=ht.pr i hi'
 have hi0:(0:Int) ≤ (i:Int):=by omega
 have hi1:(i:Int) < (n:Int):=by omega
 clear ht hi'
 go_enter Tryz.func109,Tryz.ntmps109
 go_wp2
 all_goals
  go_ret
  exact ⟨by simp [Pg.free, *],rfl⟩
theorem TableAt.setLow {w:World} {lo hi tb pg cap n:Nat} {P:Nat → Pg} {low free:Int} (h:TableAt w lo hi tb pg cap n P low free) (x:Int):TableAt (w.setCell ⟨tb,1,none⟩ (.int .i64 x)) lo hi tb pg cap n P x free :=
 ⟨Nat.le_trans h.top (Nat.le_of_eq (by simp [World.setCell])),h.tlo,h.thi,h.glo,h.ghi,h.tg,h.n1,h.n2,by
  simp only [World.setCell,Array.getElem?_modify,h.head];simp,h.ncap,h.capM,by
  obtain ⟨r,hr⟩:=h.row
  exact ⟨r,by rw [Below.heap_setCell _ _ _ _ (by show pg ≠ tb;exact h.tg.symm)];exact hr⟩⟩
theorem TableAt.f (j:Nat) {w:World} {lo hi tb pg cap n:Nat} {P:Nat → Pg} {low free:Int} (h:TableAt w lo hi tb pg cap n P low free):w.frozen? ⟨tb,j,none⟩=false:=by simp [World.frozen?,h.head]
theorem TableAt.drewN {w:World} {lo hi tb pg cap n:Nat} {P:Nat → Pg} {low free:Int} (h:TableAt w lo hi tb pg cap n P low free) (m:Nat):TableAt (w.drewN m) lo hi tb pg cap n P low free :=
 ⟨h.top,h.tlo,h.thi,h.glo,h.ghi,h.tg,h.n1,h.n2,h.head,h.ncap,h.capM,h.row⟩
def firstFree (P:Nat → Pg) (n:Nat) (i:Nat):Nat:=if h:i < n then (if (P i).free then i else firstFree P n (i + 1)) else n
 termination_by n - i
end Go.Proofs.YtfbcdmhmpfijjaaGreatDoor
namespace Go.Proofs.YtfbcdmhmpfijjaaGreatDoor
open Go Go.RowKit
set_option maxHeartbeats 1600000 in
theorem rise_any (lo hi tb pg cap n l:Nat) (P:Nat → Pg) (free:Int) (w:World) (ht:TableAt w lo hi tb pg cap n P (l:Int) free) (hl:l ≤ n) :
 Calls Tryz.prog 108 #[.pointer (some ⟨tb,0,none⟩)] w fun e w' => e=.returned (.tuple #[]) ∧ TableAt w' lo hi tb pg cap n P (firstFree P n l:Nat) free ∧ Only lo hi w w':=by
 have hn2:=ht.n2
 have HT:=Lib.hid ht;clear ht
 go_enter Tryz.func108,Tryz.ntmps108
 go_wp2_with fail
 go_loopw [] (fun wr => ∃ a:Nat,a ≤ n ∧ firstFree P n a=firstFree P n l ∧ TableAt wr lo hi tb pg cap n P (a:Int) free ∧ Only lo hi w wr) (fun wr => match wr.cell? ⟨tb,1,none⟩ with | some v => n + 1 - (intOf v).toNat | none => 0)
 case atStart => exact ⟨l,hl,rfl,HT.out,Only.refl _ _ _⟩
 case round =>
  obtain ⟨a,ha,hf,hta,ho⟩:=hrel
  have hc0:=hta.c0
  have hc1:=hta.c1
  have ha0:(0:Int) ≤ (a:Int):=by omega
  have HTA:=Lib.hid hta;clear hta
  have HF:=Lib.hid hf;clear hf
  have HO:=Lib.hid ho;clear ho
  by_cases hlt:a < n
  ·have hd:(a:Int) < (n:Int):=by omega
   have HFR:Hid (∀ m,Calls Tryz.prog 109 #[.pointer (some ⟨tb,0,none⟩),.int .i64 (a:Int)] (wr.drewN m) fun e w' => e=.returned (.bool (P a).free) ∧ wr.drewN m=w'):=fun m => isFree_any lo hi tb pg cap n a P _ free _ (HTA.out.drewN m) hlt
   by_cases hfr:(P a).free=true
   ·have he:firstFree P n a=a:=by rw [firstFree,dif_pos hlt,if_pos hfr]
    have HE:Hid (firstFree P n l=a):=HF.out.symm.trans he
    rw [hfr] at HFR
    clear he hfr
    go_wp2_with fail
    go_quiet (((go_at_call 109;exact quiet_eq (HFR.out _))))
    go_wp2
    go_end0
    exact ⟨rfl,by rw [HE.out];exact HTA.out.drewN _,HO.out.drewN _⟩
   ·have hff:(P a).free=false:=by simpa using hfr
    have he:firstFree P n a=firstFree P n (a + 1):=by rw [firstFree,dif_pos hlt,if_neg hfr]
    have HE:Hid (firstFree P n (a + 1)=firstFree P n l):=he.symm.trans HF.out
    have hfz:=HTA.out.f 1
    rw [hff] at HFR
    clear he hfr hff
    have HLT:=Lib.hid hlt
    have hw:IntKind.i64.wrap ((a:Int) + 1)=((a + 1:Nat):Int):=by rw [IntKind.wrap_i64];omega
    go_wp2_with fail
    go_quiet (((go_at_call 109;exact quiet_eq (HFR.out _))))
    go_wp2
    go_roundw
    case rel => exact ⟨a + 1,by have:=HLT.out;omega,HE.out,(HTA.out.drewN _).setLow _,(HO.out.drewN _).setCell (.inl ⟨HTA.out.tlo,HTA.out.thi⟩) _⟩
    case measure =>
     rw [show ((wr.drewN nq).setCell ⟨tb,1,none⟩ (.int .i64 ((a:Int) + 1))).cell? ⟨tb,1,none⟩=some (.int .i64 ((a:Int) + 1)) from World.cell?_setCell_same _ _ _ (show (wr.drewN nq).cell? ⟨tb,1,none⟩=_ from hc1),hc1]
     have:=HLT.out
     simp [intOf];omega
  ·have hd:decide ((a:Int) < (n:Int))=false:=decide_eq_false (by omega)
   have HE:Hid (firstFree P n l=a):=Lib.hid (by rw [← HF.out,firstFree,dif_neg hlt];omega)
   go_wp2_with fail
   go_quiet (fail)
   go_wp2
   go_end0
   exact ⟨rfl,by rw [HE.out];exact HTA.out.drewN _,HO.out.drewN _⟩
end Go.Proofs.YtfbcdmhmpfijjaaGreatDoor
namespace Go.Proofs.YtfbcdmhmpfijjaaGreatDoor
open Go Go.RowKit
theorem Tryz.infoPg:(Tryz.prog.info? 146).map (fun i => (i.zero,i.size,i.bytes))=some (some (.agg #[.int .i64 0,.int .i64 0,.int .i64 0]),3,24):=by kernel_rfl
theorem made_pages (n:Nat):madeCells #[.int .i64 0,.int .i64 0,.int .i64 0] (n * 3)=pgCells (fun _ => ⟨0,0,0⟩) n:=by
 apply Array.ext_getElem?
 intro j
 by_cases hj:j < 3 * n
 ·rw [pgCells_at _ n j hj]
  have hs:j < (madeCells #[Value.int .i64 0,.int .i64 0,.int .i64 0] (n * 3)).size:=by rw [size_madeCells];omega
  rw [Array.getElem?_eq_getElem hs]
  unfold madeCells
  have h3:j % 3=0 ∨ j % 3=1 ∨ j % 3=2:=by omega
  rcases h3 with h | h | h <;> simp [h]
 ·rw [Array.getElem?_eq_none (by rw [size_madeCells];omega),Array.getElem?_eq_none (by rw [pgCells_size];omega)]
set_option maxHeartbeats 800000 in
theorem pnew_yes (n:Nat) (w:World) (h1:1 ≤ n) (h2:n ≤ 4096) :
 Calls Tryz.prog 44 #[.int .i64 (n:Int)] w fun e w' => ∃ tb pg,e=.returned (.tuple #[.pointer (some ⟨tb,0,none⟩),.int .i64 0]) ∧ TableAt w' w.heap.size w'.heap.size tb pg n n (fun _ => ⟨0,0,0⟩) 0 n ∧ Still w w':=by
 obtain ⟨i0,hi,hz0,hz1,hz2⟩:=info_parts Tryz.infoPg
 have hn0:(0:Int) ≤ (n:Int):=by omega
 have hmk:=run_make (P:=Tryz.prog) w 70 146 i0 (.agg #[.int .i64 0,.int .i64 0,.int .i64 0]) Tryz.underlying70 hi hz0 .i64 .i64 (n:Int) (n:Int) (by omega) (Int.le_refl _) (by rw [hz2];omega) (by omega)
 rw [hz1,Int.toNat_natCast,show (Value.agg #[Value.int .i64 0,.int .i64 0,.int .i64 0]).cells=#[Value.int .i64 0,.int .i64 0,.int .i64 0] from rfl,made_pages] at hmk
 have hd1:decide ((n:Int) < 1)=false:=decide_eq_false (by omega)
 have hd2:decide ((4096:Int) < (n:Int))=false:=decide_eq_false (by omega)
 clear hi hz0 hz1 hz2
 go_enter Tryz.func44,Tryz.ntmps44
 go_wp2
 go_ret2
 refine ⟨w.heap.size + 1,w.heap.size,rfl,?_,((Only.refl _ _ w).alloc _).alloc _⟩
 refine ⟨Nat.le_refl _,by omega,by simp,Nat.le_refl _,by simp;omega,by omega,h1,h2,?_,Nat.le_refl _,(by unfold maxLen;omega),⟨#[],?_⟩⟩
 ·have:=heap_alloc_new (w.alloc (.cells (pgCells (fun _ => ⟨0,0,0⟩) n) 146)) (.cells #[.slice (some ⟨w.heap.size,0,none⟩) n n,.int .i64 0,.int .i64 (n:Int)] 132)
  rw [show (w.alloc (.cells (pgCells (fun _ => ⟨0,0,0⟩) n) 146)).heap.size=w.heap.size + 1 by simp] at this
  exact this
 ·rw [Array.append_empty]
  exact (heap_alloc_old (w.alloc _) _ (by simp)).trans (heap_alloc_new w _)
end Go.Proofs.YtfbcdmhmpfijjaaGreatDoor
namespace Go.Proofs.YtfbcdmhmpfijjaaGreatDoor
open Go Go.RowKit
theorem TableAt.rf (j:Nat) {w:World} {lo hi tb pg cap n:Nat} {P:Nat → Pg} {low free:Int} (h:TableAt w lo hi tb pg cap n P low free):w.frozen? ⟨pg,j,none⟩=false:=by obtain ⟨r,hr⟩:=h.row;simp [World.frozen?,hr]
theorem set_cell {w:World} {p q:Addr} {v u:Value} (h:w.cell? p=some v) (hne:p.block ≠ q.block):(w.setCell q u).cell? p=some v :=
 ((Only.refl q.block (q.block + 1) w).setCell (.inl ⟨Nat.le_refl _,Nat.lt_succ_self _⟩) u |>.cell (World.block_lt_of_cell? w _ h) (by omega)).trans h
theorem TableAt.setPage {w:World} {lo hi tb pg cap n:Nat} {P:Nat → Pg} {low free:Int} (h:TableAt w lo hi tb pg cap n P low free) (i:Nat) (hi':i < n) (g:Pg) :
 TableAt (((w.setCell ⟨pg,i * 3,none⟩ (.int .i64 g.k)).setCell ⟨pg,i * 3 + 1,none⟩ (.int .i64 g.c)).setCell ⟨pg,i * 3 + 2,none⟩ (.int .i64 g.r)) lo hi tb pg cap n (setPg P i g) low free :=
 ⟨Nat.le_trans h.top (Nat.le_of_eq (by simp [World.setCell])),h.tlo,h.thi,h.glo,h.ghi,h.tg,h.n1,h.n2,by
  rw [Below.heap_setCell _ _ _ _ (by show tb ≠ pg;exact h.tg),Below.heap_setCell _ _ _ _ (by show tb ≠ pg;exact h.tg),Below.heap_setCell _ _ _ _ (by show tb ≠ pg;exact h.tg)];exact h.head,h.ncap,h.capM,by
  obtain ⟨r,hr⟩:=h.row
  refine ⟨r,?_⟩
  simp only [World.setCell,Array.getElem?_modify,hr,if_pos,Option.map_some,Option.isSome_none,Bool.false_eq_true,if_false]
  rw [← pgCells_set]
  have hs:=pgCells_size P n
  rw [app_set _ _ _ _ (by omega),app_set _ _ _ _ (by rw [Array.size_setIfInBounds];omega),app_set _ _ _ _ (by rw [Array.size_setIfInBounds,Array.size_setIfInBounds];omega)]⟩
theorem TableAt.setFree {w:World} {lo hi tb pg cap n:Nat} {P:Nat → Pg} {low free:Int} (h:TableAt w lo hi tb pg cap n P low free) (x:Int):TableAt (w.setCell ⟨tb,2,none⟩ (.int .i64 x)) lo hi tb pg cap n P low x :=
 ⟨Nat.le_trans h.top (Nat.le_of_eq (by simp [World.setCell])),h.tlo,h.thi,h.glo,h.ghi,h.tg,h.n1,h.n2,by
  simp only [World.setCell,Array.getElem?_modify,h.head];simp,h.ncap,h.capM,by
  obtain ⟨r,hr⟩:=h.row
  exact ⟨r,by rw [Below.heap_setCell _ _ _ _ (by show pg ≠ tb;exact h.tg.symm)];exact hr⟩⟩
theorem firstFree_le (P:Nat → Pg) (n i:Nat) (h:i ≤ n):firstFree P n i ≤ n:=by
 induction hk:n - i generalizing i with
 | zero => rw [firstFree,dif_neg (by omega)];exact Nat.le_refl _
 | succ k ih =>
  rw [firstFree,dif_pos (by omega)]
  split
  ·exact h
  ·exact ih (i + 1) (by omega) (by omega)
set_option maxHeartbeats 1600000 in
theorem takeClass_none (lo hi tb pg cap n l:Nat) (c:Int) (P:Nat → Pg) (free:Int) (w:World) (ht:TableAt w lo hi tb pg cap n P (l:Int) free) (hl:l ≤ n) (hc:0 ≤ c ∧ c < 8) (hf:firstFree P n l=n) :
 Calls Tryz.prog 67 #[.pointer (some ⟨tb,0,none⟩),.int .i64 c] w fun e w' => e=.returned (.tuple #[.int .i64 0,.int .i64 20]) ∧ TableAt w' lo hi tb pg cap n P (n:Nat) free ∧ Only lo hi w w':=by
 have HT:=Lib.hid ht;clear ht
 have hcw:(Sp.cww c == 0)=false:=by
  rcases Sp.cww_8 c hc with h | h | h | h | h | h | h | h <;> rw [h] <;> decide
 have HC:=Lib.hid (fun w => cwords_any c w)
 generalize Sp.cww c=x at *
 go_enter Tryz.func67,Tryz.ntmps67
 go_wp2_with fail
 refine (HC.out _).mono ?_
 rintro e w1 ⟨rfl,hs⟩
 have HT1:=Lib.hid (HT.out.kept hs (.inl HT.out.top))
 have HS:=Lib.hid (hs.any lo hi);clear hs
 go_wp2_with fail
 refine (rise_any lo hi tb pg cap n l P free _ HT1.out hl).mono ?_
 rintro e w2 ⟨rfl,ht2,ho2⟩
 rw [hf] at ht2
 have hc0:=ht2.c0
 have hc1:=ht2.c1
 have HT2:=Lib.hid ht2;have HO:=Lib.hid (HS.out.trans ho2)
 clear ht2 ho2
 go_wp2_with fail
 go_quiet (fail)
 go_wp2
 go_ret2
 exact ⟨rfl,HT2.out.drewN _,HO.out.drewN _⟩
set_option maxHeartbeats 1600000 in
theorem takeClass_yes (lo hi tb pg cap n l i:Nat) (c:Int) (P:Nat → Pg) (free:Int) (w:World) (ht:TableAt w lo hi tb pg cap n P (l:Int) free) (hl:l ≤ n) (hc:0 ≤ c ∧ c < 8) (hf:firstFree P n l=i) (hi':i < n) :
 Calls Tryz.prog 67 #[.pointer (some ⟨tb,0,none⟩),.int .i64 c] w fun e w' => e=.returned (.tuple #[.int .i64 (i:Int),.int .i64 0]) ∧ TableAt w' lo hi tb pg cap n (setPg P i ⟨1,c,0⟩) (i:Nat) (wrap64 (free - 1)) ∧ Only lo hi w w':=by
 have HT:=Lib.hid ht;clear ht
 have hcw:(Sp.cww c == 0)=false:=by
  rcases Sp.cww_8 c hc with h | h | h | h | h | h | h | h <;> rw [h] <;> decide
 have HC:=Lib.hid (fun w => cwords_any c w)
 generalize Sp.cww c=x at *
 have hi0:(0:Int) ≤ (i:Int):=by omega
 have hi1:(i:Int) < (n:Int):=by omega
 have hne:((i:Int) == (n:Int))=false:=beq_eq_false_iff_ne.2 (by omega)
 have hwf:IntKind.i64.wrap (free - 1)=wrap64 (free - 1):=IntWalk.i64_left _
 go_enter Tryz.func67,Tryz.ntmps67
 go_wp2_with fail
 refine (HC.out _).mono ?_
 rintro e w1 ⟨rfl,hs⟩
 have HT1:=Lib.hid (HT.out.kept hs (.inl HT.out.top))
 have HS:=Lib.hid (hs.any lo hi);clear hs
 go_wp2_with fail
 refine (rise_any lo hi tb pg cap n l P free _ HT1.out hl).mono ?_
 rintro e w2 ⟨rfl,ht2,ho2⟩
 rw [hf] at ht2
 have hc0:=ht2.c0
 have hc1:=ht2.c1
 have hc2:=ht2.c2
 have HT2:=Lib.hid ht2;have HO:=Lib.hid (HS.out.trans ho2)
 clear ht2 ho2
 go_wp2_with fail
 go_quiet (fail)
 go_wp2_with fail
 have hk:=HT2.out.pk i hi'
 have hcc:=HT2.out.pc i hi'
 have hr:=HT2.out.pr i hi'
 have htg:=HT2.out.tg
 have hfz:=HT2.out.rf (i * 3)
 have hfz1:=HT2.out.rf (i * 3 + 1)
 have hfz2:=HT2.out.rf (i * 3 + 2)
 go_region_held3 (fun w' => w'.cell? ⟨tb,0,none⟩=some (.slice (some ⟨pg,0,none⟩) n cap) ∧ w'.cell? ⟨tb,1,none⟩=some (.int .i64 (i:Int))) (first | exact ⟨hc0,hc1⟩ | exact ⟨set_cell (set_cell (set_cell hc0 htg) htg) htg,set_cell (set_cell (set_cell hc1 htg) htg) htg⟩) (fail)
 have ht3:=(HT2.out.drewN (nq + 1)).setPage i hi' ⟨1,c,0⟩
 have ho3:Only lo hi w _:=((((HO.out.drewN (nq + 1)).setCell (p:=⟨pg,i * 3,none⟩) (.inl ⟨HT2.out.glo,HT2.out.ghi⟩) (.int .i64 1)).setCell (p:=⟨pg,i * 3 + 1,none⟩) (.inl ⟨HT2.out.glo,HT2.out.ghi⟩) (.int .i64 c)).setCell (p:=⟨pg,i * 3 + 2,none⟩) (.inl ⟨HT2.out.glo,HT2.out.ghi⟩) (.int .i64 0))
 dsimp only at ht3
 clear hc0 hc1 hc2 hk hcc hr hfz hfz1 hfz2
 generalize ((((w2.drewN (nq + 1)).setCell ⟨pg,i * 3,none⟩ (.int .i64 1)).setCell ⟨pg,i * 3 + 1,none⟩ (.int .i64 c)).setCell ⟨pg,i * 3 + 2,none⟩ (.int .i64 0))=w3 at *
 have hc1:=ht3.c1
 have hc2:=ht3.c2
 have hfz:=ht3.f 2
 have ht4:=ht3.setFree (wrap64 (free - 1))
 have hd1:=ht4.c1
 have HT4:=Lib.hid ht4;have HO3:=Lib.hid (ho3.setCell (p:=⟨tb,2,none⟩) (.inl ⟨HT2.out.tlo,HT2.out.thi⟩) (.int .i64 (wrap64 (free - 1))))
 clear ht3 ht4 ho3
 go_wp2
 go_ret2
 exact ⟨rfl,HT4.out,HO3.out⟩
end Go.Proofs.YtfbcdmhmpfijjaaGreatDoor
