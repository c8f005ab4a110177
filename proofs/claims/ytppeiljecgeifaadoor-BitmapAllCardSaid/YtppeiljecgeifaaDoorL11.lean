/-
  The walks of (*hearthlaw3.pair).gone and of what it hands to the iterator.
-/
import Derived.Test.YtppeiljecgeifaaDoorL10
namespace Go.Proofs.YtppeiljecgeifaaDoor
open Go Go.RowKit

/-- The variables that the function literal of gone shares with it, a box each from block b on. -/
structure Boxes (w : World) (b : Nat) (good : Bool) (want stop told at' : Int) (q : Addr) (who k A B C : Int) : Prop where
  xp : w.heap[b]? = some (.cells #[.pointer (some q)] 23 (0, 0))
  xs : w.heap[b + 1]? = some (.cells #[.int .i64 stop] 3 (0, 0))
  xa : w.heap[b + 2]? = some (.cells #[.int .i64 at'] 3 (0, 0))
  xo : w.heap[b + 3]? = some (.cells #[.int .i64 who, .int .i64 k, .int .i64 A, .int .i64 B, .int .i64 C] 66 (0, 0))
  xw : w.heap[b + 4]? = some (.cells #[.int .i64 want] 3 (0, 0))
  xt : w.heap[b + 5]? = some (.cells #[.int .i64 told] 3 (0, 0))
  xg : w.heap[b + 6]? = some (.cells #[.bool good] 4 (0, 0))

theorem heap_set {w : World} {g : Nat} {v : Value} {e : TypeId} (h : w.heap[g]? = some (.cells #[v] e (0, 0))) (u : Value) : (w.setCell ⟨g, 0, none⟩ u).heap[g]? = some (.cells #[u] e (0, 0)) := by
  simp only [World.setCell, Array.getElem?_modify, h]
  simp
theorem Boxes.kept {w w' : World} {b : Nat} {good : Bool} {want stop told at' : Int} {q : Addr} {who k A B C : Int} (h : Boxes w b good want stop told at' q who k A B C) {lo hi : Nat} (ho : Only lo hi w w') (hb : hi ≤ b) : Boxes w' b good want stop told at' q who k A B C := by
  have hs : b + 6 < w.heap.size := (Array.getElem?_eq_some_iff.1 h.xg).1
  exact ⟨by rw [ho.block b (by omega) (by omega)]; exact h.xp, by rw [ho.block (b + 1) (by omega) (by omega)]; exact h.xs, by rw [ho.block (b + 2) (by omega) (by omega)]; exact h.xa, by rw [ho.block (b + 3) (by omega) (by omega)]; exact h.xo,
    by rw [ho.block (b + 4) (by omega) (by omega)]; exact h.xw, by rw [ho.block (b + 5) (by omega) (by omega)]; exact h.xt, by rw [ho.block (b + 6) (by omega) (by omega)]; exact h.xg⟩
theorem Boxes.setT {w : World} {b : Nat} {good : Bool} {want stop told at' : Int} {q : Addr} {who k A B C : Int} (h : Boxes w b good want stop told at' q who k A B C) (x : Int) : Boxes (w.setCell ⟨b + 5, 0, none⟩ (.int .i64 x)) b good want stop x at' q who k A B C :=
  ⟨by rw [Below.heap_setCell _ _ _ _ (by show b ≠ b + 5; omega)]; exact h.xp, by rw [Below.heap_setCell _ _ _ _ (by show b + 1 ≠ b + 5; omega)]; exact h.xs, by rw [Below.heap_setCell _ _ _ _ (by show b + 2 ≠ b + 5; omega)]; exact h.xa,
    by rw [Below.heap_setCell _ _ _ _ (by show b + 3 ≠ b + 5; omega)]; exact h.xo, by rw [Below.heap_setCell _ _ _ _ (by show b + 4 ≠ b + 5; omega)]; exact h.xw, heap_set h.xt _, by rw [Below.heap_setCell _ _ _ _ (by show b + 6 ≠ b + 5; omega)]; exact h.xg⟩
theorem Boxes.setW {w : World} {b : Nat} {good : Bool} {want stop told at' : Int} {q : Addr} {who k A B C : Int} (h : Boxes w b good want stop told at' q who k A B C) (x : Int) : Boxes (w.setCell ⟨b + 4, 0, none⟩ (.int .i64 x)) b good x stop told at' q who k A B C :=
  ⟨by rw [Below.heap_setCell _ _ _ _ (by show b ≠ b + 4; omega)]; exact h.xp, by rw [Below.heap_setCell _ _ _ _ (by show b + 1 ≠ b + 4; omega)]; exact h.xs, by rw [Below.heap_setCell _ _ _ _ (by show b + 2 ≠ b + 4; omega)]; exact h.xa,
    by rw [Below.heap_setCell _ _ _ _ (by show b + 3 ≠ b + 4; omega)]; exact h.xo, heap_set h.xw _, by rw [Below.heap_setCell _ _ _ _ (by show b + 5 ≠ b + 4; omega)]; exact h.xt, by rw [Below.heap_setCell _ _ _ _ (by show b + 6 ≠ b + 4; omega)]; exact h.xg⟩
theorem Boxes.setG {w : World} {b : Nat} {good : Bool} {want stop told at' : Int} {q : Addr} {who k A B C : Int} (h : Boxes w b good want stop told at' q who k A B C) (x : Bool) : Boxes (w.setCell ⟨b + 6, 0, none⟩ (.bool x)) b x want stop told at' q who k A B C :=
  ⟨by rw [Below.heap_setCell _ _ _ _ (by show b ≠ b + 6; omega)]; exact h.xp, by rw [Below.heap_setCell _ _ _ _ (by show b + 1 ≠ b + 6; omega)]; exact h.xs, by rw [Below.heap_setCell _ _ _ _ (by show b + 2 ≠ b + 6; omega)]; exact h.xa,
    by rw [Below.heap_setCell _ _ _ _ (by show b + 3 ≠ b + 6; omega)]; exact h.xo, by rw [Below.heap_setCell _ _ _ _ (by show b + 4 ≠ b + 6; omega)]; exact h.xw, by rw [Below.heap_setCell _ _ _ _ (by show b + 5 ≠ b + 6; omega)]; exact h.xt, heap_set h.xg _⟩
section
variable {w : World} {b : Nat} {good : Bool} {want stop told at' : Int} {q : Addr} {who k A B C : Int} (h : Boxes w b good want stop told at' q who k A B C)
include h
theorem Boxes.cp : w.cell? ⟨b, 0, none⟩ = some (.pointer (some q)) := by simp [World.cell?, h.xp]
theorem Boxes.cs : w.cell? ⟨b + 1, 0, none⟩ = some (.int .i64 stop) := by simp [World.cell?, h.xs]
theorem Boxes.ca : w.cell? ⟨b + 2, 0, none⟩ = some (.int .i64 at') := by simp [World.cell?, h.xa]
theorem Boxes.co0 : w.cell? ⟨b + 3, 0, none⟩ = some (.int .i64 who) := by simp [World.cell?, h.xo]
theorem Boxes.co1 : w.cell? ⟨b + 3, 1, none⟩ = some (.int .i64 k) := by simp [World.cell?, h.xo]
theorem Boxes.co2 : w.cell? ⟨b + 3, 2, none⟩ = some (.int .i64 A) := by simp [World.cell?, h.xo]
theorem Boxes.co3 : w.cell? ⟨b + 3, 3, none⟩ = some (.int .i64 B) := by simp [World.cell?, h.xo]
theorem Boxes.co4 : w.cell? ⟨b + 3, 4, none⟩ = some (.int .i64 C) := by simp [World.cell?, h.xo]
theorem Boxes.cw : w.cell? ⟨b + 4, 0, none⟩ = some (.int .i64 want) := by simp [World.cell?, h.xw]
theorem Boxes.ct : w.cell? ⟨b + 5, 0, none⟩ = some (.int .i64 told) := by simp [World.cell?, h.xt]
theorem Boxes.cg : w.cell? ⟨b + 6, 0, none⟩ = some (.bool good) := by simp [World.cell?, h.xg]
theorem Boxes.fw : w.frozen? ⟨b + 4, 0, none⟩ = false := by simp [World.frozen?, h.xw]
theorem Boxes.ft : w.frozen? ⟨b + 5, 0, none⟩ = false := by simp [World.frozen?, h.xt]
theorem Boxes.fg : w.frozen? ⟨b + 6, 0, none⟩ = false := by simp [World.frozen?, h.xg]
theorem Boxes.lt : b + 6 < w.heap.size := (Array.getElem?_eq_some_iff.1 h.xg).1
theorem Boxes.drewN (m : Nat) : Boxes (w.drewN m) b good want stop told at' q who k A B C := ⟨h.xp, h.xs, h.xa, h.xo, h.xw, h.xt, h.xg⟩
end

set_option maxHeartbeats 1600000 in
theorem yield_any (lo hi qb bx : Nat) (pm pr : Addr) (a b c d n B0 : Nat) (S : Nat → Bool) (stop told at' who k A B C : Int) (i : Nat) (w w0 : World) (hp : PairAt w lo hi qb bx pm pr a b c d n S)
    (hb : Boxes w B0 true (i : Int) stop told at' ⟨qb, 0, none⟩ who k A B C) (ho : Only lo hi w0 w) (hB : w0.heap.size ≤ B0) (hhi : hi ≤ B0) (hA : A ≤ 9223372036854775807) (hi0 : (i : Int) ≤ 262144) (ht0 : 0 ≤ told) (ht1 : told ≤ 262144) (hst : stop < 0 ∨ told < stop) :
    Calls Tryd.prog 52 #[.int .i64 (i : Int), .pointer (some ⟨B0 + 6, 0, none⟩), .pointer (some ⟨B0 + 4, 0, none⟩), .pointer (some ⟨B0 + 1, 0, none⟩), .pointer (some ⟨B0 + 5, 0, none⟩), .pointer (some ⟨B0 + 2, 0, none⟩), .pointer (some ⟨B0, 0, none⟩), .pointer (some ⟨B0 + 3, 0, none⟩)] w
      fun e w' => e = .returned (.bool (decide (stop < 0 ∨ told + 1 < stop))) ∧ ∃ S', PairAt w' lo hi qb bx pm pr a b c d n S' ∧ Boxes w' B0 true (Bm.next S' n ((i : Int) + 1)) stop (told + 1) at' ⟨qb, 0, none⟩ who k A B C ∧ Only lo hi w0 w' := by
  have hcg := hb.cg; have hcw := hb.cw; have hcs := hb.cs; have hct := hb.ct; have hft := hb.ft; have hca := hb.ca; have hcp := hb.cp
  have ho0 := hb.co0; have ho1 := hb.co1; have ho2 := hb.co2; have ho3 := hb.co3; have ho4 := hb.co4; have hfw := hb.fw
  have hq1 := hp.c1
  have hi1 : (0 : Int) ≤ (i : Int) := by omega
  have hqb : Hid (qb < B0) := by have := hp.qhi; exact (by omega : qb < B0)
  have hne4 : ¬ B0 + 4 = qb := by have := hqb.out; omega
  have hne5 : ¬ B0 + 5 = qb := by have := hqb.out; omega
  have hne6 : ¬ B0 + 6 = qb := by have := hqb.out; omega
  have HP := Lib.hid hp; clear hp
  have HB := Lib.hid hb; clear hb
  have HO := Lib.hid ho; clear ho
  have HP5 : Hid (PairAt (w.setCell ⟨B0 + 5, 0, none⟩ (.int .i64 (told + 1))) lo hi qb bx pm pr a b c d n S) :=
    HP.out.kept ((Only.refl (B0 + 5) (B0 + 6) w).setCell (.inl ⟨Nat.le_refl _, Nat.lt_succ_self _⟩) _) (.inl (by omega))
  have HB5 := Lib.hid (HB.out.setT (told + 1))
  have HO5 : Hid (Only lo hi w0 (w.setCell ⟨B0 + 5, 0, none⟩ (.int .i64 (told + 1)))) := HO.out.setCell (.inr (by show w0.heap.size ≤ B0 + 5; omega)) _
  have hd1 : decide ((i : Int) < 0) = false := decide_eq_false (by omega)
  by_cases hneg : stop < 0
  · have hd2 : decide (0 ≤ stop) = false := decide_eq_false (by omega)
    have HR : Hid (decide (stop < 0 ∨ told + 1 < stop) = true) := decide_eq_true (.inl hneg)
    rw [HR.out]
    clear hst
    by_cases hat : told + 1 = at'
    · have hab : (told + 1 == at') = true := beq_iff_eq.2 hat
      clear hat
      go_enter Tryd.func52, Tryd.ntmps52
      go_wp2_with fail
      refine (turned_any lo hi qb bx pm pr a b c d n S who k A B C _ HP5.out hA).mono ?_
      rintro e w6 ⟨rfl, ⟨S6, hp6⟩, ho6⟩
      have HB6 := Lib.hid (HB5.out.kept ho6 hhi)
      have HO6 := Lib.hid (HO5.out.trans ho6)
      have hcg6 := HB6.out.cg; have hfg6 := HB6.out.fg
      have HP7 : Hid (PairAt (w6.setCell ⟨B0 + 6, 0, none⟩ (.bool true)) lo hi qb bx pm pr a b c d n S6) :=
        hp6.kept ((Only.refl (B0 + 6) (B0 + 7) w6).setCell (.inl ⟨Nat.le_refl _, Nat.lt_succ_self _⟩) _) (.inl (by omega))
      have HB7 := Lib.hid (HB6.out.setG true)
      have HO7 : Hid (Only lo hi w0 (w6.setCell ⟨B0 + 6, 0, none⟩ (.bool true))) := HO6.out.setCell (.inr (by show w0.heap.size ≤ B0 + 6; omega)) _
      have hcp6 := HB6.out.cp; have hq6 := hp6.c1; have hcw6 := HB6.out.cw; have hfw6 := HB6.out.fw; have hcs6 := HB6.out.cs; have hct6 := HB6.out.ct
      clear hp6 ho6 hcg hcw hcs hct hft hca hcp ho0 ho1 ho2 ho3 ho4 hfw hq1
      go_wp2_with fail
      refine (rnext_any c d n pr S6 ((i : Int) + 1) _ HP7.out.ref).mono ?_
      rintro e w9 ⟨rfl, rfl⟩
      generalize hx : Bm.next S6 n ((i : Int) + 1) = x at *
      have HX := Lib.hid hx; clear hx
      have HP9 : Hid (PairAt ((w6.setCell ⟨B0 + 6, 0, none⟩ (.bool true)).setCell ⟨B0 + 4, 0, none⟩ (.int .i64 x)) lo hi qb bx pm pr a b c d n S6) :=
        HP7.out.kept ((Only.refl (B0 + 4) (B0 + 5) _).setCell (.inl ⟨Nat.le_refl _, Nat.lt_succ_self _⟩) _) (.inl (by omega))
      have HB9 := Lib.hid (HB7.out.setW x)
      have HO9 : Hid (Only lo hi w0 ((w6.setCell ⟨B0 + 6, 0, none⟩ (.bool true)).setCell ⟨B0 + 4, 0, none⟩ (.int .i64 x))) := HO7.out.setCell (.inr (by show w0.heap.size ≤ B0 + 4; omega)) _
      go_wp2
      go_ret
      exact ⟨rfl, S6, HP9.out, by rw [HX.out]; exact HB9.out, HO9.out⟩
    · have hab : (told + 1 == at') = false := beq_eq_false_iff_ne.2 hat
      clear hat
      go_enter Tryd.func52, Tryd.ntmps52
      go_wp2_with fail
      refine (rnext_any c d n pr S ((i : Int) + 1) _ HP5.out.ref).mono ?_
      rintro e w9 ⟨rfl, rfl⟩
      generalize hx : Bm.next S n ((i : Int) + 1) = x at *
      have HX := Lib.hid hx; clear hx
      have HP9 : Hid (PairAt ((w.setCell ⟨B0 + 5, 0, none⟩ (.int .i64 (told + 1))).setCell ⟨B0 + 4, 0, none⟩ (.int .i64 x)) lo hi qb bx pm pr a b c d n S) :=
        HP5.out.kept ((Only.refl (B0 + 4) (B0 + 5) _).setCell (.inl ⟨Nat.le_refl _, Nat.lt_succ_self _⟩) _) (.inl (by omega))
      have HB9 := Lib.hid (HB5.out.setW x)
      have HO9 : Hid (Only lo hi w0 ((w.setCell ⟨B0 + 5, 0, none⟩ (.int .i64 (told + 1))).setCell ⟨B0 + 4, 0, none⟩ (.int .i64 x))) := HO5.out.setCell (.inr (by show w0.heap.size ≤ B0 + 4; omega)) _
      go_wp2
      go_ret
      exact ⟨rfl, S, HP9.out, by rw [HX.out]; exact HB9.out, HO9.out⟩
  · have h0s : 0 ≤ stop := by omega
    have hts : told < stop := by omega
    have hd2 : decide (stop ≤ told) = false := decide_eq_false (by omega)
    have hd3 : decide (stop < 0) = false := decide_eq_false hneg
    clear hst
    by_cases hlast : told + 1 < stop
    · have HR : Hid (decide (stop < 0 ∨ told + 1 < stop) = true) := decide_eq_true (.inr hlast)
      rw [HR.out]
      by_cases hat : told + 1 = at'
      · have hab : (told + 1 == at') = true := beq_iff_eq.2 hat
        clear hat
        go_enter Tryd.func52, Tryd.ntmps52
        go_wp2_with fail
        refine (turned_any lo hi qb bx pm pr a b c d n S who k A B C _ HP5.out hA).mono ?_
        rintro e w6 ⟨rfl, ⟨S6, hp6⟩, ho6⟩
        have HB6 := Lib.hid (HB5.out.kept ho6 hhi)
        have HO6 := Lib.hid (HO5.out.trans ho6)
        have hcg6 := HB6.out.cg; have hfg6 := HB6.out.fg
        have HP7 : Hid (PairAt (w6.setCell ⟨B0 + 6, 0, none⟩ (.bool true)) lo hi qb bx pm pr a b c d n S6) :=
          hp6.kept ((Only.refl (B0 + 6) (B0 + 7) w6).setCell (.inl ⟨Nat.le_refl _, Nat.lt_succ_self _⟩) _) (.inl (by omega))
        have HB7 := Lib.hid (HB6.out.setG true)
        have HO7 : Hid (Only lo hi w0 (w6.setCell ⟨B0 + 6, 0, none⟩ (.bool true))) := HO6.out.setCell (.inr (by show w0.heap.size ≤ B0 + 6; omega)) _
        have hcp6 := HB6.out.cp; have hq6 := hp6.c1; have hcw6 := HB6.out.cw; have hfw6 := HB6.out.fw; have hcs6 := HB6.out.cs; have hct6 := HB6.out.ct
        clear hp6 ho6 hcg hcw hcs hct hft hca hcp ho0 ho1 ho2 ho3 ho4 hfw hq1
        go_wp2_with fail
        refine (rnext_any c d n pr S6 ((i : Int) + 1) _ HP7.out.ref).mono ?_
        rintro e w9 ⟨rfl, rfl⟩
        generalize hx : Bm.next S6 n ((i : Int) + 1) = x at *
        have HX := Lib.hid hx; clear hx
        have HP9 : Hid (PairAt ((w6.setCell ⟨B0 + 6, 0, none⟩ (.bool true)).setCell ⟨B0 + 4, 0, none⟩ (.int .i64 x)) lo hi qb bx pm pr a b c d n S6) :=
          HP7.out.kept ((Only.refl (B0 + 4) (B0 + 5) _).setCell (.inl ⟨Nat.le_refl _, Nat.lt_succ_self _⟩) _) (.inl (by omega))
        have HB9 := Lib.hid (HB7.out.setW x)
        have HO9 : Hid (Only lo hi w0 ((w6.setCell ⟨B0 + 6, 0, none⟩ (.bool true)).setCell ⟨B0 + 4, 0, none⟩ (.int .i64 x))) := HO7.out.setCell (.inr (by show w0.heap.size ≤ B0 + 4; omega)) _
        go_wp2
        go_ret
        exact ⟨rfl, S6, HP9.out, by rw [HX.out]; exact HB9.out, HO9.out⟩
      · have hab : (told + 1 == at') = false := beq_eq_false_iff_ne.2 hat
        clear hat
        go_enter Tryd.func52, Tryd.ntmps52
        go_wp2_with fail
        refine (rnext_any c d n pr S ((i : Int) + 1) _ HP5.out.ref).mono ?_
        rintro e w9 ⟨rfl, rfl⟩
        generalize hx : Bm.next S n ((i : Int) + 1) = x at *
        have HX := Lib.hid hx; clear hx
        have HP9 : Hid (PairAt ((w.setCell ⟨B0 + 5, 0, none⟩ (.int .i64 (told + 1))).setCell ⟨B0 + 4, 0, none⟩ (.int .i64 x)) lo hi qb bx pm pr a b c d n S) :=
          HP5.out.kept ((Only.refl (B0 + 4) (B0 + 5) _).setCell (.inl ⟨Nat.le_refl _, Nat.lt_succ_self _⟩) _) (.inl (by omega))
        have HB9 := Lib.hid (HB5.out.setW x)
        have HO9 : Hid (Only lo hi w0 ((w.setCell ⟨B0 + 5, 0, none⟩ (.int .i64 (told + 1))).setCell ⟨B0 + 4, 0, none⟩ (.int .i64 x))) := HO5.out.setCell (.inr (by show w0.heap.size ≤ B0 + 4; omega)) _
        go_wp2
        go_ret
        exact ⟨rfl, S, HP9.out, by rw [HX.out]; exact HB9.out, HO9.out⟩
    · have HR : Hid (decide (stop < 0 ∨ told + 1 < stop) = false) := decide_eq_false (by omega)
      rw [HR.out]
      have hd4 : decide (told + 1 < stop) = false := decide_eq_false hlast
      by_cases hat : told + 1 = at'
      · have hab : (told + 1 == at') = true := beq_iff_eq.2 hat
        clear hat
        go_enter Tryd.func52, Tryd.ntmps52
        go_wp2_with fail
        refine (turned_any lo hi qb bx pm pr a b c d n S who k A B C _ HP5.out hA).mono ?_
        rintro e w6 ⟨rfl, ⟨S6, hp6⟩, ho6⟩
        have HB6 := Lib.hid (HB5.out.kept ho6 hhi)
        have HO6 := Lib.hid (HO5.out.trans ho6)
        have hcg6 := HB6.out.cg; have hfg6 := HB6.out.fg
        have HP7 : Hid (PairAt (w6.setCell ⟨B0 + 6, 0, none⟩ (.bool true)) lo hi qb bx pm pr a b c d n S6) :=
          hp6.kept ((Only.refl (B0 + 6) (B0 + 7) w6).setCell (.inl ⟨Nat.le_refl _, Nat.lt_succ_self _⟩) _) (.inl (by omega))
        have HB7 := Lib.hid (HB6.out.setG true)
        have HO7 : Hid (Only lo hi w0 (w6.setCell ⟨B0 + 6, 0, none⟩ (.bool true))) := HO6.out.setCell (.inr (by show w0.heap.size ≤ B0 + 6; omega)) _
        have hcp6 := HB6.out.cp; have hq6 := hp6.c1; have hcw6 := HB6.out.cw; have hfw6 := HB6.out.fw; have hcs6 := HB6.out.cs; have hct6 := HB6.out.ct
        clear hp6 ho6 hcg hcw hcs hct hft hca hcp ho0 ho1 ho2 ho3 ho4 hfw hq1
        go_wp2_with fail
        refine (rnext_any c d n pr S6 ((i : Int) + 1) _ HP7.out.ref).mono ?_
        rintro e w9 ⟨rfl, rfl⟩
        generalize hx : Bm.next S6 n ((i : Int) + 1) = x at *
        have HX := Lib.hid hx; clear hx
        have HP9 : Hid (PairAt ((w6.setCell ⟨B0 + 6, 0, none⟩ (.bool true)).setCell ⟨B0 + 4, 0, none⟩ (.int .i64 x)) lo hi qb bx pm pr a b c d n S6) :=
          HP7.out.kept ((Only.refl (B0 + 4) (B0 + 5) _).setCell (.inl ⟨Nat.le_refl _, Nat.lt_succ_self _⟩) _) (.inl (by omega))
        have HB9 := Lib.hid (HB7.out.setW x)
        have HO9 : Hid (Only lo hi w0 ((w6.setCell ⟨B0 + 6, 0, none⟩ (.bool true)).setCell ⟨B0 + 4, 0, none⟩ (.int .i64 x))) := HO7.out.setCell (.inr (by show w0.heap.size ≤ B0 + 4; omega)) _
        go_wp2
        go_ret
        exact ⟨rfl, S6, HP9.out, by rw [HX.out]; exact HB9.out, HO9.out⟩
      · have hab : (told + 1 == at') = false := beq_eq_false_iff_ne.2 hat
        clear hat
        go_enter Tryd.func52, Tryd.ntmps52
        go_wp2_with fail
        refine (rnext_any c d n pr S ((i : Int) + 1) _ HP5.out.ref).mono ?_
        rintro e w9 ⟨rfl, rfl⟩
        generalize hx : Bm.next S n ((i : Int) + 1) = x at *
        have HX := Lib.hid hx; clear hx
        have HP9 : Hid (PairAt ((w.setCell ⟨B0 + 5, 0, none⟩ (.int .i64 (told + 1))).setCell ⟨B0 + 4, 0, none⟩ (.int .i64 x)) lo hi qb bx pm pr a b c d n S) :=
          HP5.out.kept ((Only.refl (B0 + 4) (B0 + 5) _).setCell (.inl ⟨Nat.le_refl _, Nat.lt_succ_self _⟩) _) (.inl (by omega))
        have HB9 := Lib.hid (HB5.out.setW x)
        have HO9 : Hid (Only lo hi w0 ((w.setCell ⟨B0 + 5, 0, none⟩ (.int .i64 (told + 1))).setCell ⟨B0 + 4, 0, none⟩ (.int .i64 x))) := HO5.out.setCell (.inr (by show w0.heap.size ≤ B0 + 4; omega)) _
        go_wp2
        go_ret
        exact ⟨rfl, S, HP9.out, by rw [HX.out]; exact HB9.out, HO9.out⟩

theorem callFunc52 (args : Array Value) (w : World) : (callFunc 52 args).run Tryd.prog w = .ok (.enter 52 args) w := by kernel_rfl

/-- The iterator's loop under gone's function literal. -/
theorem gone_iter (lo hi qb bx by' : Nat) (pm pr : Addr) (a b c d n B0 : Nat) (S : Nat → Bool) (stop at' who k A B C : Int) (w w0 : World) (hp : PairAt w lo hi qb bx pm pr a b c d n S)
    (hb : Boxes w B0 true (Bm.next S n 0) stop 0 at' ⟨qb, 0, none⟩ who k A B C) (ho : Only lo hi w0 w) (hB : w0.heap.size ≤ B0) (hhi : hi ≤ w0.heap.size) (hlo : 0 < lo) (hT : Tab w0) (hA : A ≤ 9223372036854775807) (hst : stop ≠ 0)
    (hby : by' = bx ∨ hi ≤ by' ∧ by' < w0.heap.size ∧ w0.cell? ⟨by', 0, none⟩ = some (.pointer (some pm))) :
    Calls Tryd.prog 39 #[.func (.func 52) #[] #[.pointer (some ⟨B0 + 6, 0, none⟩), .pointer (some ⟨B0 + 4, 0, none⟩), .pointer (some ⟨B0 + 1, 0, none⟩), .pointer (some ⟨B0 + 5, 0, none⟩), .pointer (some ⟨B0 + 2, 0, none⟩), .pointer (some ⟨B0, 0, none⟩), .pointer (some ⟨B0 + 3, 0, none⟩)], .pointer (some ⟨by', 0, none⟩)] w
      fun e w' => e = .returned (.tuple #[]) ∧ ∃ S' want told, PairAt w' lo hi qb bx pm pr a b c d n S' ∧ Boxes w' B0 true want stop told at' ⟨qb, 0, none⟩ who k A B C ∧ Only lo hi w0 w' ∧ (want < 0 ∨ 0 ≤ stop ∧ told = stop) := by
  have hnn : n ≤ 262144 := hp.map.nle
  refine iter_any (fun x S' W => x ≤ n ∧ PairAt W lo hi qb bx pm pr a b c d n S' ∧ Only lo hi w0 W ∧ ∃ told : Int, Boxes W B0 true (Bm.next S' n (x : Int)) stop told at' ⟨qb, 0, none⟩ who k A B C ∧ 0 ≤ told ∧ told ≤ (x : Int) ∧ (stop < 0 ∨ told < stop))
    (fun W => ∃ S' want told, PairAt W lo hi qb bx pm pr a b c d n S' ∧ Boxes W B0 true want stop told at' ⟨qb, 0, none⟩ who k A B C ∧ Only lo hi w0 W ∧ (want < 0 ∨ 0 ≤ stop ∧ told = stop))
    a b n by' pm 52 _ callFunc52 ?_ ?_ ?_ S w ⟨Nat.zero_le _, hp, ho, 0, hb, by omega, by omega, by omega⟩
  · rintro x S' W ⟨_, hp', ho', told, hb', _⟩
    refine ⟨hp'.map, hT.only ho' hlo, ?_⟩
    rcases hby with rfl | ⟨h1, h2, h3⟩
    · exact hp'.cx
    · exact (ho'.cell (p := ⟨by', 0, none⟩) h2 (.inr h1)).trans h3
  · rintro x S' W m i ⟨hx, hp', ho', told, hb', ht0, ht1, hst'⟩ hnx hxi hin
    rw [hnx] at hb'
    refine (yield_any lo hi qb bx pm pr a b c d n B0 S' stop told at' who k A B C i _ w0 (hp'.drewN m) (hb'.drewN m) (ho'.drewN m) hB (by omega) hA (by omega) ht0 (by omega) hst').mono ?_
    rintro e w' ⟨rfl, S2, hp2, hb2, ho2⟩
    by_cases hd : stop < 0 ∨ told + 1 < stop
    · rw [decide_eq_true hd]
      exact .inl ⟨rfl, S2, by omega, hp2, ho2, told + 1, hb2, by omega, by omega, hd⟩
    · rw [decide_eq_false hd]
      exact .inr ⟨rfl, S2, _, told + 1, hp2, hb2, ho2, .inr ⟨by omega, by omega⟩⟩
  · rintro x S' W m ⟨hx, hp', ho', told, hb', ht0, ht1, hst'⟩ hnx
    rw [hnx] at hb'
    exact ⟨S', -1, told, hp'.drewN m, hb'.drewN m, ho'.drewN m, .inl (by omega)⟩
end Go.Proofs.YtppeiljecgeifaaDoor
