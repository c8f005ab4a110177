/-
  The walks of the reference's map (hearthref3): PutRange, Get, Reset, Copy, CountRange, Next.
-/
import Derived.Test.YtppeiljecgeifaaDoorW6
namespace Go.Proofs.YtppeiljecgeifaaDoor
open Go Go.RowKit

set_option maxHeartbeats 800000 in
theorem putRange_yes (lo hi n : Nat) (p : Addr) (S : Nat → Bool) (f t : Int) (b : Bool) (w : World) (hm : IsRef w lo hi p n S) (h0 : 0 ≤ f) (ht : t ≤ (n : Int)) (hft : f ≤ t) :
    Calls Tryd.prog 45 #[.pointer (some p), .int .i64 f, .int .i64 t, .bool b] w fun e w' => e = .returned (.int .i64 0) ∧ IsRef w' lo hi p n (rangeS S f t b) ∧ Only lo hi w w' := by
  obtain ⟨pb, ao, cap, rfl, hm⟩ := hm
  have hn := hm.nle
  have hc0 := hm.cell0
  have HM := Lib.hid hm; clear hm
  obtain ⟨f0, rfl⟩ : ∃ k : Nat, f = k := ⟨f.toNat, by omega⟩
  have hd1 : decide ((f0 : Int) < 0) = false := decide_eq_false (by omega)
  have hd2 : decide ((n : Int) < t) = false := decide_eq_false (by omega)
  have hd3 : decide (t < (f0 : Int)) = false := decide_eq_false (by omega)
  go_enter Tryd.func45, Tryd.ntmps45
  go_wp2_with fail
  go_loopw [9] (fun x wr => ∃ k : Nat, f0 ≤ k ∧ (k : Int) ≤ t ∧ x = .int .i64 k ∧ RefAt wr lo hi pb n ao cap (rangeS S f0 k b) ∧ Only lo hi w wr) (fun x _ => n + 1 - (intOf x).toNat)
  case atStart => exact ⟨f0, Nat.le_refl _, hft, rfl, HM.out.congr fun i _ => by rw [rangeS_out (by omega)], Only.refl _ _ _⟩
  case round =>
    obtain ⟨k, hk1, hk2, rfl, hm, ho⟩ := hrel
    have hcr := hm.cell0
    have HO := Lib.hid ho; clear ho
    have hk0 : (0 : Int) ≤ (k : Int) := by omega
    by_cases hlt : (k : Int) < t
    · obtain ⟨g, rfl, hg1, hg2, hg3, hcell, hfr⟩ := hm.row (by omega)
      have hck := hcell k (by omega)
      have hfk := hfr k
      have hkn : (k : Int) < (n : Int) := by omega
      clear hcell hfr
      have HR := Lib.hid hm; clear hm
      go_wp2
      go_roundw
      case rel =>
        refine ⟨k + 1, by omega, by omega, by go_num, (HR.out.set k b).congr fun i _ => ?_, HO.out.setCell (.inl ⟨hg2, hg3⟩) _⟩
        unfold rangeS
        by_cases e : i = k
        · subst e; rw [if_pos rfl, if_pos (by omega)]
        · rw [if_neg e]
          by_cases e2 : (f0 : Int) ≤ (i : Int) ∧ (i : Int) < (k : Int)
          · rw [if_pos e2, if_pos (by omega)]
          · rw [if_neg e2, if_neg (by omega)]
      case measure => simp [intOf]; omega
    · have HR := Lib.hid hm; clear hm
      go_wp2
      go_ret
      refine ⟨rfl, ⟨pb, ao, cap, rfl, ?_⟩, HO.out⟩
      have : (k : Int) = t := by omega
      rw [← this]; exact HR.out
set_option maxHeartbeats 400000 in
theorem putRange_no (lo hi n : Nat) (p : Addr) (S : Nat → Bool) (f t : Int) (b : Bool) (w : World) (hm : IsRef w lo hi p n S) (hno : ¬ (0 ≤ f ∧ t ≤ (n : Int) ∧ f ≤ t)) :
    Calls Tryd.prog 45 #[.pointer (some p), .int .i64 f, .int .i64 t, .bool b] w fun e w' => e = .returned (.int .i64 10) ∧ w = w' := by
  obtain ⟨pb, ao, cap, rfl, hm⟩ := hm
  have hc0 := hm.cell0
  clear hm
  by_cases h1 : f < 0
  · clear hno
    go_enter Tryd.func45, Tryd.ntmps45
    go_wp2
    go_ret
    exact ⟨rfl, rfl⟩
  · by_cases h2 : (n : Int) < t
    · clear hno
      go_enter Tryd.func45, Tryd.ntmps45
      go_wp2
      go_ret
      exact ⟨rfl, rfl⟩
    · have h3 : t < f := by omega
      clear hno
      go_enter Tryd.func45, Tryd.ntmps45
      go_wp2
      go_ret
      exact ⟨rfl, rfl⟩

set_option maxHeartbeats 400000 in
theorem rget_any (lo hi n : Nat) (p : Addr) (S : Nat → Bool) (i : Int) (w : World) (hm : IsRef w lo hi p n S) (hz : ∀ i, n ≤ i → S i = false) (b : Bool) (hb : b = (decide (0 ≤ i) && S i.toNat)) :
    Calls Tryd.prog 47 #[.pointer (some p), .int .i64 i] w fun e w' => e = .returned (.bool b) ∧ w = w' := by
  obtain ⟨pb, ao, cap, rfl, hm⟩ := hm
  have hc0 := hm.cell0
  by_cases h1 : 0 ≤ i
  · by_cases h2 : i < (n : Int)
    · obtain ⟨j, rfl⟩ : ∃ k : Nat, i = k := ⟨i.toNat, by omega⟩
      obtain ⟨g, rfl, hg1, hg2, hg3, hcell, hfr⟩ := hm.row (by omega)
      have hcj := hcell j (by omega)
      clear hcell hfr hm hz
      rw [decide_eq_true h1, Int.toNat_natCast, Bool.true_and] at hb
      rw [← hb] at hcj
      clear hb
      go_enter Tryd.func47, Tryd.ntmps47
      go_wp2
      go_ret
      exact ⟨rfl, rfl⟩
    · rw [hz _ (by omega), Bool.and_false] at hb
      subst hb
      clear hm hz
      go_enter Tryd.func47, Tryd.ntmps47
      go_wp2
      go_ret
      exact ⟨rfl, rfl⟩
  · rw [decide_eq_false h1, Bool.false_and] at hb
    subst hb
    clear hm hz
    go_enter Tryd.func47, Tryd.ntmps47
    go_wp2
    go_ret
    exact ⟨rfl, rfl⟩

set_option maxHeartbeats 800000 in
theorem rreset_any (lo hi n : Nat) (p : Addr) (S : Nat → Bool) (w : World) (hm : IsRef w lo hi p n S) :
    Calls Tryd.prog 46 #[.pointer (some p)] w fun e w' => e = .returned (.tuple #[]) ∧ IsRef w' lo hi p n (fun _ => false) ∧ Only lo hi w w' := by
  obtain ⟨pb, ao, cap, rfl, hm⟩ := hm
  have hn := hm.nle
  have hc0 := hm.cell0
  have HM := Lib.hid hm; clear hm
  go_enter Tryd.func46, Tryd.ntmps46
  go_wp2_with fail
  go_loopw [2] (fun x wr => ∃ k : Nat, k ≤ n ∧ x = .int .i64 k ∧ RefAt wr lo hi pb n ao cap (rangeS S 0 k false) ∧ Only lo hi w wr) (fun x _ => n + 1 - (intOf x).toNat)
  case atStart => exact ⟨0, Nat.zero_le _, rfl, HM.out.congr fun i _ => by rw [rangeS_out (by omega)], Only.refl _ _ _⟩
  case round =>
    obtain ⟨k, hk2, rfl, hm, ho⟩ := hrel
    have hcr := hm.cell0
    have HO := Lib.hid ho; clear ho
    have hk0 : (0 : Int) ≤ (k : Int) := by omega
    by_cases hlt : (k : Int) < (n : Int)
    · obtain ⟨g, rfl, hg1, hg2, hg3, hcell, hfr⟩ := hm.row (by omega)
      have hck := hcell k (by omega)
      have hfk := hfr k
      clear hcell hfr
      have HR := Lib.hid hm; clear hm
      go_wp2
      go_roundw
      case rel =>
        refine ⟨k + 1, by omega, by go_num, (HR.out.set k false).congr fun i _ => ?_, HO.out.setCell (.inl ⟨hg2, hg3⟩) _⟩
        unfold rangeS
        by_cases e : i = k
        · subst e; rw [if_pos rfl, if_pos (by omega)]
        · rw [if_neg e]
          by_cases e2 : (0 : Int) ≤ (i : Int) ∧ (i : Int) < (k : Int)
          · rw [if_pos e2, if_pos (by omega)]
          · rw [if_neg e2, if_neg (by omega)]
      case measure => simp [intOf]; omega
    · have HR := Lib.hid hm; clear hm
      go_wp2
      go_end0
      exact ⟨rfl, ⟨pb, ao, cap, rfl, HR.out.congr fun i hi => rangeS_in (by omega) (by omega)⟩, HO.out⟩

/-- An append of which the run is known. -/
theorem wpList_append_eq {P : Program} {ops : Array Oper} {rest : List Oper} {o : Oper} {a : Act} {w : World} {Q : Exit → Act → World → Prop} (hgd : o.guard = none) (s x : Operand) (t : TypeId)
    (ho : o.op = .call { callee := .builtin .append, args := #[s, x], argTypes := #[t, t] })
    (sv xv v' : Value) (w' : World) (hs : a.eval s = sv) (hx : a.eval x = xv) (hrun : (Builtin.append_ #[t, t] o.type #[sv, xv]).run P w = .ok v' w') (h : wpList P ops Q rest (a.put o.dst v') w') : wpList P ops Q (o :: rest) a w :=
  wpList_plain hgd fun _ hK => by
    unfold Oper.wp execOp
    simp only [ho, resolve, invoke, builtin, Sem.run_bind, Sem.run_pure, Result.andThen_ok, List.map_toArray, List.map_cons, List.map_nil, hs, hx, hrun]
    exact hK _ _ h
set_option maxHeartbeats 800000 in
theorem rcopy_core (pb : Nat) (v : Value) (a2 : Option Addr) (l2 c2 : Nat) (w w2 : World) (hc0 : w.cell? ⟨pb, 0, none⟩ = some v)
    (happ : (Builtin.append_ #[54, 54] 54 #[.slice none 0 0, v]).run Tryd.prog w = .ok (.slice a2 l2 c2) w2) :
    Calls Tryd.prog 41 #[.pointer (some ⟨pb, 0, none⟩)] w fun e w' => e = .returned (.pointer (some ⟨w2.heap.size, 0, none⟩)) ∧ w' = w2.alloc (.cells #[.slice a2 l2 c2] 56) := by
  go_enter Tryd.func41, Tryd.ntmps41
  go_wp2_with (at_builtin; refine wpList_append_eq rfl (.const (.slice none 0 0)) (.tmp 6) 54 rfl (.slice none 0 0) v (.slice a2 l2 c2) w2 rfl rfl happ ?_)
  go_ret
  exact ⟨rfl, rfl⟩
theorem rcopy_any (lo hi n : Nat) (p : Addr) (S : Nat → Bool) (w : World) (hm : IsRef w lo hi p n S) :
    Calls Tryd.prog 41 #[.pointer (some p)] w fun e w' => ∃ p', e = .returned (.pointer (some p')) ∧ IsRef w' w.heap.size w'.heap.size p' n S ∧ Still w w' := by
  obtain ⟨pb, ao, cap, rfl, hm⟩ := hm
  obtain ⟨i0, hi, hz0, hz1, hz2⟩ := info_parts Tryd.infoB
  have hn := hm.nle
  have key : ∃ (a2 : Option Addr) (c2 : Nat) (w2 : World), (Builtin.append_ #[54, 54] 54 #[.slice none 0 0, .slice ao n cap]).run Tryd.prog w = .ok (.slice a2 n c2) w2 ∧
      w2.ownsRow w.heap.size 4 1 (.slice a2 n c2) n (bools S n) ∧ Still w w2 := by
    rcases hm.own.2 with ⟨hv, h0⟩ | ⟨g, cap', cur, hv, hb, hg, hnc, hcm, hs, ht⟩
    · rw [hv]
      subst h0
      refine ⟨none, 0, w, ?_, ⟨hm.own.1, .inl ⟨rfl, rfl⟩⟩, Only.refl _ _ w⟩
      simp [Builtin.append_, run_underlying Tryd.underlying54, sizeOf, typeInfo, hi, Builtin.lenOf, Builtin.firstCells]
    · injection hv with e1 e2 e3
      subst e1
      have hcells := hm.own.cells (g := g) rfl
      obtain ⟨v', w2, h1, h2, h3, h4⟩ := run_append_own (P := Tryd.prog) w w.heap.size 54 54 4 i0 (.bool false) 1 1 Tryd.underlying54 hi hz0 hz1 hz2 rfl (by decide) (.slice none 0 0) 0 [] (World.ownsRow_nil _ _ _ _)
        ⟨g, 0, none⟩ n cap (bools S n) hm.own.1 (fun j u hu => hcells j u hu) (by intro u hu; unfold bools at hu; obtain ⟨r, _, rfl⟩ := List.mem_map.1 hu; rfl) (by unfold maxLen; omega) (by omega) (Nat.le_refl _)
      rw [Nat.zero_add, List.nil_append] at h2
      have hst : Still w w2 := (Only.refl _ _ w).grown h3 (fun k hk => by cases hk)
      have hsh : ∃ a2 c2, v' = .slice a2 n c2 := by
        rcases h2.2 with ⟨rfl, h0⟩ | ⟨g', cap', cur', rfl, _⟩
        · exact ⟨none, 0, by rw [h0]⟩
        · exact ⟨_, _, rfl⟩
      obtain ⟨a2, c2, rfl⟩ := hsh
      exact ⟨a2, c2, w2, h1, h2, hst⟩
  obtain ⟨a2, c2, w2, h1, h2, h3⟩ := key
  refine (rcopy_core pb _ a2 n c2 w w2 hm.cell0 h1).mono ?_
  rintro e w' ⟨rfl, rfl⟩
  refine ⟨_, rfl, ⟨w2.heap.size, a2, c2, rfl, ⟨h3.size, by simp, Nat.le_refl _, heap_alloc_new w2 _, h2.alloc _, ?_, hn⟩⟩, h3.alloc _⟩
  intro g hg
  have := (h2.lt g hg).2
  constructor
  · simp; omega
  · omega

/-! ### Counting and looking -/
theorem count_succ (S : Nat → Bool) (k : Nat) (f t : Int) : Bm.count S (k + 1) f t = Bm.count S k f t + (S k && (decide (f ≤ (k : Int)) && decide ((k : Int) < t))).toNat := by
  unfold Bm.count
  rw [Bm.cnt, Nat.zero_add]

set_option maxHeartbeats 800000 in
theorem rcount_any (lo hi n : Nat) (p : Addr) (S : Nat → Bool) (f t : Int) (w : World) (hm : IsRef w lo hi p n S) :
    Calls Tryd.prog 48 #[.pointer (some p), .int .i64 f, .int .i64 t] w fun e w' => e = .returned (.int .i64 (Bm.count S n f t : Nat)) ∧ w = w' := by
  obtain ⟨pb, ao, cap, rfl, hm⟩ := hm
  have hn := hm.nle
  have hc0 := hm.cell0
  have HM := Lib.hid hm; clear hm
  go_enter Tryd.func48, Tryd.ntmps48
  go_wp2_with fail
  go_loop [7, 8] (fun c x => ∃ k : Nat, k ≤ n ∧ x = .int .i64 k ∧ c = .int .i64 (Bm.count S k f t : Nat)) (fun _ x => n + 1 - (intOf x).toNat)
  case atStart => exact ⟨0, Nat.zero_le _, rfl, rfl⟩
  case round =>
    obtain ⟨k, hk2, rfl, rfl⟩ := hrel
    have hk0 : (0 : Int) ≤ (k : Int) := by omega
    have hcl := count_le S k f t
    have HCS := Lib.hid (count_succ S k f t)
    generalize hCC : Bm.count S k f t = C at *
    have HCC := Lib.hid hCC; clear hCC
    have hC : (C : Int) ≤ 300000 := by omega
    by_cases hlt : (k : Int) < (n : Int)
    · obtain ⟨g, rfl, hg1, hg2, hg3, hcell, hfr⟩ := HM.out.row (by omega)
      have hck := hcell k (by omega)
      clear hcell hfr
      cases hSk : S k with
      | false =>
        rw [hSk] at hck HCS
        clear hSk
        go_wp2
        go_round
        case rel => exact ⟨k + 1, by omega, by go_num, by rw [HCS.out]; simp⟩
        case measure => simp [intOf]; omega
      | true =>
        rw [hSk] at hck HCS
        clear hSk
        by_cases h1 : f ≤ (k : Int)
        · by_cases h2 : (k : Int) < t
          · go_wp2
            go_round
            case rel => exact ⟨k + 1, by omega, by go_num, by rw [HCS.out, decide_eq_true h1, decide_eq_true h2]; go_num⟩
            case measure => simp [intOf]; omega
          · go_wp2
            go_round
            case rel => exact ⟨k + 1, by omega, by go_num, by rw [HCS.out, decide_eq_false h2]; simp⟩
            case measure => simp [intOf]; omega
        · go_wp2
          go_round
          case rel => exact ⟨k + 1, by omega, by go_num, by rw [HCS.out, decide_eq_false h1]; simp⟩
          case measure => simp [intOf]; omega
    · go_wp2
      go_ret
      have : k = n := by omega
      exact ⟨ret_i64 (by rw [← this, HCC.out]), rfl⟩

set_option maxHeartbeats 800000 in
theorem rnext_any (lo hi n : Nat) (p : Addr) (S : Nat → Bool) (f : Int) (w : World) (hm : IsRef w lo hi p n S) :
    Calls Tryd.prog 49 #[.pointer (some p), .int .i64 f] w fun e w' => e = .returned (.int .i64 (Bm.next S n f)) ∧ w = w' := by
  obtain ⟨pb, ao, cap, rfl, hm⟩ := hm
  have hn := hm.nle
  have hc0 := hm.cell0
  have HM := Lib.hid hm; clear hm
  go_enter Tryd.func49, Tryd.ntmps49
  go_wp2_with fail
  go_loop [5] (fun x => ∃ k : Nat, k ≤ n ∧ x = .int .i64 k ∧ ∀ j : Nat, f ≤ (j : Int) → j < k → S j = false) (fun x => n + 1 - (intOf x).toNat)
  case atStart => exact ⟨0, Nat.zero_le _, rfl, fun j _ h => by omega⟩
  case round =>
    obtain ⟨k, hk2, rfl, hb⟩ := hrel
    have hk0 : (0 : Int) ≤ (k : Int) := by omega
    have HB := Lib.hid hb; clear hb
    by_cases hlt : (k : Int) < (n : Int)
    · obtain ⟨g, rfl, hg1, hg2, hg3, hcell, hfr⟩ := HM.out.row (by omega)
      have hck := hcell k (by omega)
      clear hcell hfr
      cases hSk : S k with
      | false =>
        rw [hSk] at hck
        have HS := Lib.hid hSk; clear hSk
        go_wp2
        go_round
        case rel =>
          refine ⟨k + 1, by omega, by go_num, fun j h1 h2 => ?_⟩
          by_cases e : j = k
          · subst e; exact HS.out
          · exact HB.out j h1 (by omega)
        case measure => simp [intOf]; omega
      | true =>
        rw [hSk] at hck
        have HS := Lib.hid hSk; clear hSk
        by_cases h1 : f ≤ (k : Int)
        · have HE := Lib.hid (Bm.next_eq h1 (by omega) HS.out HB.out : Bm.next S n f = (k : Int))
          go_wp2
          go_ret
          exact ⟨ret_i64 (by rw [HE.out]), rfl⟩
        · go_wp2
          go_round
          case rel =>
            refine ⟨k + 1, by omega, by go_num, fun j h3 h2 => ?_⟩
            exact HB.out j h3 (by omega)
          case measure => simp [intOf]; omega
    · have HE := Lib.hid (Bm.next_none (fun j h1 h2 => HB.out j h1 (by omega)) : Bm.next S n f = -1)
      go_wp2
      go_ret
      exact ⟨ret_i64 (by rw [HE.out]), rfl⟩
end Go.Proofs.YtppeiljecgeifaaDoor
