/-
  The walks of hearthref8.Blocks and hearthref8.Room; copies of the words and of the pages.
-/
import Derived.Test.YtfbcdmhmpfijjaaGreatDoorQF7
import Derived.Test.YtfbcdmhmpfijjaaGreatDoorQN7
import Derived.Deep.Cut
import Derived.Deep.CutRange
namespace Go.Proofs.YtfbcdmhmpfijjaaGreatDoor
open Go Go.RowKit

theorem pgCells_pr (s : St) (i d : Nat) (hi : i < s.n) (hd : d < 3) : (pgCells s.P s.n)[i * 3 + d]? = some (.int .i64 (s.pr i d)) := by
  unfold pgCells
  rw [Array.getElem?_ofFn]
  have hlt : i * 3 + d < 3 * s.n := by omega
  simp only [hlt, dite_true]
  unfold St.pr
  have h1 : (i * 3 + d) / 3 = i := by omega
  have h2 : (i * 3 + d) % 3 = d := by omega
  simp only [h1, h2]
theorem rwords_copy (w : World) (R : RLay) (s : St) (h : RefAt w R s) :
    ∃ v' w', (Builtin.append_ #[27, 27] 27 #[.slice none 0 0, .slice (some ⟨R.wb, 0, none⟩) (64 * s.n) R.cw]).run Tryz.prog w = .ok v' w' ∧
      w'.ownsRow w.heap.size 3 1 v' (64 * s.n) ((wdList s.W (64 * s.n)).map (Value.int .i64)) ∧ Still w w' := by
  have h2 := h.n2
  obtain ⟨i0, hi, hz0, hz1, hz2⟩ := info_parts Tryz.infoI5
  obtain ⟨v', w', a1, a2, a3, _⟩ := run_append_own (P := Tryz.prog) w w.heap.size 27 27 3 i0 _ 1 8 Tryz.underlying27 hi hz0 hz1 hz2 rfl (by decide) (.slice none 0 0) 0 [] (World.ownsRow_nil _ _ _ _)
    ⟨R.wb, 0, none⟩ (64 * s.n) R.cw ((wdList s.W (64 * s.n)).map (Value.int .i64)) (by simp [wdList_length]) (fun j u hu => by
      rw [add_at]
      have hj : j < 64 * s.n := by have := (List.getElem?_eq_some_iff.1 hu).1; simpa [wdList_length] using this
      rw [h.word hj, ← hu, List.getElem?_map]
      unfold wdList
      rw [List.getElem?_map, List.getElem?_range hj]; rfl) (fun u hu => by
      obtain ⟨z, _, rfl⟩ := List.mem_map.1 hu
      rfl) (by unfold maxLen; omega) (by omega) (Nat.le_refl _)
  exact ⟨v', w', a1, by simpa using a2, (Only.refl _ _ w).grown a3 (fun k hk => by cases hk)⟩
theorem rpages_copy (w : World) (R : RLay) (s : St) (h : RefAt w R s) :
    ∃ v' w', (Builtin.append_ #[70, 70] 70 #[.slice none 0 0, .slice (some ⟨R.pb, 0, none⟩) s.n R.cp]).run Tryz.prog w = .ok v' w' ∧
      w'.ownsRow w.heap.size 146 3 v' s.n (pgCells s.P s.n).toList ∧ Still w w' := by
  have h2 := h.n2
  obtain ⟨i0, hi, hz0, hz1, hz2⟩ := info_parts Tryz.infoPg
  obtain ⟨v', w', a1, a2, a3, _⟩ := run_append_own (P := Tryz.prog) w w.heap.size 70 70 146 i0 _ 3 24 Tryz.underlying70 hi hz0 hz1 hz2 rfl (by decide) (.slice none 0 0) 0 [] (World.ownsRow_nil _ _ _ _)
    ⟨R.pb, 0, none⟩ s.n R.cp (pgCells s.P s.n).toList (by rw [Array.length_toList, pgCells_size]; omega) (fun j u hu => by
      rw [add_at]
      have hj : j < 3 * s.n := by have := (List.getElem?_eq_some_iff.1 hu).1; rwa [Array.length_toList, pgCells_size] at this
      rw [Array.getElem?_toList] at hu
      have e : j = j / 3 * 3 + j % 3 := by omega
      rw [e] at hu ⊢
      rw [h.pages.cell (i := j / 3) (d := j % 3) (by omega) (by omega), ← hu, pgCells_pr s _ _ (by omega) (by omega)]) (fun u hu => by
      obtain ⟨j, hj⟩ := List.getElem?_of_mem hu
      rw [Array.getElem?_toList] at hj
      have hj2 : j < 3 * s.n := by have := (Array.getElem?_eq_some_iff.1 hj).1; rwa [pgCells_size] at this
      rw [pgCells_at _ _ _ hj2] at hj
      obtain rfl := Option.some.inj hj
      rfl) (by unfold maxLen; omega) (by omega) (Nat.le_refl _)
  exact ⟨v', w', a1, by simpa using a2, (Only.refl _ _ w).grown a3 (fun k hk => by cases hk)⟩
set_option maxRecDepth 100000 in
set_option maxHeartbeats 3200000 in
theorem rblocks_of (w : World) (R : RLay) (s : St) (h : RefAt w R s) (hs : s.RefOk) :
    Calls Tryz.prog 32 #[.pointer (some ⟨R.rb, 0, none⟩)] w fun e w' => (∃ v, e = .returned v ∧ w'.ownsRow w.heap.size 95 5 v s.blks.length (obCells s.blks)) ∧ Still w w' := by
  have HR := Lib.hid (fun W (hw : Still w W) => h.still hw)
  have HS := Lib.hid hs
  have hn1 := h.n1
  have hn2 := h.n2
  obtain ⟨B0, hB0⟩ : ∃ B0, w.heap.size = B0 := ⟨_, rfl⟩
  have HB0 := Lib.hid hB0
  have HBS : Hid (s.blks = s.blk (64 * s.n)) := Lib.hid rfl
  have HBL := Lib.hid (fun a => s.blk_len a)
  rw [hB0]
  obtain ⟨N, hN⟩ : ∃ N, 64 * s.n = N := ⟨_, rfl⟩
  have HN := Lib.hid hN
  have hNM : (N : Int) ≤ 262144 := by omega
  clear h hs hn1 hn2 hB0
  rw [hN] at HBS
  clear hN
  go_enter Tryz.func32, Tryz.ntmps32
  go_wp2_with fail
  go_loopw [3, 4] (fun x y W => ∃ i : Nat, y = .int .i64 (i : Int) ∧ i ≤ N ∧ W.ownsRow B0 95 5 x (s.blk i).length (obCells (s.blk i)) ∧ Still w W) (fun _ y _ => N + 1 - (intOf y).toNat)
  case atStart => exact ⟨0, rfl, Nat.zero_le _, World.ownsRow_nil _ _ _ _, Only.refl _ _ _⟩
  case round =>
    obtain ⟨i, rfl, hi, hown, hst⟩ := hrel
    have hi0 : (0 : Int) ≤ (i : Int) := by omega
    have HST := Lib.hid hst
    have HOW := Lib.hid hown
    have hr := HR.out _ hst
    have c2 := hr.c2
    obtain ⟨l1, l2, l3, l4, l5⟩ := hr.lts
    rw [HN.out] at c2
    by_cases hin : i < N
    · have hiI : (i : Int) < (N : Int) := by omega
      have hiN : i < 64 * s.n := by rw [HN.out]; exact hin
      have o1 := hr.objs.cell hiN (d := 1) (by omega)
      have hsu : s.blk (i + 1) = if s.B 0 i then s.blk i ++ [⟨i, s.sh i⟩] else s.blk i := rfl
      cases hb0 : s.B 0 i with
      | false =>
        have e : s.ro i 1 = 0 := by unfold St.ro; rw [hb0]; rfl
        rw [hb0, if_neg (by decide)] at hsu
        rw [e] at o1
        have HSU := Lib.hid hsu
        clear e hb0 hsu hr hst hown
        go_wp2_with fail
        exact ⟨⟨i + 1, by go_num, hin, by rw [HSU.out]; exact HOW.out, HST.out⟩, by first | (simp [intOf]; done) | (simp [intOf]; omega)⟩
      | true =>
        rw [hb0, if_pos rfl] at hsu
        have hk := (HS.out.fine i hb0).1.2.2.1
        have o0 := hr.objs.cell hiN (d := 0) (by omega)
        have o2 := hr.objs.cell hiN (d := 2) (by omega)
        have o3 := hr.objs.cell hiN (d := 3) (by omega)
        have o4 := hr.objs.cell hiN (d := 4) (by omega)
        have e : ∀ d, s.ro i d = if d = 0 then (i : Int) else if d = 1 then (s.sh i).k else if d = 2 then (s.sh i).z else if d = 3 then (s.sh i).s else (s.sh i).t := fun d => by unfold St.ro; rw [if_pos hb0]
        rw [e, Nat.add_zero] at o0
        rw [e] at o1 o2 o3 o4
        change _ = some (Value.int IntKind.i64 (i : Int)) at o0
        change _ = some (Value.int IntKind.i64 (s.sh i).k) at o1
        change _ = some (Value.int IntKind.i64 (s.sh i).z) at o2
        change _ = some (Value.int IntKind.i64 (s.sh i).s) at o3
        change _ = some (Value.int IntKind.i64 (s.sh i).t) at o4
        obtain ⟨⟨k, z, r, t⟩, hx⟩ : ∃ x, s.sh i = x := ⟨_, rfl⟩
        rw [hx] at hk o1 o2 o3 o4 hsu
        dsimp only at hk o1 o2 o3 o4
        have hkn : (k != 0) = true := by simp; omega
        have hbl := HBL.out i
        obtain ⟨x', w5, happ, hown5, ho5, hs5, _, _⟩ := ob_append wr B0 (s.blk i) u3 hown (by rw [← HB0.out]; exact hst.size) (by omega) ⟨i, ⟨k, z, r, t⟩⟩
        have HST5 : Hid (Still w w5) := Lib.hid (hst.trans' ho5 (.inr (Nat.le_of_eq HB0.out)) (.inr (Nat.le_of_eq HB0.out)))
        have HAPP := Lib.hid happ
        rw [← hsu] at hown5
        have HOW5 := Lib.hid hown5
        clear e hb0 hsu hr hst hown hx happ hown5 ho5 hs5 hbl hk
        go_wp2_with (first | (at_builtin; refine wpList_append_eq rfl _ _ 62 rfl _ _ _ _ rfl rfl HAPP.out ?_))
        exact ⟨⟨i + 1, by go_num, hin, HOW5.out, HST5.out⟩, by first | (simp [intOf]; done) | (simp [intOf]; omega)⟩
    · obtain rfl : i = N := by omega
      rw [← HBS.out] at HOW
      clear hr hst hown
      go_wp2_with fail
      go_ret
      exact ⟨⟨_, rfl, HOW.out⟩, HST.out⟩
set_option maxRecDepth 100000 in
set_option maxHeartbeats 3200000 in
theorem rroom_of (w : World) (R : RLay) (s : St) (h : RefAt w R s) (hs : s.RefOk) :
    Calls Tryz.prog 37 #[.pointer (some ⟨R.rb, 0, none⟩)] w fun e w' => e = .returned (.int .i64 (sumTo (fun a : Nat => if s.B 0 a then Sp.wide (s.sh a).z else 0) (64 * s.n))) ∧ Still w w' := by
  have HR := Lib.hid (fun W (hw : Still w W) => h.still hw)
  have HS := Lib.hid hs
  have hn1 := h.n1
  have hn2 := h.n2
  have HRM := Lib.hid (fun z h1 h2 W => rroom_any z h1 h2 W)
  obtain ⟨f, hf⟩ : ∃ f, (fun a : Nat => if s.B 0 a then Sp.wide (s.sh a).z else 0) = f := ⟨_, rfl⟩
  have HF : Hid (∀ a, f a = if s.B 0 a then Sp.wide (s.sh a).z else 0) := Lib.hid fun a => by rw [← hf]
  rw [hf]
  have HSB : Hid (∀ i, 0 ≤ sumTo f i ∧ sumTo f i ≤ 1024 * (i : Int)) := Lib.hid (by
    have h0 : ∀ a, 0 ≤ f a ∧ f a ≤ 1024 := fun a => by
      rw [HF.out]
      have := Sp.wide_le (s.sh a).z
      split <;> omega
    intro i
    induction i with
    | zero => exact ⟨Int.le_refl _, Int.le_refl _⟩
    | succ i ih =>
      have := h0 i
      show 0 ≤ sumTo f i + f i ∧ sumTo f i + f i ≤ _
      omega)
  obtain ⟨N, hN⟩ : ∃ N, 64 * s.n = N := ⟨_, rfl⟩
  have HN := Lib.hid hN
  have hNM : (N : Int) ≤ 262144 := by omega
  rw [hN]
  clear h hs hn1 hn2 hf hN
  go_enter Tryz.func37, Tryz.ntmps37
  go_wp2_with fail
  go_loopw [3, 4] (fun x y W => ∃ i : Nat, x = .int .i64 (sumTo f i) ∧ y = .int .i64 (i : Int) ∧ i ≤ N ∧ Still w W) (fun _ y _ => N + 1 - (intOf y).toNat)
  case atStart => exact ⟨0, rfl, rfl, Nat.zero_le _, Only.refl _ _ _⟩
  case round =>
    obtain ⟨i, rfl, rfl, hi, hst⟩ := hrel
    have hi0 : (0 : Int) ≤ (i : Int) := by omega
    have HST := Lib.hid hst
    have hr := HR.out _ hst
    have c2 := hr.c2
    obtain ⟨l1, l2, l3, l4, l5⟩ := hr.lts
    rw [HN.out] at c2
    by_cases hin : i < N
    · have hiI : (i : Int) < (N : Int) := by omega
      have hiN : i < 64 * s.n := by rw [HN.out]; exact hin
      have o1 := hr.objs.cell hiN (d := 1) (by omega)
      have hsu : sumTo f (i + 1) = sumTo f i + f i := rfl
      have hbd := HSB.out i
      cases hb0 : s.B 0 i with
      | false =>
        have e : s.ro i 1 = 0 := by unfold St.ro; rw [hb0]; rfl
        rw [HF.out, hb0, if_neg (by decide), Int.add_zero] at hsu
        rw [e] at o1
        have HSU := Lib.hid hsu
        clear e hb0 hsu hr hst
        generalize sumTo f i = x at *
        go_wp2_with fail
        exact ⟨⟨i + 1, by rw [HSU.out], by go_num, hin, HST.out⟩, by first | (simp [intOf]; done) | (simp [intOf]; omega)⟩
      | true =>
        obtain ⟨_, _, hk, _, hz1, hz2⟩ := (HS.out.fine i hb0).1
        rw [HF.out, hb0, if_pos rfl] at hsu
        have o2 := hr.objs.cell hiN (d := 2) (by omega)
        have e : ∀ d, s.ro i d = if d = 0 then (i : Int) else if d = 1 then (s.sh i).k else if d = 2 then (s.sh i).z else if d = 3 then (s.sh i).s else (s.sh i).t := fun d => by unfold St.ro; rw [if_pos hb0]
        rw [e] at o1 o2
        change _ = some (Value.int IntKind.i64 (s.sh i).k) at o1
        change _ = some (Value.int IntKind.i64 (s.sh i).z) at o2
        have hkn : ((s.sh i).k != 0) = true := by simp; omega
        have hww := Sp.wide_le (s.sh i).z
        have HRR := Lib.hid (fun W => HRM.out (s.sh i).z hz1 hz2 W)
        generalize (s.sh i).k = kd at *
        generalize Sp.wide (s.sh i).z = wd at *
        generalize (s.sh i).z = z at *
        generalize sumTo f i = x at *
        have HSU := Lib.hid hsu
        have hx1 := hbd.1
        have hx2 : x ≤ 1024 * 262144 := by omega
        have hw1 := hww.1
        have hw2 := hww.2
        clear e hb0 hsu hr hst hk hbd hww
        go_wp2_with fail
        refine (HRR.out _).mono ?_
        rintro e w1 ⟨rfl, rfl⟩
        go_wp2_with fail
        exact ⟨⟨i + 1, by rw [HSU.out], by go_num, hin, HST.out⟩, by first | (simp [intOf]; done) | (simp [intOf]; omega)⟩
    · obtain rfl : i = N := by omega
      clear hr hst
      go_wp2_with fail
      go_ret
      exact ⟨rfl, HST.out⟩
end Go.Proofs.YtfbcdmhmpfijjaaGreatDoor

namespace Go.Proofs.YtfbcdmhmpfijjaaGreatDoor
open Go Go.RowKit

set_option maxRecDepth 100000 in
set_option maxHeartbeats 6400000 in
theorem rdump_any (w : World) (R : RLay) (s : St) (h : RefAt w R s) (hs : s.RefOk) (Q : Ending → World → Prop)
    (hQ : ∀ v1 v2 v3 w', Lists w' w.heap.size s v1 v2 v3 → Still w w' → Q (.returned (.agg #[v1, v2, v3, .int .i64 (s.hd0 0), .int .i64 (s.hd0 1), .int .i64 (s.hd0 2), .int .i64 (s.hd0 3), .int .i64 (s.hd0 4), .int .i64 (s.hd0 5), .int .i64 (s.hd0 6), .int .i64 (s.hd0 7), .int .i64 s.ser])) w') :
    Calls Tryz.prog 40 #[.pointer (some ⟨R.rb, 0, none⟩)] w Q := by
  have HS := Lib.hid h
  have HQ := Lib.hid hQ
  clear hQ
  go_enter Tryz.func40, Tryz.ntmps40
  go_wp2_with fail
  have hb0 : (w.alloc zero12).heap[w.heap.size]? = some zero12 := heap_alloc_new w _
  have hst : Still w (w.alloc zero12) := (Only.refl _ _ w).alloc _
  have H1 := Lib.hid (h.still hst)
  have hs1 : R.hi ≤ (w.alloc zero12).heap.size := H1.out.top
  unfold zero12 at *
  generalize w.alloc (.cells #[.slice none 0 0, .slice none 0 0, .slice none 0 0, .int .i64 0, .int .i64 0, .int .i64 0, .int .i64 0, .int .i64 0, .int .i64 0, .int .i64 0, .int .i64 0, .int .i64 0] 73) = w1 at *
  have HB0 := Lib.hid hb0
  have HST := Lib.hid hst
  have c0 := H1.out.c0
  have c1 := H1.out.c1
  have c3 := H1.out.c3
  have t0 := H1.out.t0
  obtain ⟨l1, l2, l3, l4, l5⟩ := H1.out.lts
  have HAPP := Lib.hid (fun w' (h : RefAt w' R s) => rwords_copy w' R s h)
  have HALL := Lib.hid (fun w' (h : RefAt w' R s) => rpages_copy w' R s h)
  have HBLK := Lib.hid (fun w' (h : RefAt w' R s) => rblocks_of w' R s h hs)
  obtain ⟨N, hN⟩ : ∃ N, 64 * s.n = N := ⟨_, rfl⟩
  rw [hN] at c0 HAPP
  have HN := Lib.hid hN
  obtain ⟨ser, hser⟩ : ∃ ser, s.ser = ser := ⟨_, rfl⟩
  rw [hser] at c3
  have HSE := Lib.hid hser
  have HC : Hid (∀ w', Still w1 w' → w'.cell? ⟨R.rb, 0, none⟩ = some (.slice (some ⟨R.wb, 0, none⟩) N R.cw) ∧ w'.cell? ⟨R.rb, 1, none⟩ = some (.pointer (some ⟨R.tb, 0, none⟩)) ∧ w'.cell? ⟨R.tb, 0, none⟩ = some (.slice (some ⟨R.pb, 0, none⟩) s.n R.cp) ∧ w'.cell? ⟨R.rb, 3, none⟩ = some (.int .i64 ser)) := Lib.hid fun w' hs => by
    have := H1.out.still hs
    have h1 := this.c0
    have h2 := this.c3
    rw [hN] at h1
    rw [hser] at h2
    exact ⟨h1, this.c1, this.t0, h2⟩
  have HRO := Lib.hid hs
  have HW1 : Hid (w.heap.size < w1.heap.size) := Lib.hid (Array.getElem?_eq_some_iff.1 hb0).1
  clear h hb0 hst hN hser hs
  go_cut [3] from 5 to 24 (fun s3 wx => ∃ db v1 v2 v3, s3 = .pointer (some ⟨db, 0, none⟩) ∧ DmpAt w1 w1.heap.size s db v1 v2 v3 (fun _ => 0) wx)
  case first =>
    have hsC : Still w1 w1 := Only.refl _ _ _
    clear hs1
    go_region_held3 (fun w' => w'.cell? ⟨R.rb, 0, none⟩ = some (.slice (some ⟨R.wb, 0, none⟩) N R.cw) ∧ w'.cell? ⟨R.rb, 1, none⟩ = some (.pointer (some ⟨R.tb, 0, none⟩)) ∧ w'.cell? ⟨R.tb, 0, none⟩ = some (.slice (some ⟨R.pb, 0, none⟩) s.n R.cp) ∧ w'.cell? ⟨R.rb, 3, none⟩ = some (.int .i64 ser))
      (first | with_reducible exact ⟨k0, k1, k2, k3⟩ | (refine HC.out _ ?_; repeat first | with_reducible exact hsC | with_reducible exact Only.refl _ _ _ | with_reducible apply Only.drew | with_reducible apply Only.drewN | with_reducible apply Only.alloc | (with_reducible refine Only.setCell ?_ (.inr ?_) _; rotate_left; (dsimp only; omega))))
      (first
        | (refine step_append_some rfl _ _ 27 rfl _ _ rfl rfl (HAPP.out _ (H1.out.still (by (repeat first | exact hsC | exact Only.refl _ _ _ | apply Only.drew | apply Only.drewN | apply Only.alloc)))) (fun v1 wa hR => ?_); obtain ⟨hr1, hcall⟩ := hR; obtain ⟨a1, n1, p1, rfl⟩ := own_slice hr1; have hr1 := ownsRow_le hr1 (Only.size (lo := w1.heap.size) (hi := w1.heap.size) (w := w1) (by (repeat first | exact hsC | exact Only.refl _ _ _ | apply Only.drew | apply Only.drewN | apply Only.alloc))); (try have hr2 := ownsRow_still hr2 (Still.trans (by (repeat first | exact hsC | exact Only.refl _ _ _ | apply Only.drew | apply Only.drewN | apply Only.alloc)) hcall)); (try have hr3 := ownsRow_still hr3 (Still.trans (by (repeat first | exact hsC | exact Only.refl _ _ _ | apply Only.drew | apply Only.drewN | apply Only.alloc)) hcall)); (try (first | (have hzb := at_only hcall hzb (.inl (Array.getElem?_eq_some_iff.1 hzb).1)) | (have hzb := fresh_still hcall rfl)); have hz0 := cell_of (v := .slice none 0 0) hzb 0 rfl; have hf0 := frozen_of hzb 0; have hz1 := cell_of (v := .slice none 0 0) hzb 1 rfl; have hf1 := frozen_of hzb 1; have hz2 := cell_of (v := .slice none 0 0) hzb 2 rfl; have hf2 := frozen_of hzb 2; have hz3 := cell_of (v := .int .i64 0) hzb 3 rfl; have hf3 := frozen_of hzb 3; have hz4 := cell_of (v := .int .i64 0) hzb 4 rfl; have hf4 := frozen_of hzb 4; have hz5 := cell_of (v := .int .i64 0) hzb 5 rfl; have hf5 := frozen_of hzb 5; have hz6 := cell_of (v := .int .i64 0) hzb 6 rfl; have hf6 := frozen_of hzb 6; have hz7 := cell_of (v := .int .i64 0) hzb 7 rfl; have hf7 := frozen_of hzb 7; have hz8 := cell_of (v := .int .i64 0) hzb 8 rfl; have hf8 := frozen_of hzb 8; have hz9 := cell_of (v := .int .i64 0) hzb 9 rfl; have hf9 := frozen_of hzb 9; have hz10 := cell_of (v := .int .i64 0) hzb 10 rfl; have hf10 := frozen_of hzb 10; have hz11 := cell_of (v := .int .i64 0) hzb 11 rfl; have hf11 := frozen_of hzb 11; have hlz := (Array.getElem?_eq_some_iff.1 hzb).1); have hsC : Still w1 wa := Still.trans (by (repeat first | exact hsC | exact Only.refl _ _ _ | apply Only.drew | apply Only.drewN | apply Only.alloc)) hcall; have hszC := hsC.size; obtain ⟨k0, k1, k2, k3⟩ := HC.out _ hsC)
        | (refine step_append_some rfl _ _ 70 rfl _ _ rfl rfl (HALL.out _ (H1.out.still (by (repeat first | exact hsC | exact Only.refl _ _ _ | apply Only.drew | apply Only.drewN | apply Only.alloc)))) (fun v2 wp hR => ?_); obtain ⟨hr2, hcall⟩ := hR; obtain ⟨a2, n2, p2, rfl⟩ := own_slice hr2; have hr2 := ownsRow_le hr2 (Only.size (lo := w1.heap.size) (hi := w1.heap.size) (w := w1) (by (repeat first | exact hsC | exact Only.refl _ _ _ | apply Only.drew | apply Only.drewN | apply Only.alloc))); (try have hr1 := ownsRow_still hr1 (Still.trans (by (repeat first | exact hsC | exact Only.refl _ _ _ | apply Only.drew | apply Only.drewN | apply Only.alloc)) hcall)); (try have hr3 := ownsRow_still hr3 (Still.trans (by (repeat first | exact hsC | exact Only.refl _ _ _ | apply Only.drew | apply Only.drewN | apply Only.alloc)) hcall)); (try (first | (have hzb := at_only hcall hzb (.inl (Array.getElem?_eq_some_iff.1 hzb).1)) | (have hzb := fresh_still hcall rfl)); have hz0 := cell_of (v := .slice none 0 0) hzb 0 rfl; have hf0 := frozen_of hzb 0; have hz1 := cell_of (v := .slice none 0 0) hzb 1 rfl; have hf1 := frozen_of hzb 1; have hz2 := cell_of (v := .slice none 0 0) hzb 2 rfl; have hf2 := frozen_of hzb 2; have hz3 := cell_of (v := .int .i64 0) hzb 3 rfl; have hf3 := frozen_of hzb 3; have hz4 := cell_of (v := .int .i64 0) hzb 4 rfl; have hf4 := frozen_of hzb 4; have hz5 := cell_of (v := .int .i64 0) hzb 5 rfl; have hf5 := frozen_of hzb 5; have hz6 := cell_of (v := .int .i64 0) hzb 6 rfl; have hf6 := frozen_of hzb 6; have hz7 := cell_of (v := .int .i64 0) hzb 7 rfl; have hf7 := frozen_of hzb 7; have hz8 := cell_of (v := .int .i64 0) hzb 8 rfl; have hf8 := frozen_of hzb 8; have hz9 := cell_of (v := .int .i64 0) hzb 9 rfl; have hf9 := frozen_of hzb 9; have hz10 := cell_of (v := .int .i64 0) hzb 10 rfl; have hf10 := frozen_of hzb 10; have hz11 := cell_of (v := .int .i64 0) hzb 11 rfl; have hf11 := frozen_of hzb 11; have hlz := (Array.getElem?_eq_some_iff.1 hzb).1); have hsC : Still w1 wp := Still.trans (by (repeat first | exact hsC | exact Only.refl _ _ _ | apply Only.drew | apply Only.drewN | apply Only.alloc)) hcall; have hszC := hsC.size; obtain ⟨k0, k1, k2, k3⟩ := HC.out _ hsC)
        | (go_at_call 32; refine (HBLK.out _ (H1.out.still (by (repeat first | exact hsC | exact Only.refl _ _ _ | apply Only.drew | apply Only.drewN | apply Only.alloc)))).mono ?_; rintro e wq ⟨⟨v3, rfl, hr3⟩, hcall⟩; obtain ⟨a3, n3, p3, rfl⟩ := own_slice hr3; have hr3 := ownsRow_le hr3 (Only.size (lo := w1.heap.size) (hi := w1.heap.size) (w := w1) (by (repeat first | exact hsC | exact Only.refl _ _ _ | apply Only.drew | apply Only.drewN | apply Only.alloc))); (try have hr1 := ownsRow_still hr1 (Still.trans (by (repeat first | exact hsC | exact Only.refl _ _ _ | apply Only.drew | apply Only.drewN | apply Only.alloc)) hcall)); (try have hr2 := ownsRow_still hr2 (Still.trans (by (repeat first | exact hsC | exact Only.refl _ _ _ | apply Only.drew | apply Only.drewN | apply Only.alloc)) hcall)); (try (first | (have hzb := at_only hcall hzb (.inl (Array.getElem?_eq_some_iff.1 hzb).1)) | (have hzb := fresh_still hcall rfl)); have hz0 := cell_of (v := .slice none 0 0) hzb 0 rfl; have hf0 := frozen_of hzb 0; have hz1 := cell_of (v := .slice none 0 0) hzb 1 rfl; have hf1 := frozen_of hzb 1; have hz2 := cell_of (v := .slice none 0 0) hzb 2 rfl; have hf2 := frozen_of hzb 2; have hz3 := cell_of (v := .int .i64 0) hzb 3 rfl; have hf3 := frozen_of hzb 3; have hz4 := cell_of (v := .int .i64 0) hzb 4 rfl; have hf4 := frozen_of hzb 4; have hz5 := cell_of (v := .int .i64 0) hzb 5 rfl; have hf5 := frozen_of hzb 5; have hz6 := cell_of (v := .int .i64 0) hzb 6 rfl; have hf6 := frozen_of hzb 6; have hz7 := cell_of (v := .int .i64 0) hzb 7 rfl; have hf7 := frozen_of hzb 7; have hz8 := cell_of (v := .int .i64 0) hzb 8 rfl; have hf8 := frozen_of hzb 8; have hz9 := cell_of (v := .int .i64 0) hzb 9 rfl; have hf9 := frozen_of hzb 9; have hz10 := cell_of (v := .int .i64 0) hzb 10 rfl; have hf10 := frozen_of hzb 10; have hz11 := cell_of (v := .int .i64 0) hzb 11 rfl; have hf11 := frozen_of hzb 11; have hlz := (Array.getElem?_eq_some_iff.1 hzb).1); have hsC : Still w1 wq := Still.trans (by (repeat first | exact hsC | exact Only.refl _ _ _ | apply Only.drew | apply Only.drewN | apply Only.alloc)) hcall; have hszC := hsC.size; obtain ⟨k0, k1, k2, k3⟩ := HC.out _ hsC))
    all_goals
      rename_i hHeld
      clear hHeld
      first
      | (have hfin : DmpAt w1 w1.heap.size s wq.heap.size (.slice a1 n1 p1) (.slice a2 n2 p2) (.slice a3 n3 p3) (fun _ => 0) (wq.alloc (.cells #[.slice a1 n1 p1, .slice a2 n2 p2, .slice a3 n3 p3, .int .i64 0, .int .i64 0, .int .i64 0, .int .i64 0, .int .i64 0, .int .i64 0, .int .i64 0, .int .i64 0, .int .i64 ser] 73)) := by
          refine ⟨hsC.alloc _, ?_, hszC, ⟨?_, ownsRow_still hr2 ((Only.refl _ _ wq).alloc _), ownsRow_still hr3 ((Only.refl _ _ wq).alloc _)⟩⟩
          · rw [HSE.out]; exact heap_alloc_new wq _
          · rw [HN.out]; exact ownsRow_still hr1 ((Only.refl _ _ wq).alloc _)
         go_wp2_with fail
         go_meet
         exact ⟨_, _, _, _, rfl, hfin⟩)
      | (go_wp2_with fail
         go_meet
         refine ⟨_, .slice a1 n1 p1, .slice a2 n2 p2, .slice a3 n3 p3, rfl, ?_⟩
         refine ⟨only_dump hsC (.inr (by omega)) _ _ _ _ _ _ _ _ _ _ _ _, ?_, (by omega), ⟨?_, ?_, ?_⟩⟩
         · rw [HSE.out]; exact dump_box hzb _ _ _ _ _ _ _ _ _ _ _ _
         · rw [HN.out]; exact ownsRow_of_block hr1 (fun g hg => dump_box_ne (own_ne hr1 hzb (by decide) g hg) _ _ _ _ _ _ _ _ _ _ _ _)
         · exact ownsRow_of_block hr2 (fun g hg => dump_box_ne (own_ne hr2 hzb (by decide) g hg) _ _ _ _ _ _ _ _ _ _ _ _)
         · exact ownsRow_of_block hr3 (fun g hg => dump_box_ne (own_ne hr3 hzb (by decide) g hg) _ _ _ _ _ _ _ _ _ _ _ _))
  case rest =>
    obtain ⟨db, v1, v2, v3, rfl, hd⟩ := hcut
    have HD := Lib.hid hd
    have HM := Lib.hid (fun w' (h : RefAt w' R s) (c : Nat) (hc : c < 8) => rnext_any w' R s h HRO.out c hc 0 (Nat.zero_le _))
    clear hd hs1 c0 c1 c3 t0 l1 l2 l3 l4 l5
    go_wp2_with fail
    go_loopw [4] (fun x wr => ∃ c : Nat, x = .int .i64 (c : Int) ∧ c ≤ 8 ∧ DmpAt w1 w1.heap.size s db v1 v2 v3 (fun j => if j < c then s.hd0 j else 0) wr) (fun x _ => 8 - (intOf x).toNat)
    case atStart => exact ⟨0, rfl, by omega, HD.out⟩
    case round =>
      obtain ⟨c, rfl, hc, hdm⟩ := hrel
      have hc0 : (0 : Int) ≤ (c : Int) := by omega
      by_cases hlt : c < 8
      · have hc8 : (c : Int) < 8 := by omega
        have HDM := Lib.hid hdm
        have hnx := HM.out wr (H1.out.still hdm.st) c hlt
        have HNX := Lib.hid hnx
        clear hdm hnx
        go_wp2_with fail
        refine HNX.out.mono ?_
        rintro e w4 ⟨rfl, hs4⟩
        have hdm4 : DmpAt w1 w1.heap.size s db v1 v2 v3 (fun j => if j < c then s.hd0 j else 0) w4 := ⟨Still.trans HDM.out.st hs4, at_only hs4 HDM.out.box (.inl (Array.getElem?_eq_some_iff.1 HDM.out.box).1), HDM.out.lo, HDM.out.li.still hs4⟩
        have HD4 := Lib.hid hdm4
        obtain ⟨z0, zf⟩ := dump_cell hdm4.box c hlt
        have zl := (Array.getElem?_eq_some_iff.1 hdm4.box).1
        clear hdm4 hs4
        go_wp2_with fail
        go_roundw
        case rel =>
          refine ⟨c + 1, by go_num, hlt, ?_⟩
          have := HD4.out.turn (Nat.le_refl _) c hlt (Bm.next (s.B (c + 1)) (64 * s.n) 0)
          have e : updH (fun j => if j < c then s.hd0 j else 0) c (Bm.next (s.B (c + 1)) (64 * s.n) 0) = fun j => if j < c + 1 then s.hd0 j else 0 := by
            funext j
            unfold updH
            by_cases ej : j = c
            · subst ej; rw [if_pos rfl, if_pos (by omega)]; rfl
            · rw [if_neg ej]
              dsimp only
              by_cases hj : j < c
              · rw [if_pos hj, if_pos (by omega)]
              · rw [if_neg hj, if_neg (by omega)]
          rw [e] at this
          exact this
        case measure => simp [intOf]; omega
      · have : c = 8 := by omega
        subst this
        obtain ⟨⟨a1, n1, p1, rfl⟩, ⟨a2, n2, p2, rfl⟩, ⟨a3, n3, p3, rfl⟩⟩ := And.intro (own_slice hdm.li.r1) (And.intro (own_slice hdm.li.r2) (own_slice hdm.li.r3))
        have hb : wr.heap[db]? = some (dumpObj (.slice a1 n1 p1) (.slice a2 n2 p2) (.slice a3 n3 p3) s.hd0 s.ser) := hdm.box
        have hb2 : wr.heap[w.heap.size]? = some zero12 := at_only hdm.st HB0.out (.inl HW1.out)
        have HDM := Lib.hid hdm
        have HB2 := Lib.hid hb2
        clear hdm
        have z0 := cell_of (v := .slice a1 n1 p1) hb 0 rfl
        have z1 := cell_of (v := .slice a2 n2 p2) hb 1 rfl
        have z2 := cell_of (v := .slice a3 n3 p3) hb 2 rfl
        have z3 := cell_of (v := .int .i64 (s.hd0 0)) hb 3 rfl
        have z4 := cell_of (v := .int .i64 (s.hd0 1)) hb 4 rfl
        have z5 := cell_of (v := .int .i64 (s.hd0 2)) hb 5 rfl
        have z6 := cell_of (v := .int .i64 (s.hd0 3)) hb 6 rfl
        have z7 := cell_of (v := .int .i64 (s.hd0 4)) hb 7 rfl
        have z8 := cell_of (v := .int .i64 (s.hd0 5)) hb 8 rfl
        have z9 := cell_of (v := .int .i64 (s.hd0 6)) hb 9 rfl
        have z10 := cell_of (v := .int .i64 (s.hd0 7)) hb 10 rfl
        have z11 := cell_of (v := .int .i64 s.ser) hb 11 rfl
        have y0 := cell_of (v := .slice none 0 0) hb2 0 rfl
        have f0 := frozen_of hb2 0
        have y1 := cell_of (v := .slice none 0 0) hb2 1 rfl
        have f1 := frozen_of hb2 1
        have y2 := cell_of (v := .slice none 0 0) hb2 2 rfl
        have f2 := frozen_of hb2 2
        have y3 := cell_of (v := .int .i64 0) hb2 3 rfl
        have f3 := frozen_of hb2 3
        have y4 := cell_of (v := .int .i64 0) hb2 4 rfl
        have f4 := frozen_of hb2 4
        have y5 := cell_of (v := .int .i64 0) hb2 5 rfl
        have f5 := frozen_of hb2 5
        have y6 := cell_of (v := .int .i64 0) hb2 6 rfl
        have f6 := frozen_of hb2 6
        have y7 := cell_of (v := .int .i64 0) hb2 7 rfl
        have f7 := frozen_of hb2 7
        have y8 := cell_of (v := .int .i64 0) hb2 8 rfl
        have f8 := frozen_of hb2 8
        have y9 := cell_of (v := .int .i64 0) hb2 9 rfl
        have f9 := frozen_of hb2 9
        have y10 := cell_of (v := .int .i64 0) hb2 10 rfl
        have f10 := frozen_of hb2 10
        have y11 := cell_of (v := .int .i64 0) hb2 11 rfl
        have f11 := frozen_of hb2 11
        have zl := (Array.getElem?_eq_some_iff.1 hb).1
        have yl := (Array.getElem?_eq_some_iff.1 hb2).1
        clear hb hb2 HD HM
        go_wp2_with fail
        obtain ⟨st, _, lo, li⟩ := HDM.out
        refine bodyPost_ret (v := .agg #[.slice a1 n1 p1, .slice a2 n2 p2, .slice a3 n3 p3, .int .i64 (s.hd0 0), .int .i64 (s.hd0 1), .int .i64 (s.hd0 2), .int .i64 (s.hd0 3), .int .i64 (s.hd0 4), .int .i64 (s.hd0 5), .int .i64 (s.hd0 6), .int .i64 (s.hd0 7), .int .i64 s.ser]) (by simp [results, Tryz.results40, go_sem, *]) rfl ?_
        refine HQ.out _ _ _ _ ((li.kept HB2.out fun k hk => dump_box_ne hk _ _ _ _ _ _ _ _ _ _ _ _).le (Nat.le_of_lt HW1.out)) ?_
        exact only_dump (Still.trans HST.out st) (.inr (Nat.le_refl _)) _ _ _ _ _ _ _ _ _ _ _ _
end Go.Proofs.YtfbcdmhmpfijjaaGreatDoor
