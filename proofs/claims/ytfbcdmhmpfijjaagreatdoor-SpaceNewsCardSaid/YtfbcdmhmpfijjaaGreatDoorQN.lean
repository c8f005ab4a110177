/-
  What Keep makes of a space of which the invariant holds.
-/
import Derived.Test.YtfbcdmhmpfijjaaGreatDoorQM
namespace Go.Proofs.YtfbcdmhmpfijjaaGreatDoor
open Go Go.RowKit

theorem St.Mid.of {s t : St} (h : s.Mid) (hn : t.n = s.n) (hP : t.P = s.P) (hB : t.B 0 = s.B 0) (hS : t.S = s.S) (h1 : t.ser = s.ser) (h2 : t.room = s.room) (h3 : t.acts = s.acts) (hQ : t.Q = s.Q) (hl : t.low = s.low) : t.Mid := by
  have hsh : ∀ x, t.sh x = s.sh x := fun x => by unfold St.sh; rw [hS]
  have hrun : ∀ p r, t.Run p r ↔ s.Run p r := fun p r => by unfold St.Run; rw [hn, hP]
  have hblk : ∀ c x, t.Blk c x ↔ s.Blk c x := fun c x => by unfold St.Blk; rw [hn, hP]
  refine ⟨by rw [hn]; exact h.n1, by rw [hn]; exact h.n2, fun p hp => ?_, fun a ha => ?_, fun p r hr => ?_, fun x hx => ?_, by rw [h1]; exact h.ser0, by rw [h1, h3]; exact h.ser1, fun a ha => ?_, ?_, by rw [h2, h3]; exact h.room2, h.idx.of hQ hB hS, h.lowf.of hP hl⟩
  · rw [hn] at hp
    rw [hP]
    rcases h.pages p hp with e | e | ⟨q, r, e1, e2⟩
    · exact .inl e
    · exact .inr (.inl e)
    · exact .inr (.inr ⟨q, r, (hrun q r).2 e1, e2⟩)
  · rw [hB] at ha
    obtain ⟨e1, e2⟩ := h.obj a ha
    unfold St.FineAt at e1 ⊢
    rw [hsh, hn]
    refine ⟨e1, ?_⟩
    rcases e2 with ⟨c, hc, hz, hb⟩ | ⟨hz, p, hp, hr⟩
    · exact .inl ⟨c, hc, hz, (hblk c a).2 hb⟩
    · exact .inr ⟨hz, p, hp, (hrun p _).2 hr⟩
  · rw [hB]; exact h.runs p r ((hrun p r).1 hr)
  · rw [hS]
    refine h.side x ?_
    unfold St.has at hx ⊢
    rw [hB] at hx
    exact hx
  · rw [hB] at ha
    rw [hsh, h1]
    exact h.sers a ha
  · rw [h2, h.room, hn, hB]
    exact sumTo_congr _ fun j _ => by rw [hsh]
theorem reset_B0 (s : St) (i : Nat) : (s.reset i).B 0 = s.B 0 := by unfold St.reset; dsimp only; rw [if_neg (by omega)]
theorem reset_B (s : St) (c : Nat) (hc : c < 8) (a : Nat) : (s.reset 8).B (c + 1) a = false := by unfold St.reset; dsimp only; rw [if_pos (by omega)]

theorem linkTo_W (s : St) (c x : Nat) : ∀ a, (s.linkTo c a).W x = if decide (x < a) && s.B (c + 1) x then s.link c x else s.W x
  | 0 => by
    rw [decide_eq_false (by omega)]; rfl
  | a + 1 => by
    have ih := linkTo_W s c x a
    have e : s.linkTo c (a + 1) = if s.B (c + 1) a then (s.linkTo c a).setWs (setW (s.linkTo c a).W a (s.link c a)) else s.linkTo c a := rfl
    rw [e]
    by_cases ex : x = a
    · subst ex
      cases hb : s.B (c + 1) x with
      | true =>
        rw [if_pos rfl, decide_eq_true (by omega)]
        show setW _ x _ x = _
        unfold setW; rw [if_pos rfl]; rfl
      | false =>
        rw [if_neg (by decide), ih, hb]; simp
    · have ed : decide (x < a + 1) = decide (x < a) := decide_eq_decide.2 (by omega)
      rw [ed, ← ih]
      split
      · show setW _ a _ x = _
        unfold setW; rw [if_neg ex]
      · rfl
theorem links_W (s : St) (hex : ∀ c c' x, c < 8 → c' < 8 → s.B (c + 1) x = true → s.B (c' + 1) x = true → c = c') (hlt : ∀ c x, c < 8 → s.B (c + 1) x = true → x < 64 * s.n) :
    ∀ k, k ≤ 8 → (∀ c x, c < k → s.B (c + 1) x = true → (s.links k).W x = s.link c x) ∧ (∀ x, (∀ c, c < k → s.B (c + 1) x = false) → (s.links k).W x = s.W x)
  | 0, _ => ⟨fun c x hc => by omega, fun _ _ => rfl⟩
  | k + 1, hk => by
    obtain ⟨h1, h2⟩ := links_W s hex hlt k (by omega)
    obtain ⟨W, hW⟩ := St.links_form s k
    have hB : (s.links k).B = s.B := by rw [hW]; rfl
    have hL : ∀ c x, (s.links k).link c x = s.link c x := fun c x => by rw [hW]; rfl
    have e : ∀ x, (s.links (k + 1)).W x = if decide (x < 64 * s.n) && s.B (k + 1) x then s.link k x else (s.links k).W x := fun x => by
      show ((s.links k).linkTo k (64 * s.n)).W x = _
      rw [linkTo_W, hB, hL]
    refine ⟨fun c x hc hb => ?_, fun x hx => ?_⟩
    · rw [e x]
      by_cases ec : c = k
      · subst ec
        rw [hb, decide_eq_true (hlt c x (by omega) hb)]; rfl
      · have : s.B (k + 1) x = false := by
          cases eb : s.B (k + 1) x with
          | false => rfl
          | true => exact absurd (hex c k x (by omega) (by omega) hb eb) ec
        rw [this, Bool.and_false, if_neg (by decide)]
        exact h1 c x (by omega) hb
    · rw [e x, hx k (by omega), Bool.and_false, if_neg (by decide)]
      exact h2 x fun c hc => hx c (by omega)

/-- What Keep has made. -/
structure St.Kept (s t : St) (stay : Nat → Bool) : Prop where
  inv : t.Inv
  b0 : ∀ x, t.B 0 x = (s.B 0 x && stay x)
  S : ∀ x : Nat, t.B 0 x = true → t.S x = s.S x
  n : t.n = s.n
  ser : t.ser = s.ser
  acts : t.acts = s.acts
  room : ∀ x, t.InRoom x → t.W x = s.W x
  zero : ∀ x, x < 64 * s.n → ¬t.InRoom x → (∀ c, c < 8 → t.B (c + 1) x = false) → t.W x = 0
  used : ∀ p c : Nat, p < s.n → t.P p = ⟨1, c, 0⟩ → ∃ x, x / 64 = p ∧ t.B 0 x = true

theorem St.Mid.tidyTo {s : St} (h : s.Mid) (hB : ∀ c, c < 8 → ∀ a, s.B (c + 1) a = false) : ∀ p, p ≤ s.n → s.Tidied (s.tidyTo p) p
  | 0, _ => .start hB
  | p + 1, hp => h.tidyStep (h.tidyTo hB p (by omega)) (by omega)
theorem Go_fit_run {s t : St} {p : Nat} (ht : s.Tidied t p) {q r : Nat} (h : s.Run q r) : t.Run q r := by
  obtain ⟨h1, h2, h3, h4⟩ := h
  refine ⟨h1, by rw [ht.n]; exact h2, ?_, fun j hj1 hj2 => ?_⟩
  · rcases ht.pg q with e | ⟨_, _, ⟨c, _, e⟩, _⟩
    · rw [e]; exact h3
    · rw [h3] at e; injection e with e2 _ _; omega
  · rcases ht.pg j with e | ⟨_, _, ⟨c, _, e⟩, _⟩
    · rw [e]; exact h4 j hj1 hj2
    · rw [h4 j hj1 hj2] at e; injection e with e2 _ _; omega
theorem Go_back_run {s t : St} {p : Nat} (ht : s.Tidied t p) {q r : Nat} (h : t.Run q r) : s.Run q r := by
  obtain ⟨h1, h2, h3, h4⟩ := h
  refine ⟨h1, by rw [← ht.n]; exact h2, ?_, fun j hj1 hj2 => ?_⟩
  · rcases ht.pg q with e | ⟨_, e, _⟩
    · rw [← e]; exact h3
    · rw [h3] at e; injection e with e2 _ _; omega
  · have h5 := h4 j hj1 hj2
    rcases ht.pg j with e | ⟨_, e, _⟩
    · rw [← e]; exact h5
    · rw [h5] at e; injection e with e2 _ _; omega
/-- Behind the tidying the free blocks are those that bear nothing. -/
theorem St.Mid.tidied {s t : St} (h : s.Mid) (ht : s.Tidied t s.n) : t.Mid := by
  have hsh : ∀ x, t.sh x = s.sh x := fun x => by unfold St.sh; rw [ht.S]
  refine ⟨by rw [ht.n]; exact h.n1, by rw [ht.n]; exact h.n2, fun p hp => ?_, fun a ha => ?_, fun p r hr => ?_, fun x hx => ?_, by rw [ht.ser]; exact h.ser0, by rw [ht.ser, ht.acts]; exact h.ser1, fun a ha => ?_, ?_, by rw [ht.rm, ht.acts]; exact h.room2, h.idx.of ht.Q ht.b0 ht.S, ht.lowf h.lowf⟩
  · rw [ht.n] at hp
    rcases ht.pg p with e | ⟨_, e, _⟩
    · rw [e]
      rcases h.pages p hp with e | e | ⟨q, r, e1, e2⟩
      · exact .inl e
      · exact .inr (.inl e)
      · exact .inr (.inr ⟨q, r, Go_fit_run ht e1, e2⟩)
    · exact .inl e
  · rw [ht.b0] at ha
    obtain ⟨e1, e2⟩ := h.obj a ha
    unfold St.FineAt at e1 ⊢
    rw [hsh, ht.n]
    refine ⟨e1, ?_⟩
    rcases e2 with ⟨c, hc, hz, q, i, hq, hi, hai, hQ⟩ | ⟨hz, p, hp, hr⟩
    · refine .inl ⟨c, hc, hz, q, i, by rw [ht.n]; exact hq, hi, hai, ?_⟩
      have := blk_page hc hi hai
      rcases ht.pg q with e | ⟨_, _, _, e⟩
      · rw [e]; exact hQ
      · rw [e a (by omega)] at ha; cases ha
    · exact .inr ⟨hz, p, hp, Go_fit_run ht hr⟩
  · rw [ht.b0]; exact h.runs p r (Go_back_run ht hr)
  · rw [ht.S]
    refine h.side x ?_
    unfold St.has at hx ⊢
    rw [ht.b0] at hx
    exact hx
  · rw [ht.b0] at ha
    rw [hsh, ht.ser]
    exact h.sers a ha
  · rw [ht.rm, h.room, ht.n, ht.b0]
    exact sumTo_congr _ fun j _ => by rw [hsh]

theorem inRoom_congr {s t : St} (hB : t.B 0 = s.B 0) (hS : t.S = s.S) (x : Nat) : t.InRoom x ↔ s.InRoom x := by
  have hsh : ∀ x, t.sh x = s.sh x := fun x => by unfold St.sh; rw [hS]
  unfold St.InRoom
  rw [hB]
  exact ⟨fun ⟨a, h1, h2, h3⟩ => ⟨a, h1, h2, by rw [← hsh]; exact h3⟩, fun ⟨a, h1, h2, h3⟩ => ⟨a, h1, h2, by rw [hsh]; exact h3⟩⟩

/-- What Keep makes of a space of which any words may be wrong. -/
structure St.KeptU (s t : St) (stay : Nat → Bool) : Prop where
  mid : t.Mid
  free : ∀ c, c < 8 → ∀ a, t.B (c + 1) a = true ↔ (t.Blk c a ∧ t.B 0 a = false)
  lnk : ∀ c, c < 8 → ∀ a : Nat, t.B (c + 1) a = true → t.W a = t.link c a
  b0 : ∀ x, t.B 0 x = (s.B 0 x && stay x)
  S : ∀ x : Nat, t.B 0 x = true → t.S x = s.S x
  n : t.n = s.n
  ser : t.ser = s.ser
  acts : t.acts = s.acts
  room : ∀ x, t.InRoom x → t.W x = s.W x
  zero : ∀ x, x < 64 * s.n → ¬t.InRoom x → (∀ c, c < 8 → t.B (c + 1) x = false) → t.W x = 0
  used : ∀ p c : Nat, p < s.n → t.P p = ⟨1, c, 0⟩ → ∃ x, x / 64 = p ∧ t.B 0 x = true
  apart : ∀ x, t.InRoom x → ∀ c, c < 8 → t.B (c + 1) x = false
  back : ∀ p, p < s.n → t.P p = s.P p ∨ t.P p = ⟨0, 0, 0⟩
theorem St.Mid.keep {s : St} (h : s.Mid) (stay : Nat → Bool) : s.KeptU (s.keep stay) stay := by
  have hd := h.dropTo stay (64 * s.n)
  unfold St.keep
  generalize s.dropTo stay (64 * s.n) = s1 at *
  have hr : (s1.reset 8).Mid := hd.mid.of rfl rfl (reset_B0 _ _) rfl rfl rfl rfl rfl rfl
  have hrB := reset_B s1
  have hrW : (s1.reset 8).W = s.W := hd.W
  have hrS : (s1.reset 8).S = s1.S := rfl
  have hrB0 : (s1.reset 8).B 0 = s1.B 0 := reset_B0 _ _
  have hrn : (s1.reset 8).n = s.n := hd.n
  have hrs : (s1.reset 8).ser = s.ser := hd.ser
  have hra : (s1.reset 8).acts = s.acts := hd.acts
  have hrP : (s1.reset 8).P = s1.P := rfl
  generalize s1.reset 8 = s2 at *
  rw [← hrn]
  have ht := hr.tidyTo hrB s2.n (Nat.le_refl _)
  have hm := hr.tidied ht
  generalize s2.tidyTo s2.n = t at *
  have hfree : ∀ c, c < 8 → ∀ a, t.B (c + 1) a = true ↔ (t.Blk c a ∧ t.B 0 a = false) := fun c hc a => by
    rw [ht.free c hc a, ht.b0]
    refine ⟨fun hh => ⟨hh.1, hh.2.1⟩, fun hh => ⟨hh.1, hh.2, ?_⟩⟩
    obtain ⟨q, i, hq, hi, hai, _⟩ := hh.1
    have := blk_page hc hi hai
    rw [ht.n] at hq
    omega
  have hex : ∀ c c' x, c < 8 → c' < 8 → t.B (c + 1) x = true → t.B (c' + 1) x = true → c = c' := fun c c' x hc hc' h1 h2 => ((hfree c hc x).1 h1).1.same hc hc' ((hfree c' hc' x).1 h2).1
  have hlt : ∀ c x, c < 8 → t.B (c + 1) x = true → x < 64 * t.n := fun c x hc h1 => by
    obtain ⟨q, i, hq, hi, hai, _⟩ := ((hfree c hc x).1 h1).1
    have := blk_page hc hi hai
    omega
  obtain ⟨l1, l2⟩ := links_W t hex hlt 8 (Nat.le_refl _)
  obtain ⟨W, hW⟩ := St.links_form t 8
  have hWW : (t.links 8).W = W := by rw [hW]; rfl
  rw [hWW] at l1 l2
  rw [hW]
  have hm2 : (t.setWs W).Mid := hm.of rfl rfl rfl rfl rfl rfl rfl rfl rfl
  have hs20 : ∀ x, (t.setWs W).B 0 x = (s.B 0 x && stay x) := fun x => by
    show t.B 0 x = _
    rw [ht.b0, hrB0, hd.b0]
    by_cases hx : x < 64 * s.n
    · rw [decide_eq_false (by omega)]; rfl
    · have : s.B 0 x = false := by
        cases e : s.B 0 x with
        | false => rfl
        | true => have := (h.obj x e).2.lt; omega
      rw [this]; rfl
  -- where a room is, no free block begins
  have hroomfree : ∀ x, t.InRoom x → ∀ c, c < 8 → t.B (c + 1) x = false := fun x ⟨a, ha, h1, h2⟩ c hc => by
    cases e : t.B (c + 1) x with
    | false => rfl
    | true =>
      obtain ⟨hb, h0⟩ := (hfree c hc x).1 e
      have hne : x ≠ a := fun e2 => by rw [e2, ha] at h0; cases h0
      have := (hm.obj a ha).2.apart (.inl ⟨c, hc, hb⟩) hne
      omega
  refine ⟨hm2, fun c hc a => hfree c hc a, fun c hc a ha => l1 c a hc ha, hs20, fun x hx => ?_, ht.n.trans hrn, ht.ser.trans hrs, ht.acts.trans hra, fun x hx => ?_, fun x hx1 hx2 hx3 => ?_, fun p c hp hP => ?_, hroomfree, fun p hp => ?_⟩
  · show t.S x = _
    rw [ht.S, hrS]
    refine hd.S x ?_
    have hx : t.B 0 x = true := hx
    rw [ht.b0, hrB0] at hx
    exact hx
  · have hx : t.InRoom x := hx
    show W x = _
    rw [l2 x (hroomfree x hx), ht.room x ((inRoom_congr ht.b0 ht.S x).1 hx), hrW]
  · have hx2 : ¬t.InRoom x := hx2
    show W x = 0
    rw [l2 x hx3]
    exact ht.zero x (by rw [hrn]; exact hx1) (fun e => hx2 ((inRoom_congr ht.b0 ht.S x).2 e))
  · obtain ⟨x, h1, h2⟩ := ht.used p c (by omega) hP
    exact ⟨x, h1, by show t.B 0 x = true; rw [ht.b0]; exact h2⟩
  · rcases ht.pg p with e | ⟨_, e, _⟩
    · rw [hrP] at e
      exact (hd.back p).imp e.trans e.trans
    · exact .inr e
theorem St.InvX.keep {s : St} (h : s.Inv) (stay : Nat → Bool) : s.Kept (s.keep stay) stay := by
  have k := h.mid.keep stay
  generalize s.keep stay = t at *
  have hm2 := k.mid
  refine ⟨⟨hm2.n1, hm2.n2, hm2.pages, hm2.obj, fun p r hr => .inl (hm2.runs p r hr), fun c hc a => ?_, fun a ha => ?_, k.lnk, hm2.side, hm2.ser0, hm2.ser1, hm2.sers, hm2.room, hm2.room2, hm2.idx, hm2.lowf⟩, k.b0, k.S, k.n, k.ser, k.acts, k.room, k.zero, k.used⟩
  · refine (k.free c hc a).trans ⟨fun hh => ⟨hh.1, hh.2, id⟩, fun hh => ⟨hh.1, hh.2.1⟩⟩
  · have hfi := (hm2.obj a ha).1
    rw [k.room a ⟨a, ha, Nat.le_refl _, by have := Sp.wide_pos hfi.2.2.2.2.1 hfi.2.2.2.2.2; omega⟩]
    have h0 : s.B 0 a = true := by
      have := k.b0 a
      rw [ha] at this
      cases e : s.B 0 a with
      | true => rfl
      | false => rw [e] at this; cases this
    rw [h.hdr a h0]
    unfold St.hd St.sh
    rw [k.S a ha]
end Go.Proofs.YtfbcdmhmpfijjaaGreatDoor

namespace Go.Proofs.YtfbcdmhmpfijjaaGreatDoor
open Go Go.RowKit

theorem new_inv (n : Nat) (h1 : 1 ≤ n) (h2 : n ≤ 4096) : (St.new n).Inv := by
  have hP : ∀ p, (St.new n).P p = ⟨0, 0, 0⟩ := fun _ => rfl
  refine ⟨h1, h2, fun p _ => .inl rfl, fun a ha => ?_, fun p r hr => ?_, fun c hc a => ?_, fun a ha => ?_, fun c hc a ha => ?_, fun _ _ => rfl, Int.le_refl _, Int.le_refl _, fun a ha => ?_, ?_, Int.le_refl _, fun x a => ⟨fun h => (by cases h), fun ⟨n, _, h, _⟩ => (by cases h)⟩, fun p hp => (by exact absurd hp (Nat.not_lt_zero p))⟩
  · cases ha
  · have := hr.2.2.1
    rw [hP] at this; injection this with e _ _; omega
  · refine ⟨fun ha => (by cases ha), fun hh => ?_⟩
    obtain ⟨p, i, _, _, _, h⟩ := hh.1
    rw [hP] at h; injection h with e _ _; omega
  · cases ha
  · cases ha
  · cases ha
  · show (0 : Int) = _
    have : ∀ N, sumTo (fun a : Nat => if (St.new n).B 0 a = true then Sp.wide ((St.new n).sh a).z else 0) N = 0 := fun N => by
      induction N with
      | zero => rfl
      | succ N ih =>
        unfold sumTo
        rw [ih]
        rfl
    rw [this]

/-- Where an object of a class comes to lie. -/
theorem St.InvX.takeSmall {s : St} (h : s.Inv) {z : Int} {c : Nat} (hc : c < 8) (hcz : Sp.cls z = (c : Int)) (hlow : s.low ≤ s.n) :
    (∃ a : Nat, s.hd0 c = (a : Int) ∧ s.take z = (s.setB (c + 1) (setS (s.B (c + 1)) a false), (a : Int), 0, 0)) ∨
    ((∀ a, s.B (c + 1) a = false) ∧ s.ff = s.n ∧ s.take z = ({ s with low := s.ff }, 0, 20, 0)) ∨
    ((∀ a, s.B (c + 1) a = false) ∧ s.ff < s.n ∧ s.P s.ff = ⟨0, 0, 0⟩ ∧ s.take z = ((s.open c).setB (c + 1) (setS ((s.open c).B (c + 1)) (s.ff * 64) false), ((s.ff * 64 : Nat) : Int), 0, 0)) := by
  have hffn : s.ff ≤ s.n := firstFree_le _ _ _ hlow
  unfold St.take
  rw [if_neg (by omega), hcz, Int.toNat_natCast]
  by_cases h0 : 0 ≤ s.hd0 c
  · rw [if_pos h0]
    obtain ⟨a, ha⟩ := Int.eq_ofNat_of_zero_le h0
    rw [ha, Int.toNat_natCast]
    exact .inl ⟨a, rfl, (h.pick hc ha).1⟩
  · have he : ∀ a, s.B (c + 1) a = false := by
      unfold St.hd0 at h0
      rcases Bm.next_spec (s.B (c + 1)) (64 * s.n) 0 with ⟨_, e⟩ | ⟨i, e, _⟩
      · intro a
        cases eb : s.B (c + 1) a with
        | false => rfl
        | true =>
          obtain ⟨⟨p, i, h1, h2, h3, _⟩, _⟩ := (h.free c hc a).1 eb
          have := blk_page hc h2 h3
          have := e a (by omega) (by omega)
          rw [eb] at this; cases this
      · omega
    rw [if_neg h0]
    by_cases hf : s.ff = s.n
    · rw [if_pos hf]
      exact .inr (.inl ⟨he, hf, rfl⟩)
    · rw [if_neg hf]
      have hP := Pg.free_eq (firstFree_free s.P s.n s.low (show s.ff < s.n by omega))
      obtain ⟨o1, o2, o3⟩ := h.open hc (by omega) hP he
      exact .inr (.inr ⟨he, by omega, hP, (o1.pick hc o2).1⟩)

/-- The first object of three words of a new space of one page. -/
theorem first_take : ∃ s1, (St.new 1).take 3 = (s1, ((0 : Nat) : Int), 0, 0) ∧ s1.P 0 = ⟨1, ((1 : Nat) : Int), 0⟩ ∧ s1.n = 1 := by
  have h := new_inv 1 (by omega) (by omega)
  have hff : (St.new 1).ff = 0 := by
    show firstFree _ 1 0 = 0
    rw [firstFree, dif_pos (by omega)]
    rfl
  rcases h.takeSmall (z := 3) (c := 1) (by omega) (by decide) (Nat.zero_le _) with ⟨a, ha, _⟩ | ⟨_, hf, _⟩ | ⟨_, _, _, ht⟩
  · exfalso
    have : (St.new 1).hd0 1 = -1 := Bm.next_none fun _ _ _ => rfl
    omega
  · rw [hff] at hf; exact absurd hf (by decide)
  · rw [hff] at ht
    refine ⟨_, ht, ?_, rfl⟩
    show setPg (St.new 1).P (St.new 1).ff ⟨1, ((1 : Nat) : Int), 0⟩ 0 = _
    rw [hff]; rfl
theorem blk_one {s : St} (hn : s.n = 1) (hP : s.P 0 = ⟨1, ((1 : Nat) : Int), 0⟩) (x : Nat) : s.Blk 1 x ↔ ∃ i, i < 16 ∧ x = i * 4 := by
  constructor
  · rintro ⟨p, i, h1, h2, h3, _⟩
    obtain rfl : p = 0 := by omega
    exact ⟨i, h2, by rw [h3]; show 0 * 64 + i * 4 = _; omega⟩
  · rintro ⟨i, h1, h2⟩
    exact ⟨0, i, by omega, h1, by rw [h2]; show _ = 0 * 64 + i * 4; omega, hP⟩
theorem free_one {s : St} (h : s.Inv) (hn : s.n = 1) (hP : s.P 0 = ⟨1, ((1 : Nat) : Int), 0⟩) (x : Nat) : s.B 2 x = true ↔ (∃ i, i < 16 ∧ x = i * 4) ∧ s.B 0 x = false := by
  rw [h.free 1 (by omega) x, blk_one hn hP]
  exact ⟨fun hh => ⟨hh.1, hh.2.1⟩, fun hh => ⟨hh.1, hh.2, id⟩⟩
theorem next_one {s : St} (h : s.Inv) (hn : s.n = 1) (hP : s.P 0 = ⟨1, ((1 : Nat) : Int), 0⟩) (i f : Nat) (hi : i < 16) (hf : f ≤ i * 4) (hb : s.B 0 (i * 4) = false) (hno : ∀ j, f ≤ j * 4 → j < i → s.B 0 (j * 4) = true) : Bm.next (s.B 2) 64 (f : Int) = ((i * 4 : Nat) : Int) := by
  refine Bm.next_eq (by omega) (by omega) ((free_one h hn hP _).2 ⟨⟨i, hi, rfl⟩, hb⟩) (fun j hj hj2 => ?_)
  cases e : s.B 2 j with
  | false => rfl
  | true =>
    obtain ⟨⟨k, hk, rfl⟩, h2⟩ := (free_one h hn hP _).1 e
    rw [hno k (by omega) (by omega)] at h2; cases h2
end Go.Proofs.YtfbcdmhmpfijjaaGreatDoor
